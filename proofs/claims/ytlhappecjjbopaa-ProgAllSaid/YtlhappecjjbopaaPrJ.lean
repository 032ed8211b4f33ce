/-
  Prog: a band's places; sound blocks; by contracts. No condition.
  Prog: a block of a first band is put, by a contract. Conditions: at most 20000 ends, at most 900000 pieces.
  Prog: a block of a finer band is put, by a contract. Conditions: at most 20000 ends, at most 900000 pieces.
  Prog: the pieces of a band of blocks (AC), and the chapter's example, by contracts. Conditions: at most 1000 blocks.
-/
import Derived.Test.YtlhappecjjbopaaPrE
import Derived.Test.YtlhappecjjbopaaPrC
import Derived.Test.YtlhappecjjbopaaBlk
import Derived.Deep.RegionLaw
import Derived.BigRegion
namespace Go.Proofs.Ytlhappecjjbopaa
section
open Go.RowKit
set_option linter.unusedVariables false
set_option maxRecDepth 100000

/-- a band's places -/
def plc (f n : Nat) : List Int := (zzL.drop f).take n
theorem zzL_len : zzL.length = 64 := by decide +kernel
theorem plc_len {f n : Nat} (h : f + n ≤ 64) : (plc f n).length = n := by unfold plc; rw [List.length_take, List.length_drop, zzL_len]; omega
theorem plc_at {f n i : Nat} (h : f + n ≤ 64) (hi : i < n) : (plc f n)[i]? = some ((zzN (f + i) : Nat) : Int) := by
  unfold plc
  rw [List.getElem?_take_of_lt hi, List.getElem?_drop, ← (zzN_bd (f + i) (by omega)).2.1, List.getD_eq_getElem?_getD, List.getElem?_eq_getElem (by rw [zzL_len]; omega)]; rfl
def z64o : List Int := List.replicate 64 0
def PlaP (f n : Nat) (w : World) (e : Ending) (w' : World) : Prop := ∃ v, e = .returned v ∧ w'.ownsRow w.heap.size 3 1 v n (iv (plc f n)) ∧ Below w.heap.size w w'
set_option maxHeartbeats 4000000 in
theorem places_any (f t : Nat) (h l : Int) (hf : f ≤ t) (ht : t ≤ 63) (w : World) :
    Calls Try.prog 126 #[.agg #[.int .i64 (f : Nat), .int .i64 (t : Nat), .int .i64 h, .int .i64 l]] w (PlaP f (t + 1 - f) w) := by
  have hal : ∀ W : World, W.alloc (.cells #[.int .i64 0, .int .i64 0, .int .i64 0, .int .i64 0, .int .i64 0, .int .i64 0, .int .i64 0, .int .i64 0, .int .i64 0, .int .i64 0, .int .i64 0, .int .i64 0, .int .i64 0, .int .i64 0, .int .i64 0, .int .i64 0, .int .i64 0, .int .i64 0, .int .i64 0, .int .i64 0, .int .i64 0, .int .i64 0, .int .i64 0, .int .i64 0, .int .i64 0, .int .i64 0, .int .i64 0, .int .i64 0, .int .i64 0, .int .i64 0, .int .i64 0, .int .i64 0, .int .i64 0, .int .i64 0, .int .i64 0, .int .i64 0, .int .i64 0, .int .i64 0, .int .i64 0, .int .i64 0, .int .i64 0, .int .i64 0, .int .i64 0, .int .i64 0, .int .i64 0, .int .i64 0, .int .i64 0, .int .i64 0, .int .i64 0, .int .i64 0, .int .i64 0, .int .i64 0, .int .i64 0, .int .i64 0, .int .i64 0, .int .i64 0, .int .i64 0, .int .i64 0, .int .i64 0, .int .i64 0, .int .i64 0, .int .i64 0, .int .i64 0, .int .i64 0] 39) = W.alloc (.cells (iv z64o).toArray 39) := fun _ => rfl
  have X := Bln.new w 107 [.int .i64 (f : Nat), .int .i64 (t : Nat), .int .i64 h, .int .i64 l]
  have hb0 : Below w.heap.size w (w.alloc (.cells #[.int .i64 (f : Nat), .int .i64 (t : Nat), .int .i64 h, .int .i64 l] 107)) := (Below.refl _ _).alloc (Nat.le_refl _) _
  go_enter Try.func126, Try.ntmps126
  go_upto_region 1 with fail
  generalize w.alloc (.cells #[.int .i64 (f : Nat), .int .i64 (t : Nat), .int .i64 h, .int .i64 l] 107) = w0 at *
  have hsz := X.lt
  go_wp2_with fail
  refine (zigzag_any w0).mono ?_; rintro e w1 ⟨rfl, hb1⟩
  have X1 := X.below hb1
  have hb1' := hb0.trans (hb1.mono hb0.size)
  obtain ⟨ZL, hZL⟩ : ∃ z, z = zzL := ⟨_, rfl⟩
  rw [← hZL]
  have hz64 : (iv ZL).length = 64 := by rw [iv_len, hZL, zzL_len]
  obtain ⟨XG, hbG⟩ := Bln.copy w1 39 (iv z64o) (iv ZL) (by rw [hz64, iv_len]; rfl)
  have hzs : (iv ZL).toArray.size = 64 := hz64
  have hth : (w1.alloc (.cells (iv z64o).toArray 39)).there w1.heap.size 0 (iv ZL).toArray.size := by
    rw [hzs]; exact (Bln.new w1 39 (iv z64o)).there 64 (by rw [iv_len]; exact Nat.le_refl _)
  have HZS := Lib.hid hzs
  have hpl : plc f (t + 1 - f) = (ZL.drop f).take (t + 1 - f) := by rw [hZL]; rfl
  have HPL := Lib.hid hpl
  have HPN := Lib.hid (plc_len (f := f) (n := t + 1 - f) (by omega))
  have hX := Lib.hid X1
  clear hzs hz64 hZL hpl X X1 hb0 hb1
  go_upto_region 2 with (first | refine wpList_store_mid rfl 39 (.tmp 3) (.tmp 4) rfl _ _ (iv ZL).toArray rfl rfl hth (by rw [HZS.out]; kernel_rfl) (all_oneCell_toArray (one_iv ZL)) ?_)
  have X2 := hX.out.below hbG
  have hb2 := hb1'.trans (hbG.mono hb1'.size)
  have hs2 := hb2.size
  generalize (w1.alloc (.cells (iv z64o).toArray 39)).setCells w1.heap.size 0 (iv ZL) = w2 at *
  generalize w1.heap.size = gz at *
  have x0 := X2.cell (i := 0) (u := .int .i64 (f : Nat)) rfl
  have x1 := X2.cell (i := 1) (u := .int .i64 (t : Nat)) rfl
  have hgz := XG.lt
  have hRz : Rd w2 w2.heap.size (some ⟨gz, f, none⟩) (iv (plc f (t + 1 - f))) := .inr ⟨gz, f, rfl, hgz, fun k u hu => by
    rw [HPL.out] at hu
    unfold iv at hu
    rw [List.getElem?_map, List.getElem?_take, List.getElem?_drop] at hu
    refine XG.cell (i := f + k) ?_
    unfold iv
    rw [List.getElem?_map]
    split at hu
    · exact hu
    · cases hu⟩
  have HXG := Lib.hid XG
  have hf1 : (f : Int) ≤ (t : Int) + 1 := by omega
  have ht1 : (t : Int) + 1 ≤ 64 := by omega
  clear hth X2 hbG XG hb1'
  go_wp2_with fail
  refine (cloneInts_any _ _ _ (plc f (t + 1 - f)) w2 HPN.out hRz (by omega)).mono ?_; rintro e w3 ⟨v, rfl, ho, hb3⟩
  go_wp2
  go_ret
  exact ⟨v, rfl, own_base ho (fun k hk => by have := (ho.lt k hk).1; omega), hb2.trans (hb3.mono hs2)⟩

/-- is a block good? are all? -/
noncomputable def gB (b : List Int) : Bool := @decide (GoodB b) (Classical.propDecidable _)
theorem gB_t {b : List Int} (h : GoodB b) : gB b = true := by unfold gB; exact @decide_eq_true _ (Classical.propDecidable _) h
theorem gB_f {b : List Int} (h : ¬ GoodB b) : gB b = false := by unfold gB; exact @decide_eq_false _ (Classical.propDecidable _) h
theorem gB_iff (b : List Int) : gB b = true ↔ GoodB b := ⟨fun h => Classical.byContradiction fun h1 => (by rw [gB_f h1] at h; cases h), gB_t⟩
def GoodL (G : List (List Int)) : Prop := ∀ x ∈ G, GoodB x
noncomputable def gL (G : List (List Int)) : Bool := @decide (GoodL G) (Classical.propDecidable _)
theorem gL_t {b : List (List Int)} (h : GoodL b) : gL b = true := by unfold gL; exact @decide_eq_true _ (Classical.propDecidable _) h
theorem gL_f {b : List (List Int)} (h : ¬ GoodL b) : gL b = false := by unfold gL; exact @decide_eq_false _ (Classical.propDecidable _) h
theorem gL_iff (b : List (List Int)) : gL b = true ↔ GoodL b := ⟨fun h => Classical.byContradiction fun h1 => (by rw [gL_f h1] at h; cases h), gL_t⟩
def BoolP (b : Bool) (w : World) (e : Ending) (w' : World) : Prop := e = .returned (.bool b) ∧ Below w.heap.size w w'
theorem sound1_any (b : List Int) (hb : b.length = 64) (w : World) : Calls Try.prog 147 #[.agg (iv b).toArray] w (BoolP (!(gB b)) w) := by
  have X := Bln.new w 70 (iv b)
  have hb0 : Below w.heap.size w (w.alloc (.cells (iv b).toArray 70)) := (Below.refl _ _).alloc (Nat.le_refl _) _
  have HB := Lib.hid hb
  clear hb
  go_enter Try.func147, Try.ntmps147
  go_upto_region 1 with fail
  generalize w.alloc (.cells (iv b).toArray 70) = w0 at *
  have hr := X.range 0 (iv b) (fun j v hv => by rw [Nat.zero_add]; exact hv)
  go_wp2_with (refine wpList_load_mid rfl 70 (.tmp 1) rfl _ _ rfl (iv b) _ hr Try.underlying70 rfl (by rw [iv_len, HB.out]; kernel_rfl) ?_)
  refine (check_any b HB.out w0).mono ?_; rintro e w1 ⟨h1, h2, hb1⟩
  have hb1' := hb0.trans (hb1.mono hb0.size)
  by_cases hg : GoodB b
  · obtain rfl := h1 hg
    have HG := Lib.hid (gB_t hg)
    clear h1 h2 hg
    go_wp2
    go_ret
    exact ⟨by rw [HG.out]; rfl, hb1'⟩
  · obtain rfl := h2 hg
    have HG := Lib.hid (gB_f hg)
    unfold errV
    clear h1 h2 hg
    go_wp2
    go_ret
    exact ⟨by rw [HG.out]; rfl, hb1'⟩
def IdxG (G : List (List Int)) (w : World) (e : Ending) (w' : World) : Prop := ∃ r : Int, e = .returned (.int .i64 r) ∧ (GoodL G → r = -1) ∧ (¬ GoodL G → 0 ≤ r) ∧ Below w.heap.size w w'
set_option maxHeartbeats 2000000 in
theorem idxB_any (A : Option Addr) (n c : Nat) (G : List (List Int)) (w : World) (h : Blk w A n G) (hm : n ≤ 2000000) :
    Calls Try.prog 153 #[.slice A n c, .func (.func 147) #[] #[]] w (IdxG G w) := by
  have HG := Lib.hid h
  clear h
  go_enter Try.func153, Try.ntmps153
  go_wp2
  go_loopw [8] (fun i wr => ∃ k : Nat, k ≤ n ∧ i = .int .i64 k ∧ (∀ x ∈ G.take k, GoodB x) ∧ Below w.heap.size w wr) (fun i _ => n - (intOf i).toNat)
  case atStart => exact ⟨0, Nat.zero_le _, rfl, fun x hx => by simp at hx, Below.refl _ _⟩
  case round =>
    obtain ⟨k, hk, rfl, hok, hb⟩ := hrel
    have HOK := Lib.hid hok
    obtain ⟨wi, rfl⟩ : ∃ wi : World, wi = wr := ⟨_, rfl⟩
    clear hok
    by_cases hlt : k < n
    · obtain ⟨x, b1, o1, hx, hxm, hx64, hxI, rfl, hb1, hrg⟩ := (HG.out.below hb).at_ hlt
      have hk0 : (0 : Int) ≤ (k : Int) := by omega
      have hk1 : (k : Int) < (n : Int) := by omega
      have HXL := Lib.hid hx64
      have htk : G.take (k + 1) = G.take k ++ [x] := by rw [List.take_add_one, hx]; rfl
      have HTK := Lib.hid htk
      have HXM := Lib.hid hxm
      clear hx hxm hx64 hxI htk hb1
      by_cases hg : GoodB x
      · have HGG := Lib.hid hg
        go_wp2_with (refine wpList_load_mid rfl 70 (.tmp 14) rfl _ _ rfl (iv x) _ hrg Try.underlying70 rfl (by rw [iv_len, HXL.out]; kernel_rfl) ?_)
        refine (sound1_any x HXL.out wi).mono ?_; rintro e w1 ⟨rfl, hb1⟩
        rw [gB_t hg]
        clear hrg hg
        go_wp2
        go_roundw
        case rel =>
          refine ⟨k + 1, by omega, by go_num, fun y hy => ?_, hb.trans (hb1.mono hb.size)⟩
          rw [HTK.out] at hy
          rcases List.mem_append.1 hy with hy | hy
          · exact HOK.out y hy
          · rw [List.mem_singleton.1 hy]; exact HGG.out
        case measure => simp [intOf]; omega
      · have HGG := Lib.hid hg
        go_wp2_with (refine wpList_load_mid rfl 70 (.tmp 14) rfl _ _ rfl (iv x) _ hrg Try.underlying70 rfl (by rw [iv_len, HXL.out]; kernel_rfl) ?_)
        refine (sound1_any x HXL.out wi).mono ?_; rintro e w1 ⟨rfl, hb1⟩
        rw [gB_f hg]
        clear hrg hg
        go_wp2
        go_ret
        exact ⟨(k : Int), rfl, fun h => absurd (h x HXM.out) HGG.out, fun _ => by omega, hb.trans (hb1.mono hb.size)⟩
    · have htl : G.take k = G := List.take_of_length_le (by rw [HG.out.len]; omega)
      rw [htl] at HOK
      go_wp2
      go_ret
      exact ⟨-1, rfl, fun _ => rfl, fun h => absurd HOK.out h, hb⟩
theorem containsB_any (A : Option Addr) (n c : Nat) (G : List (List Int)) (w : World) (h : Blk w A n G) (hm : n ≤ 2000000) :
    Calls Try.prog 146 #[.slice A n c, .func (.func 147) #[] #[]] w (BoolP (!(gL G)) w) := by
  go_enter Try.func146, Try.ntmps146
  go_wp2_with fail
  refine (idxB_any A n c G w h hm).mono ?_; rintro e w1 ⟨r, rfl, h1, h2, hb⟩
  by_cases hk : GoodL G
  · obtain rfl := h1 hk
    have hd := gL_t hk
    have HD := Lib.hid hd
    clear h1 h2 hk hd
    go_wp2
    go_ret
    exact ⟨by rw [HD.out]; rfl, hb⟩
  · have h3 := h2 hk
    have hd := gL_f hk
    have HD := Lib.hid hd
    clear h1 h2 hk hd
    go_wp2
    go_ret
    exact ⟨by rw [HD.out]; rfl, hb⟩
theorem sound_any (A : Option Addr) (n c : Nat) (G : List (List Int)) (w : World) (h : Blk w A n G) (hm : n ≤ 2000000) :
    Calls Try.prog 116 #[.slice A n c] w (BoolP (gL G) w) := by
  go_enter Try.func116, Try.ntmps116
  go_wp2_with fail
  refine (containsB_any A n c G w h hm).mono ?_; rintro e w1 ⟨rfl, hb⟩
  generalize gL G = g at *
  go_wp2
  go_ret
  exact ⟨by simp, hb⟩
end
section
open Go.RowKit
set_option linter.unusedVariables false
set_option maxRecDepth 100000

/-- a number's bounds, of a good block -/
theorem tn_bd {x : List Int} (hx : x.length = 64) (hg : GoodB x) (f : Nat) (l : Int) (i : Nat) (hi : f + i < 64) : -1024 ≤ x.getD (zzN (f + i)) 0 ∧ x.getD (zzN (f + i)) 0 ≤ 1023 := by
  have hz := zzN_bd (f + i) hi
  rcases Nat.eq_zero_or_pos (zzN (f + i)) with h | h
  · rw [h]; exact hg.2
  · have := hg.1 _ h hz.1; omega
theorem tl_bd {n : Int} (l : Int) (h1 : -1024 ≤ n) (h2 : n ≤ 1023) (dc : Bool) : -1024 ≤ tl n l dc ∧ tl n l dc ≤ 1023 := by
  unfold tl
  split
  · omega
  · have hp := two_pos l.toNat
    generalize (2 : Int) ^ l.toNat = P at *
    split
    · refine ⟨?_, ?_⟩
      · rw [Int.le_ediv_iff_mul_le (by omega)]; omega
      · by_cases h0 : 0 ≤ n
        · have := Int.ediv_le_self P h0; omega
        · have := Int.ediv_neg_of_neg_of_pos (show n < 0 by omega) (show 0 < P by omega)
          omega
    · rename_i h
      have h3 : 0 ≤ -n := by
        have : ¬ 0 ≤ n := fun e => h (.inr e)
        omega
      have h4 := Int.ediv_le_self P h3
      have h5 := Int.ediv_nonneg h3 (show 0 ≤ P by omega)
      omega
theorem Pn.drewN {w : World} {B p : Nat} {f t h l : Int} {vo vh : Value} {s : Pen} (x : Pn w B p f t h l vo vh s) (n : Nat) : Pn (w.drewN n) B p f t h l vo vh s := by
  have hf : Fr (fun _ => False) w (w.drewN n) := (Fr.refl _ _).drewN n
  exact ⟨x.blk.keep hf (fun f => f), hf.ownN x.out (fun _ _ f => f), hf.ownN x.held (fun _ _ f => f), x.po, x.ph, x.oh⟩
theorem Pt.drewN {p : Nat} {w w' : World} {vo vh vo' vh' : Value} (h : Pt p w vo vh w' vo' vh') (n : Nat) : Pt p w vo vh (w'.drewN n) vo' vh' := ⟨h.fr.drewN n, h.out, h.held⟩
theorem Pt.off {p k : Nat} {w w' : World} {vo vh vo' vh' : Value} (h : Pt p w vo vh w' vo' vh') (hk : k < w.heap.size) (h1 : vo.ownBlock ≠ some k ∧ vh.ownBlock ≠ some k) : vo'.ownBlock ≠ some k ∧ vh'.ownBlock ≠ some k :=
  ⟨fun e => by
    rcases h.out _ e with h2 | h2
    · exact h1.1 h2
    · omega, fun e => by
    rcases h.held _ e with h2 | h2
    · exact h1.2 h2
    · omega⟩
/-- pieces behind the others: an append of a new slice -/
theorem Pn.app {w w7 : World} {B p : Nat} {f t h l : Int} {vo vh v7 : Value} {s : Pen} {nw : List Pc} {k : Nat} (x : Pn w B p f t h l vo vh s) (hb : Below w.heap.size w w7) (w8 : World)
    (ho : w8.ownsRow B 27 4 v7 k (pcRows s.out ++ pcRows nw)) (hk : k = s.out.length + nw.length) (ha : Ap w7 w8 vo v7) :
    Pn (w8.setCell ⟨p, 4, none⟩ v7) B p f t h l v7 vh (s.put nw) ∧ Pt p w vo vh (w8.setCell ⟨p, 4, none⟩ v7) v7 vh := by
  obtain ⟨h1, h2⟩ := (x.below hb).setO ho hk ha
  exact ⟨h1, (Pt.of_below hb).trans h2⟩
/-- a block by value in a box, a band's places, a pen: what a round needs -/
structure Rnd (w : World) (b0 gz f n : Nat) (cz : Nat) (x : List Int) : Prop where
  box : Bln w b0 70 (iv x)
  plc : Rd w w.heap.size (some ⟨gz, 0, none⟩) (iv (plc f n))
theorem Rnd.keep {w w' : World} {b0 gz f n cz : Nat} {x : List Int} {S : Nat → Prop} (h : Rnd w b0 gz f n cz x) (hf : Fr S w w') (h1 : ¬ S b0) (h2 : ¬ S gz) : Rnd w' b0 gz f n cz x :=
  ⟨h.box.keep hf h1, (hf.rd h.plc (Nat.le_refl _) (fun p hp => by cases hp; exact h2)).more hf.size⟩
theorem Rnd.pt {w w' : World} {b0 gz f n cz p : Nat} {x : List Int} {a b a' b' : Value} (h : Rnd w b0 gz f n cz x) (hT : Pt p w a b w' a' b') (h1 : b0 ≠ p ∧ a.ownBlock ≠ some b0 ∧ b.ownBlock ≠ some b0) (h2 : gz ≠ p ∧ a.ownBlock ≠ some gz ∧ b.ownBlock ≠ some gz) : Rnd w' b0 gz f n cz x :=
  h.keep hT.fr (fun e => by rcases e with e | e | e
                            · exact h1.1 e
                            · exact h1.2.1 e
                            · exact h1.2.2 e) (fun e => by rcases e with e | e | e
                                                           · exact h2.1 e
                                                           · exact h2.2.1 e
                                                           · exact h2.2.2 e)
theorem Rnd.drewN {w : World} {b0 gz f n cz : Nat} {x : List Int} (h : Rnd w b0 gz f n cz x) (m : Nat) : Rnd (w.drewN m) b0 gz f n cz x :=
  h.keep (S := fun _ => False) ((Fr.refl _ _).drewN m) (fun f => f) (fun f => f)
def BlkP (B p : Nat) (f t h l : Int) (vo vh : Value) (s' : Pen) (w : World) (e : Ending) (w' : World) : Prop :=
  e = .returned (.tuple #[]) ∧ ∃ vo' vh', Pn w' B p f t h l vo' vh' s' ∧ Pt p w vo vh w' vo' vh'
/-- the loop's state -/
def FsR (B p f n b0 gz : Nat) (t h l : Int) (x : List Int) (s : Pen) (vo vh : Value) (w1 : World) (nz ix : Value) (wr : World) : Prop :=
  ∃ (i : Nat) (s' : Pen) (z : Nat) (vo' vh' : Value), i ≤ n ∧ ix = .int .i64 i ∧ nz = .int .i64 z ∧ fsN x f l s i = (s', z) ∧ Pn wr B p (f : Nat) t h l vo' vh' s' ∧ Pt p w1 vo vh wr vo' vh' ∧ Rnd wr b0 gz f n 0 x
set_option maxHeartbeats 16000000 in
theorem first_any {w : World} {B p f t : Nat} {h l : Int} {vo vh : Value} {s : Pen} (X : Pn w B p (f : Nat) (t : Nat) h l vo vh s) (hB : B ≤ w.heap.size) (he : s.ends ≤ 20000) (hn : s.len ≤ 900000)
    (hf : f ≤ t) (ht : t ≤ 63) (x : List Int) (hx : x.length = 64) (hg : GoodB x) :
    Calls Try.prog 119 #[.pointer (some ⟨p, 0, none⟩), .agg (iv x).toArray] w (BlkP B p (f : Nat) (t : Nat) h l vo vh (fsB x f (t + 1 - f) l s) w) := by
  obtain ⟨i0, ii0, iz0, iz1, iz2⟩ := info_parts Try.info_pc
  have hfo : ∀ q : Pc, List.foldl (fun (cs : Array Value) (x : Value × Nat) => cs.setIfInBounds x.2 x.1) #[.bool false, .int .i64 0, .int .i64 0, .int .i64 0] (pcV q).zipIdx = (pcV q).toArray := fun _ => rfl
  have hp4 : ∀ q : Pc, (pcV q).length = 4 := fun _ => rfl
  have hba : Below w.heap.size w (w.alloc (.cells (iv x).toArray 70)) := (Below.refl _ _).alloc (Nat.le_refl _) _
  have XB := Bln.new w 70 (iv x)
  have X0 := X.below hba
  have HX := Lib.hid hx
  have HG := Lib.hid hg
  have hplt := X.lt
  obtain ⟨n, hnq⟩ : ∃ n, n = t + 1 - f := ⟨_, rfl⟩
  rw [← hnq]
  have hfn : f + n ≤ 64 := by omega
  have hn1 : 1 ≤ n := by omega
  have HNQ := Lib.hid hnq
  have hao := fun k hk => (X.out.lt k hk).2
  have hah := fun k hk => (X.held.lt k hk).2
  clear hx hg X hnq
  go_enter Try.func119, Try.ntmps119
  go_upto_region 2 with fail
  generalize w.alloc (.cells (iv x).toArray 70) = w0 at *
  have hs0 := XB.lt
  have hrb := X0.blk.range 0 [.int .i64 (f : Nat), .int .i64 (t : Nat), .int .i64 h, .int .i64 l] (fun j v hv => by
    rw [Nat.zero_add]
    have hj : j < 4 := (List.getElem?_eq_some_iff.1 hv).1
    match j, hj with
    | 0, _ => exact hv | 1, _ => exact hv | 2, _ => exact hv | 3, _ => exact hv)
  go_wp2_with (refine wpList_load_mid rfl 107 (.tmp 10) rfl _ _ rfl [.int .i64 (f : Nat), .int .i64 (t : Nat), .int .i64 h, .int .i64 l] _ hrb Try.underlying107 rfl (by kernel_rfl) ?_)
  refine (places_any f t h l hf ht w0).mono ?_; rintro e w1 ⟨vz, rfl, hoz, hb1⟩
  rw [← HNQ.out] at hoz
  obtain ⟨gz, cz, hze, hcn, hcm, hgzl, hgz⟩ := own_pos hoz hn1
  subst hze
  have hba' := hba.trans (hb1.mono hba.size)
  have hs1 := hb1.size
  have R1 : Rnd w1 w.heap.size gz f n 0 x := ⟨XB.below hb1, Rd.of_own hoz⟩
  have P1 := X0.below hb1
  have hT1 : Pt p w vo vh w1 vo vh := Pt.of_below hba'
  obtain ⟨b0, hb0⟩ : ∃ b, b = w.heap.size := ⟨_, rfl⟩
  rw [← hb0] at R1 hs0 hplt hao hah hB ⊢
  have hb0g : b0 ≠ p := by omega
  have hgzp : gz ≠ p := by omega
  have hbo : vo.ownBlock ≠ some b0 ∧ vh.ownBlock ≠ some b0 := ⟨fun e => by have := hao _ e; omega, fun e => by have := hah _ e; omega⟩
  have hgo : vo.ownBlock ≠ some gz ∧ vh.ownBlock ≠ some gz := ⟨fun e => by have := hao _ e; omega, fun e => by have := hah _ e; omega⟩
  have hb01 : b0 < w1.heap.size := by omega
  clear hb1 hoz hrb XB X0 hba hba' hao hah hcm
  have HB0 := Lib.hid hb0
  clear hb0
  go_wp2
  go_loopw [4, 14] (FsR B p f n b0 gz (t : Nat) h l x s vo vh w1) (fun _ ix _ => n - (intOf ix).toNat)
  case atStart => exact ⟨0, s, 0, vo, vh, Nat.zero_le _, rfl, rfl, rfl, P1, Pt.refl _ _ _ _, R1⟩
  case round =>
    obtain ⟨i, s', z, vo', vh', hi, rfl, rfl, hst, P, hT, R⟩ := hrel
    obtain ⟨wi, rfl⟩ : ∃ wi : World, wi = wr := ⟨_, rfl⟩
    have hbd := fsN_bd x f l s i
    rw [hst] at hbd
    have hbq := fun k (hk : vo'.ownBlock = some k) => hT.out k hk
    have hBn : B ≤ wi.heap.size := by have := hT.fr.size; omega
    have hob := hT.off hb01 hbo
    have hog := hT.off hgz hgo
    have HST := Lib.hid hst
    clear P1 R1 hbq hst
    by_cases hlt : i < n
    · have dl : decide (i < n) = true := decide_eq_true hlt
      obtain ⟨hz1, hz2, hz3⟩ := zzN_bd (f + i) (by omega)
      obtain ⟨b1, o1, hbe, _, hcr⟩ := R.plc.at_ (k := i) (by rw [iv_len, plc_len hfn]; exact hlt)
      injection hbe with hbe
      injection hbe with hbe1 hbe2
      subst hbe1 hbe2
      have cz1 := hcr i (.int .i64 ((zzN (f + i) : Nat) : Int)) (by unfold iv; rw [List.getElem?_map, plc_at hfn hlt]; rfl)
      rw [Nat.zero_add] at cz1
      have cx1 := R.box.cell (i := zzN (f + i)) (ivs_get (by rw [HX.out]; exact hz1))
      have c3 := P.blk.cell (i := 3) (u := .int .i64 l) rfl
      have hvb := tn_bd HX.out HG.out f l i (by omega)
      have htn : tn x f l i = tl (x.getD (zzN (f + i)) 0) l false := rfl
      have hub := tl_bd l hvb.1 hvb.2 false
      have hi0 : (0 : Int) ≤ (i : Int) := by omega
      have hi1 : (i : Int) < (n : Int) := by omega
      have hq0 : (0 : Int) ≤ ((zzN (f + i) : Nat) : Int) := by omega
      have hq1 : ((zzN (f + i) : Nat) : Int) < 64 := by omega
      generalize zzN (f + i) = zi at *
      generalize x.getD zi 0 = v at *
      have hte := fun W : World => tell_any v l false (by omega) W
      obtain ⟨u, huq⟩ : ∃ u, u = tl v l false := ⟨_, rfl⟩
      rw [← huq] at htn hub
      have HTE := Lib.hid hte
      have HTN := Lib.hid htn
      have HUQ := Lib.hid huq
      clear hcr hz2 hz3 hte htn huq
      go_upto_region 5 with fail
      go_quiet ((go_at_call 96; exact quiet_l (HTE.out _)))
      rw [← HUQ.out]
      have P' := P.drewN nq
      have R' := R.drewN nq
      have hT' := hT.drewN nq
      have hBn' : B ≤ (wi.drewN nq).heap.size := hBn
      clear P R hT hBn c3 cx1 cz1
      generalize wi.drewN nq = wd at *
      by_cases hu : u = 0
      · have du : (u == 0) = true := by simp; exact hu
        have hnx := tn_zero HST.out (HTN.out.trans hu)
        have HNX := Lib.hid hnx
        clear hu hnx
        go_wp2
        go_roundw
        case rel => exact ⟨i + 1, s', z + 1, vo', vh', by omega, by go_num, by go_num, HNX.out, P', hT', R'⟩
        case measure => simp [intOf]; omega
      · have du : (u == 0) = false := by simp; exact hu
        have hnx := tn_num HST.out (show tn x f l i ≠ 0 by rw [HTN.out]; exact hu)
        rw [HTN.out] at hnx
        have HNX := Lib.hid hnx
        have hsl : s'.out.length + s'.held.length = s'.len := rfl
        have hfl := fl_len s'
        clear hu hnx
        go_wp2_with fail
        refine (flush_any P' hBn' (by omega) (by omega)).mono ?_; rintro e w3 ⟨rfl, vf, P3, hT3⟩
        have R3 := R'.pt hT3 ⟨hb0g, hob⟩ ⟨hgzp, hog⟩
        have hT3' := hT'.trans hT3
        have hB3 : B ≤ w3.heap.size := by have := hT3.fr.size; omega
        have hpo3 : s'.fl.out.length ≤ 900300 ∧ s'.fl.ends = 0 ∧ s'.fl.held = [] := ⟨by have : s'.fl.len = s'.fl.out.length + s'.fl.held.length := rfl; omega, rfl, rfl⟩
        clear P' R' hT' hT3 hob hog hBn'
        go_upto_region 9 with fail
        generalize hSF : s'.fl = sf at *
        have HSF := Lib.hid hSF
        clear hSF
        go_wp2
        go_loopw [4] (fun nz wr => ∃ (q m : Nat) (vq : Value), q ≤ z / 16 ∧ m + 16 * q = z ∧ nz = .int .i64 m ∧ Pn wr B p (f : Nat) (t : Nat) h l vq (.slice none 0 0) (sf.put (List.replicate q skipP)) ∧ Pt p w1 vo vh wr vq (.slice none 0 0) ∧ Rnd wr b0 gz f n 0 x) (fun nz _ => (intOf nz).toNat)
        case atStart => exact ⟨0, z, vf, Nat.zero_le _, by omega, rfl, by simpa [Pen.put] using P3, hT3', R3⟩
        case round =>
          clear P3 hT3' R3 hB3
          obtain ⟨q, m, vq, hq, hmq, rfl, P, hT, R⟩ := hrel
          obtain ⟨wi, rfl⟩ : ∃ wi : World, wi = wr := ⟨_, rfl⟩
          have hBn : B ≤ wi.heap.size := by have := hT.fr.size; omega
          have hob := hT.off hb01 hbo
          have hog := hT.off hgz hgo
          obtain ⟨lo, hlo⟩ : ∃ lo, lo = (sf.put (List.replicate q skipP)).out.length := ⟨_, rfl⟩
          have hlo2 : lo ≤ 900400 := by rw [hlo]; unfold Pen.put; rw [List.length_append, List.length_replicate]; omega
          have ho := P.out
          rw [← hlo] at ho
          have HLO := Lib.hid hlo
          obtain ⟨Av, cv, hve, _⟩ := own_sliceN ho
          subst hve
          have c4 := P.blk.cell (i := 4) (u := .slice Av lo cv) rfl
          have HP := Lib.hid P
          by_cases h16 : 16 ≤ m
          · have d16 : decide ((16 : Int) ≤ (m : Int)) = true := decide_eq_true (by omega)
            have hba : Below wi.heap.size wi (wi.alloc (.cells (pcV skipP).toArray 27)) := (Below.refl _ _).alloc (Nat.le_refl _) _
            have hoa := own_keepN ho hba
            have XD := P.blk.below hba
            have hsza : B ≤ (wi.alloc (.cells (pcV skipP).toArray 27)).heap.size := Nat.le_trans hBn hba.size
            clear hlo P ho
            go_wp2_with (at_builtin; refine wpList_appN0 _ rfl (.tmp 41) (.tmp 43) 23 rfl Try.underlying23 ii0 iz0 iz1 iz2 rfl (by omega) hoa rfl rfl (Rd.newN wi 27 (pcV skipP)) rfl (pcV_one skipP) (by omega) (by omega) hsza ?_; intro v7 w7 hown7 hap7; obtain ⟨A7, c7, rfl, _⟩ := own_sliceN hown7; have Xb := XD.keep hap7.fr HP.out.po; have q4 := Xb.cell (i := 4) (u := .slice Av lo cv) rfl; have f4 := Xb.fz (i := 4) (show 4 < 7 by decide))
            obtain ⟨P7, hT7⟩ := HP.out.app (nw := [skipP]) hba w7 (by simpa [pcRows] using hown7) (by rw [HLO.out]; rfl) hap7
            have R7 := R.pt hT7 ⟨hb0g, hob⟩ ⟨hgzp, hog⟩
            go_roundw
            case rel =>
              refine ⟨q + 1, m - 16, _, by omega, by omega, by congr 1; omega, ?_, hT.trans hT7, R7⟩
              rw [List.replicate_succ']
              simpa [Pen.put] using P7
            case measure => simp [intOf]; omega
          · have d16 : decide ((16 : Int) ≤ (m : Int)) = false := decide_eq_false (by omega)
            go_upto_region 12 with fail
            have hsz := szN_bd u
            have hsz2 := fun W => size_any u W
            have hex2 := fun W => extra_any u (by omega) W
            have hpv : pcV (numP true u m) = [.bool true, .int .i64 (16 * (m : Int) + (szN u : Int)), .int .i64 (exZ u), .int .i64 (szN u)] := rfl
            have HS := Lib.hid hsz2
            have HE := Lib.hid hex2
            obtain ⟨nw, hnw⟩ : ∃ nw, nw = numP true u m := ⟨_, rfl⟩
            rw [← hnw] at hpv
            have HNW := Lib.hid hnw
            have HPV := Lib.hid hpv
            obtain ⟨sz, hszq⟩ : ∃ sz, sz = szN u := ⟨_, rfl⟩
            obtain ⟨ez, hezq⟩ : ∃ ez, ez = exZ u := ⟨_, rfl⟩
            rw [← hszq] at hsz
            rw [← hszq, ← hezq] at HPV
            have HSZ := Lib.hid hszq
            have HEZ := Lib.hid hezq
            have hw1 : IntKind.i64.wrap (16 * (m : Int)) = 16 * (m : Int) := IntWalk.i64_in _ (by omega)
            have hw2 : IntKind.i64.wrap (16 * (m : Int) + (sz : Int)) = 16 * (m : Int) + (sz : Int) := IntWalk.i64_in _ (by omega)
            have hoa := World.ownsRow.drew (World.ownsRow.alloc ho (.cells (pcV nw).toArray 27))
            have hba : Below wi.heap.size wi (wi.alloc (.cells (pcV nw).toArray 27)).drew := ((Below.refl _ _).alloc (Nat.le_refl _) _).drew
            have hRD : Rd (wi.alloc (.cells (pcV nw).toArray 27)).drew (wi.heap.size + 1) (some ⟨wi.heap.size, 0, none⟩) (pcV nw) := Rd.newN wi 27 (pcV nw)
            have XD := P.blk.below hba
            have hsza : B ≤ (wi.alloc (.cells (pcV nw).toArray 27)).drew.heap.size := Nat.le_trans hBn hba.size
            have hn4 : (pcV nw).length = 1 * 4 := by rfl
            have e4 : ∀ o, (wi.alloc o).cell? ⟨p, 4, none⟩ = some (.slice Av lo cv) := fun o => (World.cell?_of_block (w := wi) (a := ⟨p, 4, none⟩) (Below.heap_alloc wi o p P.lt)).trans c4
            rw [HPV.out] at hoa hba hRD XD hsza
            have hone := pcV_one nw
            rw [HPV.out] at hone hn4
            clear hlo P ho hpv hnw hszq hezq hsz2 hex2
            go_region_law (first | (go_simp; go_at_call 38; refine (HS.out _).mono ?_; rintro e w' ⟨rfl, rfl⟩; rw [← HSZ.out]; dsimp only) | (go_simp; go_at_call 39; refine (HE.out _).mono ?_; rintro e w' ⟨rfl, rfl⟩; rw [← HEZ.out]; dsimp only) | (refine step_appN0 _ (by rfl) _ _ _ (by rfl) Try.underlying23 ii0 iz0 iz1 iz2 rfl (by omega) hoa (by rfl) (by rfl) hRD hn4 hone (by omega) (by omega) hsza ?_; intro v7 w7 hown7 hap7; obtain ⟨A7, c7, rfl, _⟩ := own_sliceN hown7; have Xb := XD.keep hap7.fr HP.out.po; have q4 := Xb.cell (i := 4) (u := .slice Av lo cv) rfl; have f4 := Xb.fz (i := 4) (show 4 < 7 by decide)))
            all_goals
              obtain ⟨P7, hT7⟩ := HP.out.app (nw := [nw]) hba w7 (by rw [← HPV.out] at hown7; simpa [pcRows] using hown7) (by rw [HLO.out]; rfl) hap7
              have R7 := R.pt hT7 ⟨hb0g, hob⟩ ⟨hgzp, hog⟩
              have HF := Lib.hid (And.intro P7 (And.intro (hT.trans hT7) R7))
              clear P7 hT7 R7 hown7 hap7 q4 f4 Xb
              go_wp2
              go_roundw
              case rel =>
                refine ⟨i + 1, _, 0, _, _, by omega, by go_num, rfl, HNX.out, ?_, HF.out.2.1, HF.out.2.2⟩
                have e1 : z / 16 = q := by omega
                have e2 : z % 16 = m := by omega
                rw [e1, e2, ← HNW.out]
                have := HF.out.1
                simpa [Pen.put] using this
              case measure => simp [intOf]; omega
    · have dl : decide (i < n) = false := decide_eq_false hlt
      have hin : i = n := by omega
      have hst2 := HST.out
      rw [hin] at hst2
      have HS2 := Lib.hid hst2
      by_cases hz : 0 < z
      · have dz : decide ((0 : Int) < (z : Int)) = true := decide_eq_true (by omega)
        have hfe : fsB x f n l s = s'.end_ [] := by unfold fsB; rw [hst2]; exact if_pos hz
        have HFE := Lib.hid hfe
        clear hin hst2 hfe
        go_wp2_with fail
        refine (end_any P hBn (by omega) (m := 0) (nw := []) rfl (.inl rfl) (fun a ha => by cases ha) (by have : s'.len = s'.out.length + s'.held.length := rfl; omega)).mono ?_; rintro e w3 ⟨rfl, vh3, P3, hT3⟩
        go_wp2
        go_end0
        rw [HFE.out]
        exact ⟨rfl, _, _, P3, hT1.trans (hT.trans hT3)⟩
      · have dz : decide ((0 : Int) < (z : Int)) = false := decide_eq_false (by omega)
        have hfe : fsB x f n l s = s' := by unfold fsB; rw [hst2]; exact if_neg hz
        have HFE := Lib.hid hfe
        clear hin hst2 hfe
        go_wp2
        go_end0
        rw [HFE.out]
        exact ⟨rfl, _, _, P, hT1.trans hT⟩
end
section
open Go.RowKit
set_option linter.unusedVariables false
set_option maxRecDepth 100000

theorem Pn.keep {w w' : World} {B p : Nat} {f t h l : Int} {vo vh : Value} {s : Pen} {S : Nat → Prop} (x : Pn w B p f t h l vo vh s) (hf : Fr S w w') (h1 : ¬ S p) (h2 : ∀ k, vo.ownBlock = some k → ¬ S k) (h3 : ∀ k, vh.ownBlock = some k → ¬ S k) : Pn w' B p f t h l vo vh s :=
  ⟨x.blk.keep hf h1, hf.ownN x.out h2, hf.ownN x.held h3, x.po, x.ph, x.oh⟩
theorem Pt.more {p : Nat} {w1 w w' : World} {a b a' b' : Value} {S : Nat → Prop} (h : Pt p w1 a b w a' b') (hf : Fr S w w') (hS : ∀ k, S k → w1.heap.size ≤ k) : Pt p w1 a b w' a' b' :=
  ⟨h.fr.trans' hf (fun i hi hs => by have := hS i hs; omega), h.out, h.held⟩
/-- a row of pieces beside a pen -/
structure Bes (w : World) (B1 p : Nat) (vo vh vl : Value) (hd : List Pc) : Prop where
  own : w.ownsRow B1 27 4 vl hd.length (pcRows hd)
  lp : vl.ownBlock ≠ some p
  lo : ∀ k, vl.ownBlock = some k → vo.ownBlock ≠ some k ∧ vh.ownBlock ≠ some k
theorem Bes.nil_ (w : World) (B1 p : Nat) (vo vh : Value) : Bes w B1 p vo vh (.slice none 0 0) [] :=
  ⟨World.ownsRow_nil _ _ _ _, fun e => by simp [Value.ownBlock] at e, fun k e => by simp [Value.ownBlock] at e⟩
theorem Bes.pt {w w' : World} {B1 p : Nat} {vo vh vl vo' vh' : Value} {hd : List Pc} (h : Bes w B1 p vo vh vl hd) (hT : Pt p w vo vh w' vo' vh') : Bes w' B1 p vo' vh' vl hd := by
  refine ⟨hT.fr.ownN h.own (fun k hk e => ?_), h.lp, fun k hk => ⟨fun e => ?_, fun e => ?_⟩⟩
  · rcases e with e | e | e
    · exact h.lp (by rw [hk, e])
    · exact (h.lo k hk).1 e
    · exact (h.lo k hk).2 e
  · rcases hT.out k e with h1 | h1
    · exact (h.lo k hk).1 h1
    · have := (h.own.lt k hk).2; omega
  · rcases hT.held k e with h1 | h1
    · exact (h.lo k hk).2 h1
    · have := (h.own.lt k hk).2; omega
/-- a piece more in it -/
theorem Bes.app {w w7 w8 : World} {B B1 p : Nat} {f t h l : Int} {vo vh vl v7 : Value} {s : Pen} {hd nw : List Pc} {k : Nat} (x : Pn w B p f t h l vo vh s) (y : Bes w B1 p vo vh vl hd) (hb : Below w.heap.size w w7)
    (ho : w8.ownsRow B1 27 4 v7 k (pcRows hd ++ pcRows nw)) (hk : k = hd.length + nw.length) (ha : Ap w7 w8 vl v7) :
    Pn w8 B p f t h l vo vh s ∧ Bes w8 B1 p vo vh v7 (hd ++ nw) ∧ Fr (fun i => vl.ownBlock = some i) w w8 := by
  have x7 := x.below hb
  subst hk
  refine ⟨x7.keep ha.fr (fun e => y.lp e) (fun i hi e => (y.lo i e).1 hi) (fun i hi e => (y.lo i e).2 hi), ⟨?_, fun e => ?_, fun i hi => ⟨fun e => ?_, fun e => ?_⟩⟩, (Fr.of_below hb).trans ha.fr⟩
  · rw [List.length_append, pcRows_app]; exact ho
  · rcases ha.row p e with h1 | h1
    · exact y.lp h1
    · have := x7.lt; omega
  · rcases ha.row i hi with h1 | h1
    · exact (y.lo i h1).1 e
    · have := (x7.out.lt i e).2; omega
  · rcases ha.row i hi with h1 | h1
    · exact (y.lo i h1).2 e
    · have := (x7.held.lt i e).2; omega
/-- a row in place of another: it, or a new one -/
structure Ax (w w' : World) (v v' : Value) : Prop where
  fr : Fr (fun b => v.ownBlock = some b) w w'
  row : ∀ k, v'.ownBlock = some k → v.ownBlock = some k ∨ w.heap.size ≤ k
theorem Ap.ax {w w' : World} {v v' : Value} (h : Ap w w' v v') : Ax w w' v v' := ⟨h.fr, h.row⟩
theorem Ax.trans {w w1 w2 : World} {v v1 v2 : Value} (h : Ax w w1 v v1) (k : Ax w1 w2 v1 v2) : Ax w w2 v v2 :=
  ⟨h.fr.trans' k.fr (fun i hi hs => by
    rcases h.row i hs with h1 | h1
    · exact h1
    · omega), fun i hi => by
    rcases k.row i hi with h1 | h1
    · exact h.row i h1
    · exact .inr (Nat.le_trans h.fr.size h1)⟩
theorem Ax.off {w w' : World} {v v' : Value} (h : Ax w w' v v') {k : Nat} (hk : k < w.heap.size) (h1 : v.ownBlock ≠ some k) : v'.ownBlock ≠ some k := fun e => by
  rcases h.row k e with h2 | h2
  · exact h1 h2
  · omega
theorem Pn.setX {w w' : World} {B p : Nat} {f t h l : Int} {vo vh vo' : Value} {s : Pen} {nw : List Pc} (x : Pn w B p f t h l vo vh s)
    {n : Nat} (ho : w'.ownsRow B 27 4 vo' n (pcRows s.out ++ pcRows nw)) (hn : n = s.out.length + nw.length) (ha : Ax w w' vo vo') :
    Pn (w'.setCell ⟨p, 4, none⟩ vo') B p f t h l vo' vh (s.put nw) ∧ Pt p w vo vh (w'.setCell ⟨p, 4, none⟩ vo') vo' vh := by
  subst hn
  have hpo : vo'.ownBlock ≠ some p := ha.off x.lt x.po
  have hb := x.blk.keep ha.fr (fun e => x.po e)
  refine ⟨⟨hb.set 4 vo', ?_, ?_, hpo, x.ph, fun k hk hk2 => ?_⟩, ⟨(ha.fr.mono (fun i hi => .inr (.inl hi))).setCell (p := ⟨p, 4, none⟩) (.inl (.inl rfl)) vo', fun k hk => ha.row k hk, fun k hk => .inl hk⟩⟩
  · have := ownsRow_setCell_other ho (a := ⟨p, 4, none⟩) hpo vo'
    show World.ownsRow _ B _ 4 vo' (s.out ++ nw).length (pcRows (s.out ++ nw))
    rw [List.length_append, pcRows_app]; exact this
  · exact ownsRow_setCell_other (ha.fr.ownN x.held (fun k hk hk2 => x.oh k hk2 hk)) (a := ⟨p, 4, none⟩) x.ph vo'
  · rcases ha.row k hk with h1 | h1
    · exact x.oh k h1 hk2
    · have := (x.held.lt k hk2).2; omega
theorem Pn.appX {w w7 : World} {B p : Nat} {f t h l : Int} {vo vh v7 : Value} {s : Pen} {nw : List Pc} {k : Nat} (x : Pn w B p f t h l vo vh s) (hb : Below w.heap.size w w7) (w8 : World)
    (ho : w8.ownsRow B 27 4 v7 k (pcRows s.out ++ pcRows nw)) (hk : k = s.out.length + nw.length) (ha : Ax w7 w8 vo v7) :
    Pn (w8.setCell ⟨p, 4, none⟩ v7) B p f t h l v7 vh (s.put nw) ∧ Pt p w vo vh (w8.setCell ⟨p, 4, none⟩ v7) v7 vh := by
  obtain ⟨h1, h2⟩ := (x.below hb).setX ho hk ha
  exact ⟨h1, (Pt.of_below hb).trans h2⟩
theorem Bes.rd {w w1 w7 : World} {B1 p lh cl : Nat} {vo vh v7 : Value} {Al : Option Addr} {hd : List Pc} (y : Bes w B1 p vo vh (.slice Al lh cl) hd) (hl : hd.length = lh) (hb : Below w.heap.size w w1) (ha : Ax w1 w7 vo v7) : Rd w7 w7.heap.size Al (pcRows hd) := by
  have h1 := own_keepN y.own hb
  have h2 := ha.fr.ownN h1 (fun k hk e => (y.lo k hk).1 e)
  obtain ⟨A, c, he, _, _, hR⟩ := own_sliceN h2
  injection he with he1
  subst he1
  exact hR
def NwR (B p f n b0 gz : Nat) (t h l : Int) (x : List Int) (s : Pen) (vo vh : Value) (w1 : World) (nw ix : Value) (wr : World) : Prop :=
  ∃ (i : Nat) (z : Int), i ≤ n ∧ ix = .int .i64 i ∧ nw = .int .i64 z ∧ nwst x f l i = z ∧ (-1 ≤ z ∧ z < 64) ∧ Pn wr B p (f : Nat) t h l vo vh s ∧ Pt p w1 vo vh wr vo vh ∧ Rnd wr b0 gz f n 0 x
def FiR (B p f n b0 gz : Nat) (t h l nw : Int) (x : List Int) (s : Pen) (vo vh : Value) (w1 : World) (nz hv ix : Value) (wr : World) : Prop :=
  ∃ (i : Nat) (s' : Pen) (z : Nat) (hd : List Pc) (vo' vh' : Value), i ≤ n ∧ ix = .int .i64 i ∧ nz = .int .i64 z ∧ fiN x f l nw s i = (s', z, hd) ∧ Pn wr B p (f : Nat) t h l vo' vh' s' ∧ Bes wr w1.heap.size p vo' vh' hv hd ∧ Pt p w1 vo vh wr vo' vh' ∧ Rnd wr b0 gz f n 0 x
theorem nwst_on {x : List Int} {f i : Nat} {l : Int} (h : tn x f l i = 1 ∨ tn x f l i = -1) : nwst x f l (i + 1) = i := by rw [nwst, if_pos h]
theorem nwst_off {x : List Int} {f i : Nat} {l : Int} (h : ¬ (tn x f l i = 1 ∨ tn x f l i = -1)) : nwst x f l (i + 1) = nwst x f l i := by rw [nwst, if_neg h]
set_option maxHeartbeats 32000000 in
theorem fine_any {w : World} {B p f t : Nat} {h l : Int} {vo vh : Value} {s : Pen} (X : Pn w B p (f : Nat) (t : Nat) h l vo vh s) (hB : B ≤ w.heap.size) (he : s.ends ≤ 20000) (hn : s.len ≤ 900000)
    (hf : f ≤ t) (ht : t ≤ 63) (x : List Int) (hx : x.length = 64) (hg : GoodB x) :
    Calls Try.prog 118 #[.pointer (some ⟨p, 0, none⟩), .agg (iv x).toArray] w (BlkP B p (f : Nat) (t : Nat) h l vo vh (fiB x f (t + 1 - f) l s) w) := by
  obtain ⟨i0, ii0, iz0, iz1, iz2⟩ := info_parts Try.info_pc
  have hfo : ∀ q : Pc, List.foldl (fun (cs : Array Value) (x : Value × Nat) => cs.setIfInBounds x.2 x.1) #[.bool false, .int .i64 0, .int .i64 0, .int .i64 0] (pcV q).zipIdx = (pcV q).toArray := fun _ => rfl
  have hp4 : ∀ q : Pc, (pcV q).length = 4 := fun _ => rfl
  have hba : Below w.heap.size w (w.alloc (.cells (iv x).toArray 70)) := (Below.refl _ _).alloc (Nat.le_refl _) _
  have XB := Bln.new w 70 (iv x)
  have X0 := X.below hba
  have HX := Lib.hid hx
  have HG := Lib.hid hg
  have hplt := X.lt
  obtain ⟨n, hnq⟩ : ∃ n, n = t + 1 - f := ⟨_, rfl⟩
  rw [← hnq]
  have hfn : f + n ≤ 64 := by omega
  have hn1 : 1 ≤ n := by omega
  have HNQ := Lib.hid hnq
  have hao := fun k hk => (X.out.lt k hk).2
  have hah := fun k hk => (X.held.lt k hk).2
  clear hx hg X hnq
  go_enter Try.func118, Try.ntmps118
  go_upto_region 1 with fail
  generalize w.alloc (.cells (iv x).toArray 70) = w0 at *
  have hs0 := XB.lt
  have hrb := X0.blk.range 0 [.int .i64 (f : Nat), .int .i64 (t : Nat), .int .i64 h, .int .i64 l] (fun j v hv => by
    rw [Nat.zero_add]
    have hj : j < 4 := (List.getElem?_eq_some_iff.1 hv).1
    match j, hj with
    | 0, _ => exact hv | 1, _ => exact hv | 2, _ => exact hv | 3, _ => exact hv)
  go_wp2_with (refine wpList_load_mid rfl 107 (.tmp 16) rfl _ _ rfl [.int .i64 (f : Nat), .int .i64 (t : Nat), .int .i64 h, .int .i64 l] _ hrb Try.underlying107 rfl (by kernel_rfl) ?_)
  refine (places_any f t h l hf ht w0).mono ?_; rintro e w1 ⟨vz, rfl, hoz, hb1⟩
  rw [← HNQ.out] at hoz
  obtain ⟨gz, cz, hze, hcn, hcm, hgzl, hgz⟩ := own_pos hoz hn1
  subst hze
  have hba' := hba.trans (hb1.mono hba.size)
  have hs1 := hb1.size
  have R1 : Rnd w1 w.heap.size gz f n 0 x := ⟨XB.below hb1, Rd.of_own hoz⟩
  have P1 := X0.below hb1
  have hT1 : Pt p w vo vh w1 vo vh := Pt.of_below hba'
  obtain ⟨b0, hb0⟩ : ∃ b, b = w.heap.size := ⟨_, rfl⟩
  rw [← hb0] at R1 hs0 hplt hao hah hB ⊢
  have hb0g : b0 ≠ p := by omega
  have hgzp : gz ≠ p := by omega
  have hbo : vo.ownBlock ≠ some b0 ∧ vh.ownBlock ≠ some b0 := ⟨fun e => by have := hao _ e; omega, fun e => by have := hah _ e; omega⟩
  have hgo : vo.ownBlock ≠ some gz ∧ vh.ownBlock ≠ some gz := ⟨fun e => by have := hao _ e; omega, fun e => by have := hah _ e; omega⟩
  have hb01 : b0 < w1.heap.size := by omega
  clear hb1 hoz hrb XB X0 hba hba' hao hah hcm
  have HB0 := Lib.hid hb0
  clear hb0
  go_wp2
  go_loopw [5, 21] (NwR B p f n b0 gz (t : Nat) h l x s vo vh w1) (fun _ ix _ => n - (intOf ix).toNat)
  case atStart => exact ⟨0, -1, Nat.zero_le _, rfl, rfl, rfl, by omega, P1, Pt.refl _ _ _ _, R1⟩
  case round =>
    obtain ⟨i, nw, hi, rfl, rfl, hst, hnwb, P, hT, R⟩ := hrel
    obtain ⟨wi, rfl⟩ : ∃ wi : World, wi = wr := ⟨_, rfl⟩
    have HST := Lib.hid hst
    clear P1 R1 hst
    by_cases hlt : i < n
    · have dl : decide (i < n) = true := decide_eq_true hlt
      obtain ⟨hz1, hz2, hz3⟩ := zzN_bd (f + i) (by omega)
      obtain ⟨b1, o1, hbe, _, hcr⟩ := R.plc.at_ (k := i) (by rw [iv_len, plc_len hfn]; exact hlt)
      injection hbe with hbe
      injection hbe with hbe1 hbe2
      subst hbe1 hbe2
      have cz1 := hcr i (.int .i64 ((zzN (f + i) : Nat) : Int)) (by unfold iv; rw [List.getElem?_map, plc_at hfn hlt]; rfl)
      rw [Nat.zero_add] at cz1
      have cx1 := R.box.cell (i := zzN (f + i)) (ivs_get (by rw [HX.out]; exact hz1))
      have c3 := P.blk.cell (i := 3) (u := .int .i64 l) rfl
      have hvb := tn_bd HX.out HG.out f l i (by omega)
      have htn : tn x f l i = tl (x.getD (zzN (f + i)) 0) l false := rfl
      have hub := tl_bd l hvb.1 hvb.2 false
      have hi0 : (0 : Int) ≤ (i : Int) := by omega
      have hi1 : (i : Int) < (n : Int) := by omega
      have hq0 : (0 : Int) ≤ ((zzN (f + i) : Nat) : Int) := by omega
      have hq1 : ((zzN (f + i) : Nat) : Int) < 64 := by omega
      generalize zzN (f + i) = zi at *
      generalize x.getD zi 0 = v at *
      have hte := fun W : World => tell_any v l false (by omega) W
      obtain ⟨u, huq⟩ : ∃ u, u = tl v l false := ⟨_, rfl⟩
      rw [← huq] at htn hub
      have HTE := Lib.hid hte
      have HTN := Lib.hid htn
      have HUQ := Lib.hid huq
      clear hcr hz2 hz3 hte htn huq
      go_upto_region 6 with fail
      go_quiet ((go_at_call 96; exact quiet_l (HTE.out _)))
      rw [← HUQ.out]
      have P' := P.drewN nq
      have R' := R.drewN nq
      have hT' := hT.drewN nq
      clear P R hT c3 cx1 cz1
      generalize wi.drewN nq = wd at *
      by_cases hu1 : u = 1
      · have d1 : (u == 1) = true := by simp; exact hu1
        have hnx := nwst_on (x := x) (f := f) (l := l) (i := i) (.inl (HTN.out.trans hu1))
        have HNX := Lib.hid hnx
        clear hnx hu1
        go_wp2
        go_roundw
        case rel => exact ⟨i + 1, i, by omega, by go_num, rfl, HNX.out, by omega, P', hT', R'⟩
        case measure => simp [intOf]; omega
      · have d1 : (u == 1) = false := by simp; exact hu1
        by_cases hu2 : u = -1
        · have d2 : (u == -1) = true := by simp; exact hu2
          have hnx := nwst_on (x := x) (f := f) (l := l) (i := i) (.inr (HTN.out.trans hu2))
          have HNX := Lib.hid hnx
          clear hnx hu1 hu2
          go_wp2
          go_roundw
          case rel => exact ⟨i + 1, i, by omega, by go_num, rfl, HNX.out, by omega, P', hT', R'⟩
          case measure => simp [intOf]; omega
        · have d2 : (u == -1) = false := by simp; exact hu2
          have hnx := nwst_off (x := x) (f := f) (l := l) (i := i) (by rw [HTN.out]; omega)
          rw [HST.out] at hnx
          have HNX := Lib.hid hnx
          clear hnx hu1 hu2
          go_wp2
          go_roundw
          case rel => exact ⟨i + 1, nw, by omega, by go_num, rfl, HNX.out, hnwb, P', hT', R'⟩
          case measure => simp [intOf]; omega
    · have dl : decide (i < n) = false := decide_eq_false hlt
      have hin : i = n := by omega
      rw [hin] at HST
      clear hin
      go_wp2
      have P1 := P
      have hT1' := hT1.trans hT
      have HT1 := Lib.hid hT1'
      have hgz1 : gz < wi.heap.size := by have := hT.fr.size; omega
      have hb11 : b0 < wi.heap.size := by have := hT.fr.size; omega
      clear hT hT1 hT1' hb01 hgz
      go_loopw [9, 10, 45] (FiR B p f n b0 gz (t : Nat) h l nw x s vo vh wi) (fun _ _ ix _ => n - (intOf ix).toNat)
      case atStart => exact ⟨0, s, 0, [], vo, vh, Nat.zero_le _, rfl, rfl, rfl, P1, Bes.nil_ _ _ _ _ _, Pt.refl _ _ _ _, R⟩
      case round =>
        clear P P1 R
        obtain ⟨i, s', z, hd, vo', vh', hi, rfl, rfl, hst, P, Q, hT, R⟩ := hrel
        obtain ⟨wj, rfl⟩ : ∃ wj : World, wj = wr := ⟨_, rfl⟩
        have hbd := fiN_bd x f l nw s i
        rw [hst] at hbd
        simp only at hbd
        have hBn : B ≤ wj.heap.size := by have := hT.fr.size; omega
        have hob := hT.off hb11 hbo
        have hog := hT.off hgz1 hgo
        have HST2 := Lib.hid hst
        have hwl := hT.fr.size
        have hlQ := Q.own
        obtain ⟨lh, hlh⟩ : ∃ lh, lh = hd.length := ⟨_, rfl⟩
        rw [← hlh] at hlQ hbd
        have HLH := Lib.hid hlh
        obtain ⟨Al, cl, hvl, _, _, hRl⟩ := own_sliceN hlQ
        subst hvl
        have hrl4 : (pcRows hd).length = lh * 4 := by rw [pcRows_len, hlh]
        have HQ := Lib.hid Q
        have hlb : ∀ k, (Value.slice Al lh cl).ownBlock = some k → wi.heap.size ≤ k := fun k hk => (Q.own.lt k hk).1
        clear hst hlh
        by_cases hlt : i < n
        · have dl : decide (i < n) = true := decide_eq_true hlt
          obtain ⟨hz1, hz2, hz3⟩ := zzN_bd (f + i) (by omega)
          obtain ⟨b1, o1, hbe, _, hcr⟩ := R.plc.at_ (k := i) (by rw [iv_len, plc_len hfn]; exact hlt)
          injection hbe with hbe
          injection hbe with hbe1 hbe2
          subst hbe1 hbe2
          have cz1 := hcr i (.int .i64 ((zzN (f + i) : Nat) : Int)) (by unfold iv; rw [List.getElem?_map, plc_at hfn hlt]; rfl)
          rw [Nat.zero_add] at cz1
          have cx1 := R.box.cell (i := zzN (f + i)) (ivs_get (by rw [HX.out]; exact hz1))
          have c3 := P.blk.cell (i := 3) (u := .int .i64 l) rfl
          have hvb := tn_bd HX.out HG.out f l i (by omega)
          have htn : tn x f l i = tl (x.getD (zzN (f + i)) 0) l false := rfl
          have hub := tl_bd l hvb.1 hvb.2 false
          have hi0 : (0 : Int) ≤ (i : Int) := by omega
          have hi1 : (i : Int) < (n : Int) := by omega
          have hq0 : (0 : Int) ≤ ((zzN (f + i) : Nat) : Int) := by omega
          have hq1 : ((zzN (f + i) : Nat) : Int) < 64 := by omega
          generalize zzN (f + i) = zi at *
          generalize x.getD zi 0 = v at *
          have hte := fun W : World => tell_any v l false (by omega) W
          obtain ⟨u, huq⟩ : ∃ u, u = tl v l false := ⟨_, rfl⟩
          rw [← huq] at htn hub
          have HTE := Lib.hid hte
          have HTN := Lib.hid htn
          have HUQ := Lib.hid huq
          clear hcr hz2 hz3 hte htn huq
          go_upto_region 15 with fail
          go_quiet ((go_at_call 96; exact quiet_l (HTE.out _)))
          rw [← HUQ.out]
          have P' := P.drewN nq
          have R' := R.drewN nq
          have hT' := hT.drewN nq
          have Q' : Bes (wj.drewN nq) wi.heap.size p vo' vh' (.slice Al lh cl) hd := Q.pt ((Pt.refl p wj vo' vh').drewN nq)
          have hBn' : B ≤ (wj.drewN nq).heap.size := hBn
          have hwl' : wi.heap.size ≤ (wj.drewN nq).heap.size := hwl
          clear P R hT hBn c3 cx1 cz1 Q HQ hwl hRl hlQ
          generalize wj.drewN nq = wd at *
          have hsl : s'.out.length + s'.held.length = s'.len := rfl
          by_cases hu : u = 0
          · have du : (u == 0) = true := by simp; exact hu
            have htz := HTN.out.trans hu
            have HTZ := Lib.hid htz
            clear htz hu
            by_cases h15 : z = 15
            · have d15 : ((z : Int) + 1 == 16) = true := by simp; omega
              by_cases hnw : (i : Int) < nw
              · have dnw : decide ((i : Int) < nw) = true := decide_eq_true hnw
                have hnx := fi_skip (HST2.out.trans (by rw [h15])) HTZ.out hnw
                have HNX := Lib.hid hnx
                clear hnx
                go_wp2_with fail
                refine (flush_any P' hBn' (by omega) (by omega)).mono ?_; rintro e w3 ⟨rfl, vf, P3, hT3⟩
                have R3 := R'.pt hT3 ⟨hb0g, hob⟩ ⟨hgzp, hog⟩
                have Q3 := Q'.pt hT3
                have hT3' := hT'.trans hT3
                have hB3 : B ≤ w3.heap.size := by have := hT3.fr.size; omega
                have hob3 := hT3'.off hb11 hbo
                have hog3 := hT3'.off hgz1 hgo
                have hfl := fl_len s'
                have hlo3 : s'.fl.out.length ≤ 900300 := by have : s'.fl.len = s'.fl.out.length + s'.fl.held.length := rfl; omega
                clear P' R' Q' hT' hT3 hob hog hBn' hwl'
                generalize hSF : s'.fl = sf at *
                clear hSF
                obtain ⟨lo, hlo⟩ : ∃ lo, lo = sf.out.length := ⟨_, rfl⟩
                have ho := P3.out
                rw [← hlo] at ho hlo3
                obtain ⟨Av, cv, hve, _⟩ := own_sliceN ho
                subst hve
                have HLO := Lib.hid hlo
                have c4 := P3.blk.cell (i := 4) (u := .slice Av lo cv) rfl
                have HP := Lib.hid P3
                have hba : Below w3.heap.size w3 (w3.alloc (.cells (pcV skipP).toArray 27)) := (Below.refl _ _).alloc (Nat.le_refl _) _
                have hoa := own_keepN ho hba
                have XD := P3.blk.below hba
                have hsza : B ≤ (w3.alloc (.cells (pcV skipP).toArray 27)).heap.size := Nat.le_trans hB3 hba.size
                have hpa : p < (w3.alloc (.cells (pcV skipP).toArray 27)).heap.size := Nat.lt_of_lt_of_le P3.lt hba.size
                have hrn := Rd.newN w3 27 (pcV skipP)
                clear hlo P3 ho
                go_wp2_with (first | (at_builtin; refine wpList_appN0 _ rfl (.tmp 76) (.tmp 78) 23 rfl Try.underlying23 ii0 iz0 iz1 iz2 rfl (by omega) hoa rfl rfl hrn rfl (pcV_one _) (by omega) (by omega) hsza ?_; intro v7 w7 hown7 hap7; obtain ⟨A7, c7, rfl, _⟩ := own_sliceN hown7; have hax7 := Ap.ax hap7; have hR7 := Q3.rd HLH.out.symm hba hax7; have hB7 : B ≤ w7.heap.size := Nat.le_trans hsza hap7.fr.size) | (at_builtin; refine wpList_appN0 _ rfl (.tmp 79) (.tmp 80) 23 rfl Try.underlying23 ii0 iz0 iz1 iz2 rfl (by omega) hown7 rfl rfl hR7 hrl4 (pcRows_one _) (by omega) (by omega) hB7 ?_; intro v8 w8 hown8 hap8; obtain ⟨A8, c8, rfl, _⟩ := own_sliceN hown8; have hax8 := hax7.trans (Ap.ax hap8); have Xb := XD.keep hax8.fr HP.out.po; have q4 := Xb.cell (i := 4) (u := .slice Av lo cv) rfl; have f4 := Xb.fz (i := 4) (show 4 < 7 by decide)))
                obtain ⟨P7, hT7⟩ := HP.out.appX (nw := skipP :: hd) hba w8 (by simpa [pcRows] using hown8) (by rw [HLO.out, List.length_cons, ← HLH.out]; omega) hax8
                have R7 := R3.pt hT7 ⟨hb0g, hob3⟩ ⟨hgzp, hog3⟩
                go_roundw
                case rel => exact ⟨i + 1, _, 0, [], _, _, by omega, by go_num, rfl, HNX.out, P7, Bes.nil_ _ _ _ _ _, hT3'.trans hT7, R7⟩
                case measure => simp [intOf]; omega
              · have dnw : decide ((i : Int) < nw) = false := decide_eq_false hnw
                have hnx := fi_zero HST2.out HTZ.out (fun h => hnw h.2)
                have HNX := Lib.hid hnx
                clear hnx
                go_wp2
                go_roundw
                case rel => exact ⟨i + 1, s', z + 1, hd, vo', vh', by omega, by go_num, by go_num, HNX.out, P', Q', hT', R'⟩
                case measure => simp [intOf]; omega
            · have d15 : ((z : Int) + 1 == 16) = false := by simp; omega
              have hnx := fi_zero HST2.out HTZ.out (fun h => h15 h.1)
              have HNX := Lib.hid hnx
              clear hnx
              go_wp2
              go_roundw
              case rel => exact ⟨i + 1, s', z + 1, hd, vo', vh', by omega, by go_num, by go_num, HNX.out, P', Q', hT', R'⟩
              case measure => simp [intOf]; omega
          · have du : (u == 0) = false := by simp; exact hu
            have htz : tn x f l i ≠ 0 := by rw [HTN.out]; exact hu
            have HTZ := Lib.hid htz
            clear htz
            by_cases hu1 : u = 1 ∨ u = -1
            · have hnx := fi_on HST2.out (show tn x f l i = 1 ∨ tn x f l i = -1 by rw [HTN.out]; exact hu1)
              rw [HTN.out] at hnx
              have HNX := Lib.hid hnx
              have dg : decide (1 < u) = false := decide_eq_false (by omega)
              have dk : decide (u < -1) = false := decide_eq_false (by omega)
              obtain ⟨ex, hex⟩ : ∃ ex : Int, ex = if u = 1 then 1 else 0 := ⟨_, rfl⟩
              have hmx : max u 0 = ex := by rw [hex]; split <;> omega
              have hon : onP u z = (true, 16 * (z : Int) + 1, ex, 1) := by rw [hex]; rfl
              rw [hon] at hnx
              have HNX := Lib.hid hnx
              clear hnx hex hon hu1 hu
              go_wp2_with fail
              refine (flush_any P' hBn' (by omega) (by omega)).mono ?_; rintro e w3 ⟨rfl, vf, P3, hT3⟩
              have R3 := R'.pt hT3 ⟨hb0g, hob⟩ ⟨hgzp, hog⟩
              have Q3 := Q'.pt hT3
              have hT3' := hT'.trans hT3
              have hB3 : B ≤ w3.heap.size := by have := hT3.fr.size; omega
              have hob3 := hT3'.off hb11 hbo
              have hog3 := hT3'.off hgz1 hgo
              have hfl := fl_len s'
              have hlo3 : s'.fl.out.length ≤ 900300 := by have : s'.fl.len = s'.fl.out.length + s'.fl.held.length := rfl; omega
              clear P' R' Q' hT' hT3 hob hog hBn' hwl'
              generalize hSF : s'.fl = sf at *
              clear hSF
              obtain ⟨lo, hlo⟩ : ∃ lo, lo = sf.out.length := ⟨_, rfl⟩
              have ho := P3.out
              rw [← hlo] at ho hlo3
              obtain ⟨Av, cv, hve, _⟩ := own_sliceN ho
              subst hve
              have HLO := Lib.hid hlo
              have c4 := P3.blk.cell (i := 4) (u := .slice Av lo cv) rfl
              have HP := Lib.hid P3
              have hba : Below w3.heap.size w3 (w3.alloc (.cells (pcV (true, 16 * (z : Int) + 1, ex, 1)).toArray 27)) := (Below.refl _ _).alloc (Nat.le_refl _) _
              have hoa := own_keepN ho hba
              have XD := P3.blk.below hba
              have hsza : B ≤ (w3.alloc (.cells (pcV (true, 16 * (z : Int) + 1, ex, 1)).toArray 27)).heap.size := Nat.le_trans hB3 hba.size
              have hpa : p < (w3.alloc (.cells (pcV (true, 16 * (z : Int) + 1, ex, 1)).toArray 27)).heap.size := Nat.lt_of_lt_of_le P3.lt hba.size
              have hrn := Rd.newN w3 27 (pcV (true, 16 * (z : Int) + 1, ex, 1))
              clear hlo P3 ho
              go_wp2_with (first | (at_builtin; refine wpList_appN0 _ rfl (.tmp 105) (.tmp 112) 23 rfl Try.underlying23 ii0 iz0 iz1 iz2 rfl (by omega) hoa rfl rfl hrn rfl (pcV_one _) (by omega) (by omega) hsza ?_; intro v7 w7 hown7 hap7; obtain ⟨A7, c7, rfl, _⟩ := own_sliceN hown7; have hax7 := Ap.ax hap7; have hR7 := Q3.rd HLH.out.symm hba hax7; have hB7 : B ≤ w7.heap.size := Nat.le_trans hsza hap7.fr.size) | (at_builtin; refine wpList_appN0 _ rfl (.tmp 113) (.tmp 114) 23 rfl Try.underlying23 ii0 iz0 iz1 iz2 rfl (by omega) hown7 rfl rfl hR7 hrl4 (pcRows_one _) (by omega) (by omega) hB7 ?_; intro v8 w8 hown8 hap8; obtain ⟨A8, c8, rfl, _⟩ := own_sliceN hown8; have hax8 := hax7.trans (Ap.ax hap8); have Xb := XD.keep hax8.fr HP.out.po; have q4 := Xb.cell (i := 4) (u := .slice Av lo cv) rfl; have f4 := Xb.fz (i := 4) (show 4 < 7 by decide)))
              obtain ⟨P7, hT7⟩ := HP.out.appX (nw := (true, 16 * (z : Int) + 1, ex, 1) :: hd) hba w8 (by simpa [pcRows] using hown8) (by rw [HLO.out, List.length_cons, ← HLH.out]; omega) hax8
              have R7 := R3.pt hT7 ⟨hb0g, hob3⟩ ⟨hgzp, hog3⟩
              go_roundw
              case rel => exact ⟨i + 1, _, 0, [], _, _, by omega, by go_num, rfl, HNX.out, P7, Bes.nil_ _ _ _ _ _, hT3'.trans hT7, R7⟩
              case measure => simp [intOf]; omega
            · have hnx := fi_bit HST2.out HTZ.out (show ¬ (tn x f l i = 1 ∨ tn x f l i = -1) by rw [HTN.out]; exact hu1)
              rw [HTN.out] at hnx
              have HNX := Lib.hid hnx
              clear hnx
              have hbx : bits BinOp.and IntKind.i64 (max u (-u)) 1 = ((u.natAbs % 2 : Nat) : Int) := by rw [i64_bit]; omega
              obtain ⟨ex, hex⟩ : ∃ ex : Int, ex = ((u.natAbs % 2 : Nat) : Int) := ⟨_, rfl⟩
              rw [← hex] at hbx
              have hon : bitP u = (true, -1, ex, 1) := by rw [hex]; rfl
              have HON := Lib.hid hon
              have hba : Below wd.heap.size wd (wd.alloc (.cells (pcV (true, -1, ex, 1)).toArray 27)) := (Below.refl _ _).alloc (Nat.le_refl _) _
              have hoa := own_keepN Q'.own hba
              rw [← HLH.out] at hoa
              have hrn := Rd.newN wd 27 (pcV (true, -1, ex, 1))
              have hsza : wi.heap.size ≤ (wd.alloc (.cells (pcV (true, -1, ex, 1)).toArray 27)).heap.size := Nat.le_trans hwl' hba.size
              have hcase : decide (1 < u) = true ∨ (decide (1 < u) = false ∧ decide (u < -1) = true) := by
                by_cases hup : 1 < u
                · exact .inl (decide_eq_true hup)
                · exact .inr ⟨decide_eq_false hup, decide_eq_true (by omega)⟩
              clear hex hon hu1
              rcases hcase with dg | ⟨dg, dk⟩
              all_goals
                go_wp2_with (at_builtin; refine wpList_appN0 _ rfl (.tmp 90) (.tmp 97) 23 rfl Try.underlying23 ii0 iz0 iz1 iz2 rfl (by omega) hoa rfl rfl hrn rfl (pcV_one _) (by omega) (by omega) hsza ?_; intro v8 w8 hown8 hap8; obtain ⟨A8, c8, rfl, _⟩ := own_sliceN hown8)
                obtain ⟨P8, Q8, hf8⟩ := Bes.app P' Q' hba (nw := [bitP u]) (by rw [HON.out]; simpa [pcRows] using hown8) (by rw [← HLH.out]; rfl) hap8
                have R8 := R'.keep hf8 (fun e => by have := hlb _ e; omega) (fun e => by have := hlb _ e; omega)
                go_roundw
                case rel => exact ⟨i + 1, s', z, hd ++ [bitP u], vo', vh', by omega, by go_num, rfl, HNX.out, P8, Q8, hT'.more hf8 (fun k hk => hlb k hk), R8⟩
                case measure => simp [intOf]; omega
        · have dl : decide (i < n) = false := decide_eq_false hlt
          have hin : i = n := by omega
          have hst2 := HST2.out
          rw [hin] at hst2
          have hAp : ∀ a, Al = some a → a.block ≠ p := fun a ha e => HQ.out.lp (by rw [ha]; exact congrArg some e)
          have hfe0 : fiB x f n l s = fiE (s', z, hd) := by unfold fiB; rw [HST.out, hst2]
          by_cases hz : 0 < z
          · have dz : decide ((0 : Int) < (z : Int)) = true := decide_eq_true (by omega)
            have hfe : fiB x f n l s = s'.end_ hd := by rw [hfe0]; exact if_pos (.inl hz)
            have HFE := Lib.hid hfe
            clear hin hst2 hfe hfe0
            go_wp2_with fail
            refine (end_any P hBn (by omega) HLH.out.symm hRl hAp (by have : s'.len = s'.out.length + s'.held.length := rfl; omega)).mono ?_; rintro e w3 ⟨rfl, vh3, P3, hT3⟩
            go_wp2
            go_end0
            rw [HFE.out]
            exact ⟨rfl, _, _, P3, HT1.out.trans (hT.trans hT3)⟩
          · have dz : decide ((0 : Int) < (z : Int)) = false := decide_eq_false (by omega)
            by_cases hl0 : 0 < lh
            · have dz2 : decide (0 < lh) = true := decide_eq_true hl0
              have hfe : fiB x f n l s = s'.end_ hd := by rw [hfe0]; exact if_pos (.inr (by rw [← HLH.out]; exact hl0))
              have HFE := Lib.hid hfe
              clear hin hst2 hfe hfe0
              go_wp2_with fail
              refine (end_any P hBn (by omega) HLH.out.symm hRl hAp (by have : s'.len = s'.out.length + s'.held.length := rfl; omega)).mono ?_; rintro e w3 ⟨rfl, vh3, P3, hT3⟩
              go_wp2
              go_end0
              rw [HFE.out]
              exact ⟨rfl, _, _, P3, HT1.out.trans (hT.trans hT3)⟩
            · have dz2 : decide (0 < lh) = false := decide_eq_false hl0
              have hno : ¬ (0 < z ∨ 0 < hd.length) := by
                have := HLH.out
                omega
              have hfe : fiB x f n l s = s' := by rw [hfe0]; exact if_neg hno
              have HFE := Lib.hid hfe
              clear hin hst2 hfe hfe0
              go_wp2
              go_end0
              rw [HFE.out]
              exact ⟨rfl, _, _, P, HT1.out.trans hT⟩
end
section
open Go.RowKit
set_option linter.unusedVariables false
set_option maxRecDepth 100000

theorem Box4.cells {w : World} {g : Nat} {a b c d : Value} (h : Box4 w g a b c d) : w.rangeAt g 0 [a, b, c, d] := fun j v hv => by
  rw [Nat.zero_add]
  have hj : j < 4 := (List.getElem?_eq_some_iff.1 hv).1
  match j, hj, hv with
  | 0, _, hv => cases hv; exact h.c0
  | 1, _, hv => cases hv; exact h.c1
  | 2, _, hv => cases hv; exact h.c2
  | 3, _, hv => cases hv; exact h.c3
/-- a band of ac's that is in form, and good blocks -/
def AcOk (f t h l : Int) (G : List (List Int)) : Prop := Gd f t h l ∧ f ≠ 0 ∧ GoodL G
def AcP (f t h l : Int) (G : List (List Int)) (w : World) (e : Ending) (w' : World) : Prop :=
  (AcOk f t h l G → ∃ v, e = .returned (.tuple #[v, .nilIface]) ∧ w'.ownsRow w.heap.size 27 4 v (acP f.toNat (t.toNat + 1 - f.toNat) h l G).length (pcRows (acP f.toNat (t.toNat + 1 - f.toNat) h l G))) ∧
  (¬ AcOk f t h l G → e = .returned (.tuple #[.slice none 0 0, errV 6])) ∧ Below w.heap.size w w'
theorem Pn.new_ (w : World) (f t h l : Int) : Pn (w.alloc (.cells #[.int .i64 f, .int .i64 t, .int .i64 h, .int .i64 l, .slice none 0 0, .int .i64 0, .slice none 0 0] 170)) w.heap.size w.heap.size f t h l (.slice none 0 0) (.slice none 0 0) ⟨[], 0, []⟩ :=
  ⟨Bln.new w _ _, World.ownsRow_nil _ _ _ _, World.ownsRow_nil _ _ _ _, fun e => by simp [Value.ownBlock] at e, fun e => by simp [Value.ownBlock] at e, fun k e => by simp [Value.ownBlock] at e⟩
theorem acL_take {f n : Nat} {h l : Int} {G : List (List Int)} {i : Nat} {x : List Int} (hx : G[i]? = some x) (s : Pen) : acL f n h l (G.take (i + 1)) s = acB f n h l (acL f n h l (G.take i) s) x := by
  have : G.take (i + 1) = G.take i ++ [x] := by rw [List.take_add_one, hx]; rfl
  rw [this, acL_snoc]
/-- the loop: the pen behind so many blocks -/
def AcR (f n t : Nat) (h l : Int) (N p : Nat) (G : List (List Int)) (w3 : World) (ix : Value) (wr : World) : Prop :=
  ∃ (i : Nat) (vo vh : Value), i ≤ N ∧ ix = .int .i64 i ∧ Pn wr p p (f : Nat) (t : Nat) h l vo vh (acL f n h l (G.take i) ⟨[], 0, []⟩) ∧ Below p w3 wr
set_option maxHeartbeats 16000000 in
theorem ac_any {w : World} {A : Option Addr} {n c : Nat} {G : List (List Int)} (hG : Blk w A n G) (hn : n ≤ 1000) (f t h l : Int) :
    Calls Try.prog 69 #[.slice A n c, .agg #[.int .i64 f, .int .i64 t, .int .i64 h, .int .i64 l]] w (AcP f t h l G w) := by
  have X := Box4.new w 107 (.int .i64 f) (.int .i64 t) (.int .i64 h) (.int .i64 l)
  have hb0 : Below w.heap.size w (w.alloc (.cells #[.int .i64 f, .int .i64 t, .int .i64 h, .int .i64 l] 107)) := (Below.refl _ _).alloc (Nat.le_refl _) _
  have HGG := Lib.hid hG
  clear hG
  go_enter Try.func69, Try.ntmps69
  go_upto_region 1 with fail
  generalize w.alloc (.cells #[.int .i64 f, .int .i64 t, .int .i64 h, .int .i64 l] 107) = w0 at *
  have hg0 := HGG.out.below hb0
  obtain ⟨_, x0, x1, x2, x3⟩ := id X
  by_cases hgd : Gd f t h l
  · have HGD := Lib.hid hgd
    go_wp2_with fail
    refine (bcheck_any f t h l .nilIface (fun hg => rfl) (fun hg => absurd hgd hg) w0).mono ?_; rintro e w1 ⟨rfl, hb1⟩
    have X1 := X.below hb1 X.lt
    have hb1' := hb0.trans (hb1.mono hb0.size)
    clear x0 x1 x2 x3 X hgd
    obtain ⟨_, x0, x1, x2, x3⟩ := id X1
    by_cases hf0 : f = 0
    · have d0 : decide (f = 0) = true := decide_eq_true hf0
      have HF0 := Lib.hid hf0
      clear hf0
      go_wp2_with fail
      refine (dc_any f t h l w1).mono ?_; rintro e w2 ⟨rfl, hb2⟩
      go_wp2
      go_ret2
      exact ⟨fun h => absurd HF0.out h.2.1, fun _ => rfl, hb1'.trans (hb2.mono hb1'.size)⟩
    · have d0 : decide (f = 0) = false := decide_eq_false hf0
      have HF0 := Lib.hid hf0
      clear hf0
      go_wp2_with fail
      refine (dc_any f t h l w1).mono ?_; rintro e w2 ⟨rfl, hb2⟩
      have X2 := X1.below hb2 X1.lt
      have hb2' := hb1'.trans (hb2.mono hb1'.size)
      have hg2 := HGG.out.below hb2'
      clear x0 x1 x2 x3 X1
      obtain ⟨_, x0, x1, x2, x3⟩ := id X2
      by_cases hgl : GoodL G
      · have HGL := Lib.hid hgl
        have dg := gL_t hgl
        go_wp2_with fail
        refine (sound_any A n c G w2 hg2 (by omega)).mono ?_; rintro e w3 ⟨rfl, hb3⟩
        rw [dg]
        have X3 := X2.below hb3 X2.lt
        have hb3' := hb2'.trans (hb3.mono hb2'.size)
        have hg3 := HGG.out.below hb3'
        clear x0 x1 x2 x3 X2 hgl dg
        obtain ⟨_, x0, x1, x2, x3⟩ := id X3
        go_upto_region 4 with fail
        have hgd2 : 1 ≤ f ∧ f ≤ t ∧ t ≤ 63 := by have := HGD.out; have := HF0.out; unfold Gd at *; omega
        obtain ⟨F, rfl⟩ := Int.eq_ofNat_of_zero_le (show 0 ≤ f by omega)
        obtain ⟨T, rfl⟩ := Int.eq_ofNat_of_zero_le (show 0 ≤ t by omega)
        have hft : F ≤ T := by omega
        have hT63 : T ≤ 63 := by omega
        obtain ⟨N, hN⟩ : ∃ N, N = T + 1 - F := ⟨_, rfl⟩
        have HN := Lib.hid hN
        have P0 := Pn.new_ w3 (F : Int) (T : Int) h l
        have hba : Below w3.heap.size w3 (w3.alloc (.cells #[.int .i64 (F : Int), .int .i64 (T : Int), .int .i64 h, .int .i64 l, .slice none 0 0, .int .i64 0, .slice none 0 0] 170)) := (Below.refl _ _).alloc (Nat.le_refl _) _
        have X4 := X3.below hba X3.lt
        have hx3 := X3.lt
        have hs3 := hb3'.size
        generalize w3.alloc (.cells #[.int .i64 (F : Int), .int .i64 (T : Int), .int .i64 h, .int .i64 l, .slice none 0 0, .int .i64 0, .slice none 0 0] 170) = w4 at *
        have hp4 := P0.lt
        have hb4' := hb3'.trans (hba.mono hs3)
        obtain ⟨p, hp⟩ : ∃ p, p = w3.heap.size := ⟨_, rfl⟩
        rw [← hp] at P0 hx3 hs3 hp4 hba ⊢
        have HPQ := Lib.hid hp
        clear hN x0 x1 x2 x3 X3 hb0 hb1 hb1' hb2 hb2' hb3 hb3' hg0 hg2 hg3 hp hba hgd2
        go_wp2
        go_loopw [27] (AcR F N T h l n p G w4) (fun ix _ => n - (intOf ix).toNat)
        case atStart => exact ⟨0, _, _, Nat.zero_le _, rfl, P0, Below.refl _ _⟩
        case round =>
          clear P0
          obtain ⟨i, vo, vh, hi, rfl, P, hb⟩ := hrel
          obtain ⟨wi, rfl⟩ : ∃ wi : World, wi = wr := ⟨_, rfl⟩
          have hbd := acL_bd F N h l (G.take i) ⟨[], 0, []⟩
          have htl : (G.take i).length ≤ i := List.length_take_le _ _
          have hN64 : N ≤ 64 := by have := HN.out; omega
          have h3n : 3 * N * (G.take i).length ≤ 192 * 1000 := by
            have h1 : 3 * N * (G.take i).length ≤ 192 * (G.take i).length := Nat.mul_le_mul_right _ (by omega)
            have h2 : 192 * (G.take i).length ≤ 192 * 1000 := Nat.mul_le_mul_left _ (by omega)
            omega
          have hl0 : (⟨[], 0, []⟩ : Pen).len = 0 := rfl
          have he0 : (⟨[], 0, []⟩ : Pen).ends = 0 := rfl
          obtain ⟨sq, hsq⟩ : ∃ sq, sq = acL F N h l (G.take i) ⟨[], 0, []⟩ := ⟨_, rfl⟩
          rw [← hsq] at P hbd
          have HSQ := Lib.hid hsq
          have hsb : sq.len ≤ 200000 ∧ sq.ends ≤ 1000 := by omega
          clear hsq hbd h3n htl
          have hpw : p ≤ wi.heap.size := by have := P.lt; omega
          by_cases hlt : i < n
          · have dl : decide (i < n) = true := decide_eq_true hlt
            have hbw := hb4'.trans (hb.mono (by omega))
            obtain ⟨x, b1, o1, hx, hxm, hx64, hxI, rfl, hb1, hrg⟩ := (HGG.out.below hbw).at_ hlt
            have hgx := HGL.out x hxm
            have HSN := Lib.hid (acL_take (f := F) (n := N) (h := h) (l := l) hx ⟨[], 0, []⟩)
            rw [← HSQ.out] at HSN
            have HXL := Lib.hid hx64
            have HGX := Lib.hid hgx
            have hal : ∀ W : World, W.alloc (.cells #[.int .i64 0, .int .i64 0, .int .i64 0, .int .i64 0, .int .i64 0, .int .i64 0, .int .i64 0, .int .i64 0, .int .i64 0, .int .i64 0, .int .i64 0, .int .i64 0, .int .i64 0, .int .i64 0, .int .i64 0, .int .i64 0, .int .i64 0, .int .i64 0, .int .i64 0, .int .i64 0, .int .i64 0, .int .i64 0, .int .i64 0, .int .i64 0, .int .i64 0, .int .i64 0, .int .i64 0, .int .i64 0, .int .i64 0, .int .i64 0, .int .i64 0, .int .i64 0, .int .i64 0, .int .i64 0, .int .i64 0, .int .i64 0, .int .i64 0, .int .i64 0, .int .i64 0, .int .i64 0, .int .i64 0, .int .i64 0, .int .i64 0, .int .i64 0, .int .i64 0, .int .i64 0, .int .i64 0, .int .i64 0, .int .i64 0, .int .i64 0, .int .i64 0, .int .i64 0, .int .i64 0, .int .i64 0, .int .i64 0, .int .i64 0, .int .i64 0, .int .i64 0, .int .i64 0, .int .i64 0, .int .i64 0, .int .i64 0, .int .i64 0, .int .i64 0] 70) = W.alloc (.cells (iv z64).toArray 70) := fun _ => rfl
            obtain ⟨XG, hbG⟩ := Bln.copy wi 70 (iv z64) (iv x) (by rw [iv_len, iv_len, hx64]; rfl)
            have hth : (wi.alloc (.cells (iv z64).toArray 70)).there wi.heap.size 0 (iv x).toArray.size := by
              have h := (Nb.new wi).there x hx64
              simpa using h
            have hone := one_iv x
            have hsz : (iv x).toArray.size = 64 := (iv_len x).trans hx64
            have HSZ := Lib.hid hsz
            have hi0' : (0 : Int) ≤ (i : Int) := by omega
            have hi1' : (i : Int) < (n : Int) := by omega
            clear hx hxm hx64 hxI hgx hsz hbw hb1
            go_upto_region 7 with (first | refine wpList_load_mid rfl 70 (.tmp 29) rfl _ _ rfl (iv x) _ hrg Try.underlying70 rfl (by rw [iv_len, HXL.out]; kernel_rfl) ?_ | refine wpList_store_mid rfl 70 (.tmp 8) (.tmp 30) rfl _ _ (iv x).toArray rfl rfl hth (by rw [HSZ.out]; kernel_rfl) (all_oneCell_toArray hone) ?_)
            have P5 := P.below hbG
            have hb5 := hb.trans (hbG.mono hpw)
            generalize (wi.alloc (.cells (iv z64).toArray 70)).setCells wi.heap.size 0 (iv x) = w5 at *
            generalize wi.heap.size = gx at *
            clear hth hbG hrg hal P
            have X5 := X4.below (hb5) hx3
            obtain ⟨_, x0, x1, x2, x3⟩ := id X5
            by_cases hh : 0 < h
            · have dh : decide (0 < h) = true := decide_eq_true hh
              have hac : acB F N h l sq x = fiB x F (T + 1 - F) l sq := by unfold acB; rw [if_pos hh, HN.out]
              have HAC := Lib.hid hac
              go_wp2_with fail
              refine (finer_any (F : Int) (T : Int) h l w5).mono ?_; rintro e w6 ⟨rfl, hb6⟩
              have P6 := P5.below hb6
              have XG6 := XG.below hb6
              have hb6' := hb5.trans (hb6.mono (by have := P5.lt; omega))
              have hrG := XG6.range 0 (iv x) (fun j v hv => by rw [Nat.zero_add]; exact hv)
              clear P5 XG hb5 hb6 x0 x1 x2 x3 X5 hac
              go_wp2_with (refine wpList_load_mid rfl 70 (.tmp 8) rfl _ _ rfl (iv x) _ hrG Try.underlying70 rfl (by rw [iv_len, HXL.out]; kernel_rfl) ?_)
              refine (fine_any P6 (by have := P6.lt; omega) (by omega) (by omega) hft hT63 x HXL.out HGX.out).mono ?_; rintro e w7 ⟨rfl, vo7, vh7, P7, hT7⟩
              rw [← HAC.out, ← HSN.out] at P7
              have hb7 := hb6'.trans (hT7.below (Nat.le_refl _) (fun k hk => (P6.out.lt k hk).1) (fun k hk => (P6.held.lt k hk).1) (by have := P6.lt; omega))
              clear hrG P6 XG6 hT7
              go_wp2
              go_roundw
              case rel => exact ⟨i + 1, vo7, vh7, by omega, by go_num, P7, hb7⟩
              case measure => simp [intOf]; omega
            · have dh : decide (0 < h) = false := decide_eq_false hh
              have hac : acB F N h l sq x = fsB x F (T + 1 - F) l sq := by unfold acB; rw [if_neg hh, HN.out]
              have HAC := Lib.hid hac
              go_wp2_with fail
              refine (finer_any (F : Int) (T : Int) h l w5).mono ?_; rintro e w6 ⟨rfl, hb6⟩
              have P6 := P5.below hb6
              have XG6 := XG.below hb6
              have hb6' := hb5.trans (hb6.mono (by have := P5.lt; omega))
              have hrG := XG6.range 0 (iv x) (fun j v hv => by rw [Nat.zero_add]; exact hv)
              clear P5 XG hb5 hb6 x0 x1 x2 x3 X5 hac
              go_wp2_with (refine wpList_load_mid rfl 70 (.tmp 8) rfl _ _ rfl (iv x) _ hrG Try.underlying70 rfl (by rw [iv_len, HXL.out]; kernel_rfl) ?_)
              refine (first_any P6 (by have := P6.lt; omega) (by omega) (by omega) hft hT63 x HXL.out HGX.out).mono ?_; rintro e w7 ⟨rfl, vo7, vh7, P7, hT7⟩
              rw [← HAC.out, ← HSN.out] at P7
              have hb7 := hb6'.trans (hT7.below (Nat.le_refl _) (fun k hk => (P6.out.lt k hk).1) (fun k hk => (P6.held.lt k hk).1) (by have := P6.lt; omega))
              clear hrG P6 XG6 hT7
              go_wp2
              go_roundw
              case rel => exact ⟨i + 1, vo7, vh7, by omega, by go_num, P7, hb7⟩
              case measure => simp [intOf]; omega
          · have dl : decide (i < n) = false := decide_eq_false hlt
            have hge : G.take i = G := List.take_of_length_le (by rw [HGG.out.len]; omega)
            rw [hge] at HSQ
            have hpo := fun k (hk : vo.ownBlock = some k) => (P.out.lt k hk).1
            have hph := fun k (hk : vh.ownBlock = some k) => (P.held.lt k hk).1
            have hfl := fl_len sq
            have hlq : sq.out.length + sq.held.length = sq.len := rfl
            clear hge
            go_wp2_with fail
            refine (flush_any P hpw (by omega) (by omega)).mono ?_; rintro e w6 ⟨rfl, vf, P6, hT6⟩
            have hb6 := hb.trans (hT6.below (Nat.le_refl _) hpo hph hpw)
            have hb6' := hb4'.trans (hb6.mono (by omega))
            have hfo := P6.out
            obtain ⟨lo, hlo⟩ : ∃ lo, lo = sq.fl.out.length := ⟨_, rfl⟩
            rw [← hlo] at hfo
            obtain ⟨Av, cv, hve, _⟩ := own_sliceN hfo
            subst hve
            have c4 := P6.blk.cell (i := 4) (u := .slice Av lo cv) rfl
            have HF := Lib.hid hfo
            have HLO := Lib.hid hlo
            clear hfo hlo P6 hT6
            go_wp2
            go_ret2
            refine ⟨fun _ => ⟨_, rfl, ?_⟩, fun h => absurd ⟨HGD.out, HF0.out, HGL.out⟩ h, hb6'⟩
            have hae : acP (F : Int).toNat ((T : Int).toNat + 1 - (F : Int).toNat) h l G = sq.fl.out := by
              unfold acP
              rw [Int.toNat_natCast, Int.toNat_natCast, ← HN.out, HSQ.out]
            rw [hae, ← HLO.out]
            exact own_baseN HF.out (fun k hk => by have := (HF.out.lt k hk).1; omega)
      · have HGL := Lib.hid hgl
        have dg := gL_f hgl
        go_wp2_with fail
        refine (sound_any A n c G w2 hg2 (by omega)).mono ?_; rintro e w3 ⟨rfl, hb3⟩
        rw [dg]
        clear hgl dg
        go_wp2
        go_ret2
        exact ⟨fun h => absurd h.2.2 HGL.out, fun _ => rfl, hb2'.trans (hb3.mono hb2'.size)⟩
  · have HGD := Lib.hid hgd
    go_wp2_with fail
    refine (bcheck_any f t h l (.iface 53 (.int .i64 6)) (fun hg => absurd hg hgd) (fun hg => rfl) w0).mono ?_; rintro e w1 ⟨rfl, hb1⟩
    clear hgd
    go_wp2
    go_ret2
    exact ⟨fun h => absurd h.1 HGD.out, fun _ => rfl, hb0.trans (hb1.mono hb0.size)⟩
end
end Go.Proofs.Ytlhappecjjbopaa
