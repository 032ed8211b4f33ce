/-
  Prog: a band's places; sound blocks; by contracts. No condition.
-/
import Derived.Test.YtlhappecjjbopaaPrE
import Derived.Test.YtlhappecjjbopaaPrF
import Derived.Test.YtlhappecjjbopaaPrC
import Derived.Test.YtlhappecjjbopaaBlk
namespace Go.Proofs.Ytlhappecjjbopaa
open Go.RowKit
set_option linter.unusedVariables false
set_option maxRecDepth 100000

/-- a band's places -/
def plc (f n : Nat) : List Int := (zzL.drop f).take n
theorem zzL_len : zzL.length = 64 := by decide +kernel
theorem plc_len {f n : Nat} (h : f + n ≤ 64) : (plc f n).length = n := by unfold plc; rw [List.length_take, List.length_drop, zzL_len]; omega
theorem plc_at {f n i : Nat} (h : f + n ≤ 64) (hi : i < n) : (plc f n)[i]? = some ((zzN (f + i) : Nat) : Int) := by
  unfold plc
  rw [List.getElem?_take_of_lt hi, List.getElem?_drop, ← (zzN_bd (f + i) (by omega)).2.1, List.getD_eq_getElem?_getD, List.getElem?_eq_getElem (by rw [zzL_len]; omega)]; rfl
def z64o : List Int := List.replicate 64 0
def PlaP (f n : Nat) (w : World) (e : Ending) (w' : World) : Prop := ∃ v, e = .returned v ∧ w'.ownsRow w.heap.size 3 1 v n (iv (plc f n)) ∧ Below w.heap.size w w'
set_option maxHeartbeats 4000000 in
theorem places_any (f t : Nat) (h l : Int) (hf : f ≤ t) (ht : t ≤ 63) (w : World) :
    Calls Try.prog 126 #[.agg #[.int .i64 (f : Nat), .int .i64 (t : Nat), .int .i64 h, .int .i64 l]] w (PlaP f (t + 1 - f) w) := by
  have hal : ∀ W : World, W.alloc (.cells #[.int .i64 0, .int .i64 0, .int .i64 0, .int .i64 0, .int .i64 0, .int .i64 0, .int .i64 0, .int .i64 0, .int .i64 0, .int .i64 0, .int .i64 0, .int .i64 0, .int .i64 0, .int .i64 0, .int .i64 0, .int .i64 0, .int .i64 0, .int .i64 0, .int .i64 0, .int .i64 0, .int .i64 0, .int .i64 0, .int .i64 0, .int .i64 0, .int .i64 0, .int .i64 0, .int .i64 0, .int .i64 0, .int .i64 0, .int .i64 0, .int .i64 0, .int .i64 0, .int .i64 0, .int .i64 0, .int .i64 0, .int .i64 0, .int .i64 0, .int .i64 0, .int .i64 0, .int .i64 0, .int .i64 0, .int .i64 0, .int .i64 0, .int .i64 0, .int .i64 0, .int .i64 0, .int .i64 0, .int .i64 0, .int .i64 0, .int .i64 0, .int .i64 0, .int .i64 0, .int .i64 0, .int .i64 0, .int .i64 0, .int .i64 0, .int .i64 0, .int .i64 0, .int .i64 0, .int .i64 0, .int .i64 0, .int .i64 0, .int .i64 0, .int .i64 0] 39) = W.alloc (.cells (iv z64o).toArray 39) := fun _ => rfl
  have X := Bln.new w 107 [.int .i64 (f : Nat), .int .i64 (t : Nat), .int .i64 h, .int .i64 l]
  have hb0 : Below w.heap.size w (w.alloc (.cells #[.int .i64 (f : Nat), .int .i64 (t : Nat), .int .i64 h, .int .i64 l] 107)) := (Below.refl _ _).alloc (Nat.le_refl _) _
  go_enter Try.func126, Try.ntmps126
  go_upto_region 1 with fail
  generalize w.alloc (.cells #[.int .i64 (f : Nat), .int .i64 (t : Nat), .int .i64 h, .int .i64 l] 107) = w0 at *
  have hsz := X.lt
  go_wp2_with fail
  refine (zigzag_any w0).mono ?_; rintro e w1 ⟨rfl, hb1⟩
  have X1 := X.below hb1
  have hb1' := hb0.trans (hb1.mono hb0.size)
  obtain ⟨ZL, hZL⟩ : ∃ z, z = zzL := ⟨_, rfl⟩
  rw [← hZL]
  have hz64 : (iv ZL).length = 64 := by rw [iv_len, hZL, zzL_len]
  obtain ⟨XG, hbG⟩ := Bln.copy w1 39 (iv z64o) (iv ZL) (by rw [hz64, iv_len]; rfl)
  have hzs : (iv ZL).toArray.size = 64 := hz64
  have hth : (w1.alloc (.cells (iv z64o).toArray 39)).there w1.heap.size 0 (iv ZL).toArray.size := by
    rw [hzs]; exact (Bln.new w1 39 (iv z64o)).there 64 (by rw [iv_len]; exact Nat.le_refl _)
  have HZS := Lib.hid hzs
  have hpl : plc f (t + 1 - f) = (ZL.drop f).take (t + 1 - f) := by rw [hZL]; rfl
  have HPL := Lib.hid hpl
  have HPN := Lib.hid (plc_len (f := f) (n := t + 1 - f) (by omega))
  have hX := Lib.hid X1
  clear hzs hz64 hZL hpl X X1 hb0 hb1
  go_upto_region 2 with (first | refine wpList_store_mid rfl 39 (.tmp 3) (.tmp 4) rfl _ _ (iv ZL).toArray rfl rfl hth (by rw [HZS.out]; kernel_rfl) (all_oneCell_toArray (one_iv ZL)) ?_)
  have X2 := hX.out.below hbG
  have hb2 := hb1'.trans (hbG.mono hb1'.size)
  have hs2 := hb2.size
  generalize (w1.alloc (.cells (iv z64o).toArray 39)).setCells w1.heap.size 0 (iv ZL) = w2 at *
  generalize w1.heap.size = gz at *
  have x0 := X2.cell (i := 0) (u := .int .i64 (f : Nat)) rfl
  have x1 := X2.cell (i := 1) (u := .int .i64 (t : Nat)) rfl
  have hgz := XG.lt
  have hRz : Rd w2 w2.heap.size (some ⟨gz, f, none⟩) (iv (plc f (t + 1 - f))) := .inr ⟨gz, f, rfl, hgz, fun k u hu => by
    rw [HPL.out] at hu
    unfold iv at hu
    rw [List.getElem?_map, List.getElem?_take, List.getElem?_drop] at hu
    refine XG.cell (i := f + k) ?_
    unfold iv
    rw [List.getElem?_map]
    split at hu
    · exact hu
    · cases hu⟩
  have HXG := Lib.hid XG
  have hf1 : (f : Int) ≤ (t : Int) + 1 := by omega
  have ht1 : (t : Int) + 1 ≤ 64 := by omega
  clear hth X2 hbG XG hb1'
  go_wp2_with fail
  refine (cloneInts_any _ _ _ (plc f (t + 1 - f)) w2 HPN.out hRz (by omega)).mono ?_; rintro e w3 ⟨v, rfl, ho, hb3⟩
  go_wp2
  go_ret
  exact ⟨v, rfl, own_base ho (fun k hk => by have := (ho.lt k hk).1; omega), hb2.trans (hb3.mono hs2)⟩

/-- is a block good? are all? -/
noncomputable def gB (b : List Int) : Bool := @decide (GoodB b) (Classical.propDecidable _)
theorem gB_t {b : List Int} (h : GoodB b) : gB b = true := by unfold gB; exact @decide_eq_true _ (Classical.propDecidable _) h
theorem gB_f {b : List Int} (h : ¬ GoodB b) : gB b = false := by unfold gB; exact @decide_eq_false _ (Classical.propDecidable _) h
theorem gB_iff (b : List Int) : gB b = true ↔ GoodB b := ⟨fun h => Classical.byContradiction fun h1 => (by rw [gB_f h1] at h; cases h), gB_t⟩
def GoodL (G : List (List Int)) : Prop := ∀ x ∈ G, GoodB x
noncomputable def gL (G : List (List Int)) : Bool := @decide (GoodL G) (Classical.propDecidable _)
theorem gL_t {b : List (List Int)} (h : GoodL b) : gL b = true := by unfold gL; exact @decide_eq_true _ (Classical.propDecidable _) h
theorem gL_f {b : List (List Int)} (h : ¬ GoodL b) : gL b = false := by unfold gL; exact @decide_eq_false _ (Classical.propDecidable _) h
theorem gL_iff (b : List (List Int)) : gL b = true ↔ GoodL b := ⟨fun h => Classical.byContradiction fun h1 => (by rw [gL_f h1] at h; cases h), gL_t⟩
def BoolP (b : Bool) (w : World) (e : Ending) (w' : World) : Prop := e = .returned (.bool b) ∧ Below w.heap.size w w'
theorem sound1_any (b : List Int) (hb : b.length = 64) (w : World) : Calls Try.prog 147 #[.agg (iv b).toArray] w (BoolP (!(gB b)) w) := by
  have X := Bln.new w 70 (iv b)
  have hb0 : Below w.heap.size w (w.alloc (.cells (iv b).toArray 70)) := (Below.refl _ _).alloc (Nat.le_refl _) _
  have HB := Lib.hid hb
  clear hb
  go_enter Try.func147, Try.ntmps147
  go_upto_region 1 with fail
  generalize w.alloc (.cells (iv b).toArray 70) = w0 at *
  have hr := X.range 0 (iv b) (fun j v hv => by rw [Nat.zero_add]; exact hv)
  go_wp2_with (refine wpList_load_mid rfl 70 (.tmp 1) rfl _ _ rfl (iv b) _ hr Try.underlying70 rfl (by rw [iv_len, HB.out]; kernel_rfl) ?_)
  refine (check_any b HB.out w0).mono ?_; rintro e w1 ⟨h1, h2, hb1⟩
  have hb1' := hb0.trans (hb1.mono hb0.size)
  by_cases hg : GoodB b
  · obtain rfl := h1 hg
    have HG := Lib.hid (gB_t hg)
    clear h1 h2 hg
    go_wp2
    go_ret
    exact ⟨by rw [HG.out]; rfl, hb1'⟩
  · obtain rfl := h2 hg
    have HG := Lib.hid (gB_f hg)
    unfold errV
    clear h1 h2 hg
    go_wp2
    go_ret
    exact ⟨by rw [HG.out]; rfl, hb1'⟩
def IdxG (G : List (List Int)) (w : World) (e : Ending) (w' : World) : Prop := ∃ r : Int, e = .returned (.int .i64 r) ∧ (GoodL G → r = -1) ∧ (¬ GoodL G → 0 ≤ r) ∧ Below w.heap.size w w'
set_option maxHeartbeats 2000000 in
theorem idxB_any (A : Option Addr) (n c : Nat) (G : List (List Int)) (w : World) (h : Blk w A n G) (hm : n ≤ 2000000) :
    Calls Try.prog 153 #[.slice A n c, .func (.func 147) #[] #[]] w (IdxG G w) := by
  have HG := Lib.hid h
  clear h
  go_enter Try.func153, Try.ntmps153
  go_wp2
  go_loopw [8] (fun i wr => ∃ k : Nat, k ≤ n ∧ i = .int .i64 k ∧ (∀ x ∈ G.take k, GoodB x) ∧ Below w.heap.size w wr) (fun i _ => n - (intOf i).toNat)
  case atStart => exact ⟨0, Nat.zero_le _, rfl, fun x hx => by simp at hx, Below.refl _ _⟩
  case round =>
    obtain ⟨k, hk, rfl, hok, hb⟩ := hrel
    have HOK := Lib.hid hok
    obtain ⟨wi, rfl⟩ : ∃ wi : World, wi = wr := ⟨_, rfl⟩
    clear hok
    by_cases hlt : k < n
    · obtain ⟨x, b1, o1, hx, hxm, hx64, hxI, rfl, hb1, hrg⟩ := (HG.out.below hb).at_ hlt
      have hk0 : (0 : Int) ≤ (k : Int) := by omega
      have hk1 : (k : Int) < (n : Int) := by omega
      have HXL := Lib.hid hx64
      have htk : G.take (k + 1) = G.take k ++ [x] := by rw [List.take_add_one, hx]; rfl
      have HTK := Lib.hid htk
      have HXM := Lib.hid hxm
      clear hx hxm hx64 hxI htk hb1
      by_cases hg : GoodB x
      · have HGG := Lib.hid hg
        go_wp2_with (refine wpList_load_mid rfl 70 (.tmp 14) rfl _ _ rfl (iv x) _ hrg Try.underlying70 rfl (by rw [iv_len, HXL.out]; kernel_rfl) ?_)
        refine (sound1_any x HXL.out wi).mono ?_; rintro e w1 ⟨rfl, hb1⟩
        rw [gB_t hg]
        clear hrg hg
        go_wp2
        go_roundw
        case rel =>
          refine ⟨k + 1, by omega, by go_num, fun y hy => ?_, hb.trans (hb1.mono hb.size)⟩
          rw [HTK.out] at hy
          rcases List.mem_append.1 hy with hy | hy
          · exact HOK.out y hy
          · rw [List.mem_singleton.1 hy]; exact HGG.out
        case measure => simp [intOf]; omega
      · have HGG := Lib.hid hg
        go_wp2_with (refine wpList_load_mid rfl 70 (.tmp 14) rfl _ _ rfl (iv x) _ hrg Try.underlying70 rfl (by rw [iv_len, HXL.out]; kernel_rfl) ?_)
        refine (sound1_any x HXL.out wi).mono ?_; rintro e w1 ⟨rfl, hb1⟩
        rw [gB_f hg]
        clear hrg hg
        go_wp2
        go_ret
        exact ⟨(k : Int), rfl, fun h => absurd (h x HXM.out) HGG.out, fun _ => by omega, hb.trans (hb1.mono hb.size)⟩
    · have htl : G.take k = G := List.take_of_length_le (by rw [HG.out.len]; omega)
      rw [htl] at HOK
      go_wp2
      go_ret
      exact ⟨-1, rfl, fun _ => rfl, fun h => absurd HOK.out h, hb⟩
theorem containsB_any (A : Option Addr) (n c : Nat) (G : List (List Int)) (w : World) (h : Blk w A n G) (hm : n ≤ 2000000) :
    Calls Try.prog 146 #[.slice A n c, .func (.func 147) #[] #[]] w (BoolP (!(gL G)) w) := by
  go_enter Try.func146, Try.ntmps146
  go_wp2_with fail
  refine (idxB_any A n c G w h hm).mono ?_; rintro e w1 ⟨r, rfl, h1, h2, hb⟩
  by_cases hk : GoodL G
  · obtain rfl := h1 hk
    have hd := gL_t hk
    have HD := Lib.hid hd
    clear h1 h2 hk hd
    go_wp2
    go_ret
    exact ⟨by rw [HD.out]; rfl, hb⟩
  · have h3 := h2 hk
    have hd := gL_f hk
    have HD := Lib.hid hd
    clear h1 h2 hk hd
    go_wp2
    go_ret
    exact ⟨by rw [HD.out]; rfl, hb⟩
theorem sound_any (A : Option Addr) (n c : Nat) (G : List (List Int)) (w : World) (h : Blk w A n G) (hm : n ≤ 2000000) :
    Calls Try.prog 116 #[.slice A n c] w (BoolP (gL G) w) := by
  go_enter Try.func116, Try.ntmps116
  go_wp2_with fail
  refine (containsB_any A n c G w h hm).mono ?_; rintro e w1 ⟨rfl, hb⟩
  generalize gL G = g at *
  go_wp2
  go_ret
  exact ⟨by simp, hb⟩
end Go.Proofs.Ytlhappecjjbopaa
