/-
  Prog: a block of a first band is put, by a contract. Conditions: at most 20000 ends, at most 900000 pieces.
-/
import Derived.Test.YtlhappecjjbopaaPrG
import Derived.Deep.RegionLaw
import Derived.BigRegion
namespace Go.Proofs.Ytlhappecjjbopaa
open Go.RowKit
set_option linter.unusedVariables false
set_option maxRecDepth 100000

/-- a number's bounds, of a good block -/
theorem tn_bd {x : List Int} (hx : x.length = 64) (hg : GoodB x) (f : Nat) (l : Int) (i : Nat) (hi : f + i < 64) : -1024 ≤ x.getD (zzN (f + i)) 0 ∧ x.getD (zzN (f + i)) 0 ≤ 1023 := by
  have hz := zzN_bd (f + i) hi
  rcases Nat.eq_zero_or_pos (zzN (f + i)) with h | h
  · rw [h]; exact hg.2
  · have := hg.1 _ h hz.1; omega
theorem tl_bd {n : Int} (l : Int) (h1 : -1024 ≤ n) (h2 : n ≤ 1023) (dc : Bool) : -1024 ≤ tl n l dc ∧ tl n l dc ≤ 1023 := by
  unfold tl
  split
  · omega
  · have hp := two_pos l.toNat
    generalize (2 : Int) ^ l.toNat = P at *
    split
    · refine ⟨?_, ?_⟩
      · rw [Int.le_ediv_iff_mul_le (by omega)]; omega
      · by_cases h0 : 0 ≤ n
        · have := Int.ediv_le_self P h0; omega
        · have := Int.ediv_neg_of_neg_of_pos (show n < 0 by omega) (show 0 < P by omega)
          omega
    · rename_i h
      have h3 : 0 ≤ -n := by
        have : ¬ 0 ≤ n := fun e => h (.inr e)
        omega
      have h4 := Int.ediv_le_self P h3
      have h5 := Int.ediv_nonneg h3 (show 0 ≤ P by omega)
      omega
theorem Pn.drewN {w : World} {B p : Nat} {f t h l : Int} {vo vh : Value} {s : Pen} (x : Pn w B p f t h l vo vh s) (n : Nat) : Pn (w.drewN n) B p f t h l vo vh s := by
  have hf : Fr (fun _ => False) w (w.drewN n) := (Fr.refl _ _).drewN n
  exact ⟨x.blk.keep hf (fun f => f), hf.ownN x.out (fun _ _ f => f), hf.ownN x.held (fun _ _ f => f), x.po, x.ph, x.oh⟩
theorem Pt.drewN {p : Nat} {w w' : World} {vo vh vo' vh' : Value} (h : Pt p w vo vh w' vo' vh') (n : Nat) : Pt p w vo vh (w'.drewN n) vo' vh' := ⟨h.fr.drewN n, h.out, h.held⟩
theorem Pt.off {p k : Nat} {w w' : World} {vo vh vo' vh' : Value} (h : Pt p w vo vh w' vo' vh') (hk : k < w.heap.size) (h1 : vo.ownBlock ≠ some k ∧ vh.ownBlock ≠ some k) : vo'.ownBlock ≠ some k ∧ vh'.ownBlock ≠ some k :=
  ⟨fun e => by
    rcases h.out _ e with h2 | h2
    · exact h1.1 h2
    · omega, fun e => by
    rcases h.held _ e with h2 | h2
    · exact h1.2 h2
    · omega⟩
/-- pieces behind the others: an append of a new slice -/
theorem Pn.app {w w7 : World} {B p : Nat} {f t h l : Int} {vo vh v7 : Value} {s : Pen} {nw : List Pc} {k : Nat} (x : Pn w B p f t h l vo vh s) (hb : Below w.heap.size w w7) (w8 : World)
    (ho : w8.ownsRow B 27 4 v7 k (pcRows s.out ++ pcRows nw)) (hk : k = s.out.length + nw.length) (ha : Ap w7 w8 vo v7) :
    Pn (w8.setCell ⟨p, 4, none⟩ v7) B p f t h l v7 vh (s.put nw) ∧ Pt p w vo vh (w8.setCell ⟨p, 4, none⟩ v7) v7 vh := by
  obtain ⟨h1, h2⟩ := (x.below hb).setO ho hk ha
  exact ⟨h1, (Pt.of_below hb).trans h2⟩
/-- a block by value in a box, a band's places, a pen: what a round needs -/
structure Rnd (w : World) (b0 gz f n : Nat) (cz : Nat) (x : List Int) : Prop where
  box : Bln w b0 70 (iv x)
  plc : Rd w w.heap.size (some ⟨gz, 0, none⟩) (iv (plc f n))
theorem Rnd.keep {w w' : World} {b0 gz f n cz : Nat} {x : List Int} {S : Nat → Prop} (h : Rnd w b0 gz f n cz x) (hf : Fr S w w') (h1 : ¬ S b0) (h2 : ¬ S gz) : Rnd w' b0 gz f n cz x :=
  ⟨h.box.keep hf h1, (hf.rd h.plc (Nat.le_refl _) (fun p hp => by cases hp; exact h2)).more hf.size⟩
theorem Rnd.pt {w w' : World} {b0 gz f n cz p : Nat} {x : List Int} {a b a' b' : Value} (h : Rnd w b0 gz f n cz x) (hT : Pt p w a b w' a' b') (h1 : b0 ≠ p ∧ a.ownBlock ≠ some b0 ∧ b.ownBlock ≠ some b0) (h2 : gz ≠ p ∧ a.ownBlock ≠ some gz ∧ b.ownBlock ≠ some gz) : Rnd w' b0 gz f n cz x :=
  h.keep hT.fr (fun e => by rcases e with e | e | e
                            · exact h1.1 e
                            · exact h1.2.1 e
                            · exact h1.2.2 e) (fun e => by rcases e with e | e | e
                                                           · exact h2.1 e
                                                           · exact h2.2.1 e
                                                           · exact h2.2.2 e)
theorem Rnd.drewN {w : World} {b0 gz f n cz : Nat} {x : List Int} (h : Rnd w b0 gz f n cz x) (m : Nat) : Rnd (w.drewN m) b0 gz f n cz x :=
  h.keep (S := fun _ => False) ((Fr.refl _ _).drewN m) (fun f => f) (fun f => f)
def BlkP (B p : Nat) (f t h l : Int) (vo vh : Value) (s' : Pen) (w : World) (e : Ending) (w' : World) : Prop :=
  e = .returned (.tuple #[]) ∧ ∃ vo' vh', Pn w' B p f t h l vo' vh' s' ∧ Pt p w vo vh w' vo' vh'
/-- the loop's state -/
def FsR (B p f n b0 gz : Nat) (t h l : Int) (x : List Int) (s : Pen) (vo vh : Value) (w1 : World) (nz ix : Value) (wr : World) : Prop :=
  ∃ (i : Nat) (s' : Pen) (z : Nat) (vo' vh' : Value), i ≤ n ∧ ix = .int .i64 i ∧ nz = .int .i64 z ∧ fsN x f l s i = (s', z) ∧ Pn wr B p (f : Nat) t h l vo' vh' s' ∧ Pt p w1 vo vh wr vo' vh' ∧ Rnd wr b0 gz f n 0 x
set_option maxHeartbeats 16000000 in
theorem first_any {w : World} {B p f t : Nat} {h l : Int} {vo vh : Value} {s : Pen} (X : Pn w B p (f : Nat) (t : Nat) h l vo vh s) (hB : B ≤ w.heap.size) (he : s.ends ≤ 20000) (hn : s.len ≤ 900000)
    (hf : f ≤ t) (ht : t ≤ 63) (x : List Int) (hx : x.length = 64) (hg : GoodB x) :
    Calls Try.prog 119 #[.pointer (some ⟨p, 0, none⟩), .agg (iv x).toArray] w (BlkP B p (f : Nat) (t : Nat) h l vo vh (fsB x f (t + 1 - f) l s) w) := by
  obtain ⟨i0, ii0, iz0, iz1, iz2⟩ := info_parts Try.info_pc
  have hfo : ∀ q : Pc, List.foldl (fun (cs : Array Value) (x : Value × Nat) => cs.setIfInBounds x.2 x.1) #[.bool false, .int .i64 0, .int .i64 0, .int .i64 0] (pcV q).zipIdx = (pcV q).toArray := fun _ => rfl
  have hp4 : ∀ q : Pc, (pcV q).length = 4 := fun _ => rfl
  have hba : Below w.heap.size w (w.alloc (.cells (iv x).toArray 70)) := (Below.refl _ _).alloc (Nat.le_refl _) _
  have XB := Bln.new w 70 (iv x)
  have X0 := X.below hba
  have HX := Lib.hid hx
  have HG := Lib.hid hg
  have hplt := X.lt
  obtain ⟨n, hnq⟩ : ∃ n, n = t + 1 - f := ⟨_, rfl⟩
  rw [← hnq]
  have hfn : f + n ≤ 64 := by omega
  have hn1 : 1 ≤ n := by omega
  have HNQ := Lib.hid hnq
  have hao := fun k hk => (X.out.lt k hk).2
  have hah := fun k hk => (X.held.lt k hk).2
  clear hx hg X hnq
  go_enter Try.func119, Try.ntmps119
  go_upto_region 2 with fail
  generalize w.alloc (.cells (iv x).toArray 70) = w0 at *
  have hs0 := XB.lt
  have hrb := X0.blk.range 0 [.int .i64 (f : Nat), .int .i64 (t : Nat), .int .i64 h, .int .i64 l] (fun j v hv => by
    rw [Nat.zero_add]
    have hj : j < 4 := (List.getElem?_eq_some_iff.1 hv).1
    match j, hj with
    | 0, _ => exact hv | 1, _ => exact hv | 2, _ => exact hv | 3, _ => exact hv)
  go_wp2_with (refine wpList_load_mid rfl 107 (.tmp 10) rfl _ _ rfl [.int .i64 (f : Nat), .int .i64 (t : Nat), .int .i64 h, .int .i64 l] _ hrb Try.underlying107 rfl (by kernel_rfl) ?_)
  refine (places_any f t h l hf ht w0).mono ?_; rintro e w1 ⟨vz, rfl, hoz, hb1⟩
  rw [← HNQ.out] at hoz
  obtain ⟨gz, cz, hze, hcn, hcm, hgzl, hgz⟩ := own_pos hoz hn1
  subst hze
  have hba' := hba.trans (hb1.mono hba.size)
  have hs1 := hb1.size
  have R1 : Rnd w1 w.heap.size gz f n 0 x := ⟨XB.below hb1, Rd.of_own hoz⟩
  have P1 := X0.below hb1
  have hT1 : Pt p w vo vh w1 vo vh := Pt.of_below hba'
  obtain ⟨b0, hb0⟩ : ∃ b, b = w.heap.size := ⟨_, rfl⟩
  rw [← hb0] at R1 hs0 hplt hao hah hB ⊢
  have hb0g : b0 ≠ p := by omega
  have hgzp : gz ≠ p := by omega
  have hbo : vo.ownBlock ≠ some b0 ∧ vh.ownBlock ≠ some b0 := ⟨fun e => by have := hao _ e; omega, fun e => by have := hah _ e; omega⟩
  have hgo : vo.ownBlock ≠ some gz ∧ vh.ownBlock ≠ some gz := ⟨fun e => by have := hao _ e; omega, fun e => by have := hah _ e; omega⟩
  have hb01 : b0 < w1.heap.size := by omega
  clear hb1 hoz hrb XB X0 hba hba' hao hah hcm
  have HB0 := Lib.hid hb0
  clear hb0
  go_wp2
  go_loopw [4, 14] (FsR B p f n b0 gz (t : Nat) h l x s vo vh w1) (fun _ ix _ => n - (intOf ix).toNat)
  case atStart => exact ⟨0, s, 0, vo, vh, Nat.zero_le _, rfl, rfl, rfl, P1, Pt.refl _ _ _ _, R1⟩
  case round =>
    obtain ⟨i, s', z, vo', vh', hi, rfl, rfl, hst, P, hT, R⟩ := hrel
    obtain ⟨wi, rfl⟩ : ∃ wi : World, wi = wr := ⟨_, rfl⟩
    have hbd := fsN_bd x f l s i
    rw [hst] at hbd
    have hbq := fun k (hk : vo'.ownBlock = some k) => hT.out k hk
    have hBn : B ≤ wi.heap.size := by have := hT.fr.size; omega
    have hob := hT.off hb01 hbo
    have hog := hT.off hgz hgo
    have HST := Lib.hid hst
    clear P1 R1 hbq hst
    by_cases hlt : i < n
    · have dl : decide (i < n) = true := decide_eq_true hlt
      obtain ⟨hz1, hz2, hz3⟩ := zzN_bd (f + i) (by omega)
      obtain ⟨b1, o1, hbe, _, hcr⟩ := R.plc.at_ (k := i) (by rw [iv_len, plc_len hfn]; exact hlt)
      injection hbe with hbe
      injection hbe with hbe1 hbe2
      subst hbe1 hbe2
      have cz1 := hcr i (.int .i64 ((zzN (f + i) : Nat) : Int)) (by unfold iv; rw [List.getElem?_map, plc_at hfn hlt]; rfl)
      rw [Nat.zero_add] at cz1
      have cx1 := R.box.cell (i := zzN (f + i)) (ivs_get (by rw [HX.out]; exact hz1))
      have c3 := P.blk.cell (i := 3) (u := .int .i64 l) rfl
      have hvb := tn_bd HX.out HG.out f l i (by omega)
      have htn : tn x f l i = tl (x.getD (zzN (f + i)) 0) l false := rfl
      have hub := tl_bd l hvb.1 hvb.2 false
      have hi0 : (0 : Int) ≤ (i : Int) := by omega
      have hi1 : (i : Int) < (n : Int) := by omega
      have hq0 : (0 : Int) ≤ ((zzN (f + i) : Nat) : Int) := by omega
      have hq1 : ((zzN (f + i) : Nat) : Int) < 64 := by omega
      generalize zzN (f + i) = zi at *
      generalize x.getD zi 0 = v at *
      have hte := fun W : World => tell_any v l false (by omega) W
      obtain ⟨u, huq⟩ : ∃ u, u = tl v l false := ⟨_, rfl⟩
      rw [← huq] at htn hub
      have HTE := Lib.hid hte
      have HTN := Lib.hid htn
      have HUQ := Lib.hid huq
      clear hcr hz2 hz3 hte htn huq
      go_upto_region 5 with fail
      go_quiet ((go_at_call 96; exact quiet_l (HTE.out _)))
      rw [← HUQ.out]
      have P' := P.drewN nq
      have R' := R.drewN nq
      have hT' := hT.drewN nq
      have hBn' : B ≤ (wi.drewN nq).heap.size := hBn
      clear P R hT hBn c3 cx1 cz1
      generalize wi.drewN nq = wd at *
      by_cases hu : u = 0
      · have du : (u == 0) = true := by simp; exact hu
        have hnx := tn_zero HST.out (HTN.out.trans hu)
        have HNX := Lib.hid hnx
        clear hu hnx
        go_wp2
        go_roundw
        case rel => exact ⟨i + 1, s', z + 1, vo', vh', by omega, by go_num, by go_num, HNX.out, P', hT', R'⟩
        case measure => simp [intOf]; omega
      · have du : (u == 0) = false := by simp; exact hu
        have hnx := tn_num HST.out (show tn x f l i ≠ 0 by rw [HTN.out]; exact hu)
        rw [HTN.out] at hnx
        have HNX := Lib.hid hnx
        have hsl : s'.out.length + s'.held.length = s'.len := rfl
        have hfl := fl_len s'
        clear hu hnx
        go_wp2_with fail
        refine (flush_any P' hBn' (by omega) (by omega)).mono ?_; rintro e w3 ⟨rfl, vf, P3, hT3⟩
        have R3 := R'.pt hT3 ⟨hb0g, hob⟩ ⟨hgzp, hog⟩
        have hT3' := hT'.trans hT3
        have hB3 : B ≤ w3.heap.size := by have := hT3.fr.size; omega
        have hpo3 : s'.fl.out.length ≤ 900300 ∧ s'.fl.ends = 0 ∧ s'.fl.held = [] := ⟨by have : s'.fl.len = s'.fl.out.length + s'.fl.held.length := rfl; omega, rfl, rfl⟩
        clear P' R' hT' hT3 hob hog hBn'
        go_upto_region 9 with fail
        generalize hSF : s'.fl = sf at *
        have HSF := Lib.hid hSF
        clear hSF
        go_wp2
        go_loopw [4] (fun nz wr => ∃ (q m : Nat) (vq : Value), q ≤ z / 16 ∧ m + 16 * q = z ∧ nz = .int .i64 m ∧ Pn wr B p (f : Nat) (t : Nat) h l vq (.slice none 0 0) (sf.put (List.replicate q skipP)) ∧ Pt p w1 vo vh wr vq (.slice none 0 0) ∧ Rnd wr b0 gz f n 0 x) (fun nz _ => (intOf nz).toNat)
        case atStart => exact ⟨0, z, vf, Nat.zero_le _, by omega, rfl, by simpa [Pen.put] using P3, hT3', R3⟩
        case round =>
          clear P3 hT3' R3 hB3
          obtain ⟨q, m, vq, hq, hmq, rfl, P, hT, R⟩ := hrel
          obtain ⟨wi, rfl⟩ : ∃ wi : World, wi = wr := ⟨_, rfl⟩
          have hBn : B ≤ wi.heap.size := by have := hT.fr.size; omega
          have hob := hT.off hb01 hbo
          have hog := hT.off hgz hgo
          obtain ⟨lo, hlo⟩ : ∃ lo, lo = (sf.put (List.replicate q skipP)).out.length := ⟨_, rfl⟩
          have hlo2 : lo ≤ 900400 := by rw [hlo]; unfold Pen.put; rw [List.length_append, List.length_replicate]; omega
          have ho := P.out
          rw [← hlo] at ho
          have HLO := Lib.hid hlo
          obtain ⟨Av, cv, hve, _⟩ := own_sliceN ho
          subst hve
          have c4 := P.blk.cell (i := 4) (u := .slice Av lo cv) rfl
          have HP := Lib.hid P
          by_cases h16 : 16 ≤ m
          · have d16 : decide ((16 : Int) ≤ (m : Int)) = true := decide_eq_true (by omega)
            have hba : Below wi.heap.size wi (wi.alloc (.cells (pcV skipP).toArray 27)) := (Below.refl _ _).alloc (Nat.le_refl _) _
            have hoa := own_keepN ho hba
            have XD := P.blk.below hba
            have hsza : B ≤ (wi.alloc (.cells (pcV skipP).toArray 27)).heap.size := Nat.le_trans hBn hba.size
            clear hlo P ho
            go_wp2_with (at_builtin; refine wpList_appN0 _ rfl (.tmp 41) (.tmp 43) 23 rfl Try.underlying23 ii0 iz0 iz1 iz2 rfl (by omega) hoa rfl rfl (Rd.newN wi 27 (pcV skipP)) rfl (pcV_one skipP) (by omega) (by omega) hsza ?_; intro v7 w7 hown7 hap7; obtain ⟨A7, c7, rfl, _⟩ := own_sliceN hown7; have Xb := XD.keep hap7.fr HP.out.po; have q4 := Xb.cell (i := 4) (u := .slice Av lo cv) rfl; have f4 := Xb.fz (i := 4) (show 4 < 7 by decide))
            obtain ⟨P7, hT7⟩ := HP.out.app (nw := [skipP]) hba w7 (by simpa [pcRows] using hown7) (by rw [HLO.out]; rfl) hap7
            have R7 := R.pt hT7 ⟨hb0g, hob⟩ ⟨hgzp, hog⟩
            go_roundw
            case rel =>
              refine ⟨q + 1, m - 16, _, by omega, by omega, by congr 1; omega, ?_, hT.trans hT7, R7⟩
              rw [List.replicate_succ']
              simpa [Pen.put] using P7
            case measure => simp [intOf]; omega
          · have d16 : decide ((16 : Int) ≤ (m : Int)) = false := decide_eq_false (by omega)
            go_upto_region 12 with fail
            have hsz := szN_bd u
            have hsz2 := fun W => size_any u W
            have hex2 := fun W => extra_any u (by omega) W
            have hpv : pcV (numP true u m) = [.bool true, .int .i64 (16 * (m : Int) + (szN u : Int)), .int .i64 (exZ u), .int .i64 (szN u)] := rfl
            have HS := Lib.hid hsz2
            have HE := Lib.hid hex2
            obtain ⟨nw, hnw⟩ : ∃ nw, nw = numP true u m := ⟨_, rfl⟩
            rw [← hnw] at hpv
            have HNW := Lib.hid hnw
            have HPV := Lib.hid hpv
            obtain ⟨sz, hszq⟩ : ∃ sz, sz = szN u := ⟨_, rfl⟩
            obtain ⟨ez, hezq⟩ : ∃ ez, ez = exZ u := ⟨_, rfl⟩
            rw [← hszq] at hsz
            rw [← hszq, ← hezq] at HPV
            have HSZ := Lib.hid hszq
            have HEZ := Lib.hid hezq
            have hw1 : IntKind.i64.wrap (16 * (m : Int)) = 16 * (m : Int) := IntWalk.i64_in _ (by omega)
            have hw2 : IntKind.i64.wrap (16 * (m : Int) + (sz : Int)) = 16 * (m : Int) + (sz : Int) := IntWalk.i64_in _ (by omega)
            have hoa := World.ownsRow.drew (World.ownsRow.alloc ho (.cells (pcV nw).toArray 27))
            have hba : Below wi.heap.size wi (wi.alloc (.cells (pcV nw).toArray 27)).drew := ((Below.refl _ _).alloc (Nat.le_refl _) _).drew
            have hRD : Rd (wi.alloc (.cells (pcV nw).toArray 27)).drew (wi.heap.size + 1) (some ⟨wi.heap.size, 0, none⟩) (pcV nw) := Rd.newN wi 27 (pcV nw)
            have XD := P.blk.below hba
            have hsza : B ≤ (wi.alloc (.cells (pcV nw).toArray 27)).drew.heap.size := Nat.le_trans hBn hba.size
            have hn4 : (pcV nw).length = 1 * 4 := by rfl
            have e4 : ∀ o, (wi.alloc o).cell? ⟨p, 4, none⟩ = some (.slice Av lo cv) := fun o => (World.cell?_of_block (w := wi) (a := ⟨p, 4, none⟩) (Below.heap_alloc wi o p P.lt)).trans c4
            rw [HPV.out] at hoa hba hRD XD hsza
            have hone := pcV_one nw
            rw [HPV.out] at hone hn4
            clear hlo P ho hpv hnw hszq hezq hsz2 hex2
            go_region_law (first | (go_simp; go_at_call 38; refine (HS.out _).mono ?_; rintro e w' ⟨rfl, rfl⟩; rw [← HSZ.out]; dsimp only) | (go_simp; go_at_call 39; refine (HE.out _).mono ?_; rintro e w' ⟨rfl, rfl⟩; rw [← HEZ.out]; dsimp only) | (refine step_appN0 _ (by rfl) _ _ _ (by rfl) Try.underlying23 ii0 iz0 iz1 iz2 rfl (by omega) hoa (by rfl) (by rfl) hRD hn4 hone (by omega) (by omega) hsza ?_; intro v7 w7 hown7 hap7; obtain ⟨A7, c7, rfl, _⟩ := own_sliceN hown7; have Xb := XD.keep hap7.fr HP.out.po; have q4 := Xb.cell (i := 4) (u := .slice Av lo cv) rfl; have f4 := Xb.fz (i := 4) (show 4 < 7 by decide)))
            all_goals
              obtain ⟨P7, hT7⟩ := HP.out.app (nw := [nw]) hba w7 (by rw [← HPV.out] at hown7; simpa [pcRows] using hown7) (by rw [HLO.out]; rfl) hap7
              have R7 := R.pt hT7 ⟨hb0g, hob⟩ ⟨hgzp, hog⟩
              have HF := Lib.hid (And.intro P7 (And.intro (hT.trans hT7) R7))
              clear P7 hT7 R7 hown7 hap7 q4 f4 Xb
              go_wp2
              go_roundw
              case rel =>
                refine ⟨i + 1, _, 0, _, _, by omega, by go_num, rfl, HNX.out, ?_, HF.out.2.1, HF.out.2.2⟩
                have e1 : z / 16 = q := by omega
                have e2 : z % 16 = m := by omega
                rw [e1, e2, ← HNW.out]
                have := HF.out.1
                simpa [Pen.put] using this
              case measure => simp [intOf]; omega
    · have dl : decide (i < n) = false := decide_eq_false hlt
      have hin : i = n := by omega
      have hst2 := HST.out
      rw [hin] at hst2
      have HS2 := Lib.hid hst2
      by_cases hz : 0 < z
      · have dz : decide ((0 : Int) < (z : Int)) = true := decide_eq_true (by omega)
        have hfe : fsB x f n l s = s'.end_ [] := by unfold fsB; rw [hst2]; exact if_pos hz
        have HFE := Lib.hid hfe
        clear hin hst2 hfe
        go_wp2_with fail
        refine (end_any P hBn (by omega) (m := 0) (nw := []) rfl (.inl rfl) (fun a ha => by cases ha) (by have : s'.len = s'.out.length + s'.held.length := rfl; omega)).mono ?_; rintro e w3 ⟨rfl, vh3, P3, hT3⟩
        go_wp2
        go_end0
        rw [HFE.out]
        exact ⟨rfl, _, _, P3, hT1.trans (hT.trans hT3)⟩
      · have dz : decide ((0 : Int) < (z : Int)) = false := decide_eq_false (by omega)
        have hfe : fsB x f n l s = s' := by unfold fsB; rw [hst2]; exact if_neg hz
        have HFE := Lib.hid hfe
        clear hin hst2 hfe
        go_wp2
        go_end0
        rw [HFE.out]
        exact ⟨rfl, _, _, P, hT1.trans hT⟩
end Go.Proofs.Ytlhappecjjbopaa
