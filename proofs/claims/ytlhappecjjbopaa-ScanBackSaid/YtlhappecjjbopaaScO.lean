/-
  ScanReads, second part: scan.Read.
-/
import Derived.Test.YtlhappecjjbopaaScN
namespace Go.Proofs.Ytlhappecjjbopaa
open Go.ChangeShapes Go.WideShapes Go.ChangeAt Go.WideMaps Go.WideElems Go.RowKit Go.Joins
set_option linter.unusedVariables false

theorem z64_len : z64.length = 64 := rfl
theorem ret_facts {w W : World} {rb rp : Nat} {t : TypeId} {D : List Int} {A : Option Addr} {c m : Nat} {Bs : List Int} {N : List Int} (hN : N.length = 64) (X8 : Bln W rb t (iv N)) (hD : D.length = 64) (x : Re W rp true A c Bs m) (hf : Fp rp w W) (hrb : w.heap.size ≤ rb) (hrp : rp < w.heap.size) (hA : ∀ a, A = some a → a.block < rp) :
    Bln (W.setCells rb 0 (iv D)) rb t (iv D) ∧ Re (W.setCells rb 0 (iv D)) rp true A c Bs m ∧ Fp rp w (W.setCells rb 0 (iv D)) ∧ W.there rb 0 (iv D).toArray.size := by
  have h1 := X8.sets (iv D) 0
  rw [setR_all (by rw [iv_len, iv_len, hD, hN])] at h1
  have hs : Fr (fun k => k = rb) W (W.setCells rb 0 (iv D)) := Fr.sets (S := fun k => k = rb) (a := W) (.inl rfl) (iv D) 0 (Fr.refl _ _)
  refine ⟨h1, x.keep hs (by omega) (fun a ha => by have := hA a ha; omega), Fr.sets (.inr hrb) _ _ hf, ?_⟩
  rw [show (iv D).toArray.size = 64 from (iv_len D).trans hD]
  exact X8.there 64 (by rw [iv_len, hN]; decide)
theorem sy_bd {ls : List Int} {O : List Nat} {C : List Int} (ho : Ordd ls O C) : ∀ x ∈ sy O, 0 ≤ x ∧ x ≤ 511 := by
  intro x hx
  obtain ⟨s, hs, rfl⟩ := List.mem_map.1 hx
  have := (ho.mem s hs).1
  have := ho.lls
  omega
theorem errE_nil : errE 0 = .nilIface := rfl
theorem errE_ne {n : Int} (h : n ≠ 0) : errE n = errV n := if_neg h

theorem set_getD_ne {l : List Int} {p q : Nat} {x : Int} (h : p ≠ q) : (l.set p x).getD q 0 = l.getD q 0 := by
  rw [List.getD_eq_getElem?_getD, List.getD_eq_getElem?_getD, List.getElem?_set_ne h]
theorem set_nought {l : List Int} {p : Nat} (h : l.getD p 0 = 0) : l.set p 0 = l := by
  apply List.ext_getElem?
  intro j
  by_cases hj : p = j
  · subst hj
    rw [List.getElem?_set_self']
    rw [List.getD_eq_getElem?_getD] at h
    cases hq : l[p]? with
    | none => rfl
    | some y => rw [hq] at h; simp at h; simp [h]
  · rw [List.getElem?_set_ne hj]
theorem zz_inj : ∀ i, i < 64 → ∀ j, j < 64 → zzN i = zzN j → i = j := by decide +kernel
theorem z64_at (q : Nat) : z64.getD q 0 = 0 := by rw [z64, List.getD_eq_getElem?_getD, List.getElem?_replicate]; split <;> rfl

def SrP (R : List Int × Nat × Int) (rp : Nat) (A : Option Addr) (c : Nat) (Bs : List Int) (m : Nat) (w : World) (e : Ending) (w' : World) : Prop :=
  ∃ m', e = .returned (.tuple #[.agg (iv R.1).toArray, errE R.2.2]) ∧ Re w' rp true A c Bs m' ∧ (R.2.2 = 0 → m' = m + R.2.1) ∧ Fp rp w w'

set_option maxRecDepth 100000 in
set_option maxHeartbeats 8000000 in
theorem scanRead_any {B1 p1 B2 p2 rp c m : Nat} {ls1 : List Int} {O1 : List Nat} {C1 : List Int} {ls2 : List Int} {O2 : List Nat} {C2 : List Int} {A : Option Addr} {Bs : List Int} {w : World}
    (hK1 : BkS w B1 p1 ls1 O1 C1) (ho1 : Ordd ls1 O1 C1) (hK2 : BkS w B2 p2 ls2 O2 C2) (ho2 : Ordd ls2 O2 C2) (hB1 : B1 ≤ rp) (hB2 : B2 ≤ rp) (x : Re w rp true A c Bs m) (hA : ∀ a, A = some a → a.block < rp) (hm : Bs.length ≤ 68719476736)
    (ahead : Int) (hd : DcB ahead) {R : List Int × Nat × Int} (hR : rdB (sy O1) (sz ls1 O1) (sy O2) (sz ls2 O2) ((bitsOf true Bs).drop m) ahead = R) :
    Calls Try.prog 84 #[.pointer (some ⟨p1, 0, none⟩), .pointer (some ⟨p2, 0, none⟩), .pointer (some ⟨rp, 0, none⟩), .int .i64 ahead] w (SrP R rp A c Bs m w) := by
  have hal : ∀ W : World, W.alloc (.cells #[.int .i64 0, .int .i64 0, .int .i64 0, .int .i64 0, .int .i64 0, .int .i64 0, .int .i64 0, .int .i64 0, .int .i64 0, .int .i64 0, .int .i64 0, .int .i64 0, .int .i64 0, .int .i64 0, .int .i64 0, .int .i64 0, .int .i64 0, .int .i64 0, .int .i64 0, .int .i64 0, .int .i64 0, .int .i64 0, .int .i64 0, .int .i64 0, .int .i64 0, .int .i64 0, .int .i64 0, .int .i64 0, .int .i64 0, .int .i64 0, .int .i64 0, .int .i64 0, .int .i64 0, .int .i64 0, .int .i64 0, .int .i64 0, .int .i64 0, .int .i64 0, .int .i64 0, .int .i64 0, .int .i64 0, .int .i64 0, .int .i64 0, .int .i64 0, .int .i64 0, .int .i64 0, .int .i64 0, .int .i64 0, .int .i64 0, .int .i64 0, .int .i64 0, .int .i64 0, .int .i64 0, .int .i64 0, .int .i64 0, .int .i64 0, .int .i64 0, .int .i64 0, .int .i64 0, .int .i64 0, .int .i64 0, .int .i64 0, .int .i64 0, .int .i64 0] 70) = W.alloc (.cells (iv z64).toArray 70) := fun _ => rfl
  have HA := Lib.hid hA
  have HR := Lib.hid hR
  have HO1 := Lib.hid ho1
  have HO2 := Lib.hid ho2
  have hrp : rp < w.heap.size := x.lt
  have hle := x.le
  have hd1 := hd.1
  have hd2 := hd.2
  obtain ⟨b, hb⟩ : ∃ b, b = (bitsOf true Bs).drop m := ⟨_, rfl⟩
  have hb01 : B01 b := by rw [hb]; exact (bitsOf_01 true Bs).drop m
  have hbl : b.length = 8 * Bs.length - m := by rw [hb, List.length_drop, bitsOf_len]
  have HB := Lib.hid hb
  have HB01 := Lib.hid hb01
  have HBL := Lib.hid hbl
  have X8 := Bln.new w 70 (iv z64)
  have hb0 : Below w.heap.size w (w.alloc (.cells (iv z64).toArray 70)) := (Below.refl _ _).alloc (Nat.le_refl _) _
  clear hA hR ho1 ho2 hd hb hb01 hbl
  go_enter Try.func84, Try.ntmps84
  go_upto_region 1 with fail
  generalize w.alloc (.cells (iv z64).toArray 70) = w0 at *
  have hs0 : w.heap.size < w0.heap.size := X8.lt
  have hrb : w.heap.size ≤ w.heap.size := Nat.le_refl _
  have X10 := Bln.new w0 70 (iv z64)
  have hba : Below w0.heap.size w0 (w0.alloc (.cells (iv z64).toArray 70)) := (Below.refl _ _).alloc (Nat.le_refl _) _
  have hb1 := hb0.trans (hba.mono hb0.size)
  have X8' := X8.below hba
  go_upto_region 2 with fail
  generalize w0.alloc (.cells (iv z64).toArray 70) = w1 at *
  generalize hrq : w.heap.size = rb at *
  have HRQ := Lib.hid hrq
  generalize w0.heap.size = nb at *
  have hx1 := x.below (by rw [HRQ.out]; exact hb1)
  have hK1' := hK1.keep (hb1.mono (by have := hK1.size; omega))
  have hK2' := hK2.keep (hb1.mono (by have := hK2.size; omega))
  have hf1 : Fp rp w w1 := Fp.of_below (by rw [HRQ.out]; exact hb1)
  obtain ⟨N0, hN0⟩ : ∃ z, z = z64 := ⟨_, rfl⟩
  rw [← hN0] at X8' X10
  have HN0 := Lib.hid hN0
  have hnl : N0.length = 64 := by rw [hN0]; rfl
  have HD_N0 := Lib.hid hnl
  clear hal hrq X8 hb0 hba hb1 hK1 hK2 x hN0 hnl
  go_wp2_with fail
  refine (read_any hK1' HO1.out hB1 hx1 hm).mono ?_; rintro e w2 ⟨sym, k, er, hr, rfl, hx, hf2⟩
  have hfw := hf1.trans hf2
  have hK2w := hK2'.keep (hf2.below hB2 hK2'.size)
  have hs1 : nb < w1.heap.size := X10.lt
  have X8 := X8'.keep hf2 (by omega)
  have X10w := X10.keep hf2 (by omega)
  obtain ⟨s, rfl⟩ := Int.eq_ofNat_of_zero_le (hr.sy_bd (sy_bd HO1.out)).1
  have hs511 := (hr.sy_bd (sy_bd HO1.out)).2
  rw [← HB.out] at hr
  have hF := rdF_eq HO1.out.zs HB01.out hr
  have hbd := hr.bd
  have HF := Lib.hid hF
  have hRb : rdB (sy O1) (sz ls1 O1) (sy O2) (sz ls2 O2) b ahead = R := by rw [HB.out]; exact HR.out
  have HRb := Lib.hid hRb
  clear hr hF hRb hK1' hK2' hx1 hf1 hf2 X8' X10 HR
  by_cases he : er = 0
  · subst he
    rw [errE_nil]
    by_cases h11 : 11 < s
    · have d1 : decide ((11 : Int) < (s : Int)) = true := decide_eq_true (by omega)
      have hRR : R = (N0, 0, 2) := by rw [HN0.out, ← HRb.out]; exact rdB_big HF.out h11
      have HRR := Lib.hid hRR
      clear hRR
      have hrg := X10w.range 0 (iv N0) (fun j v hv => by rw [Nat.zero_add]; exact hv)
      obtain ⟨XR, hxr, hfr, hth⟩ := ret_facts HD_N0.out X8 HD_N0.out hx hfw (by rw [HRQ.out]; exact Nat.le_refl _) (by rw [HRQ.out]; exact hrp) HA.out
      have hone := one_iv N0
      go_wp2_with (first | ((with_reducible refine bp_id ?_); exact bodyPost_ret (results_row2 (P := Try.prog) rfl _ _ rb 70 (iv N0).toArray (0, 0) _ rfl XR Try.underlying70 rfl (by rw [show (iv N0).toArray.size = 64 from (iv_len N0).trans HD_N0.out]; kernel_rfl)) rfl ⟨_, by rw [HRR.out]; rfl, hxr, fun h => by rw [HRR.out] at h; exact absurd h (by first | (intro h; cases h; done) | assumption), hfr⟩) | refine wpList_load_mid rfl 70 (.tmp 10) rfl _ _ rfl (iv N0) _ hrg Try.underlying70 rfl (by rw [iv_len, HD_N0.out]; kernel_rfl) ?_ | refine wpList_store_mid rfl 70 (.tmp 8) (.tmp 35) rfl _ _ (iv N0).toArray rfl rfl hth (by rw [show (iv N0).toArray.size = 64 from (iv_len N0).trans HD_N0.out]; kernel_rfl) (all_oneCell_toArray hone) ?_)
    · have d1 : decide ((11 : Int) < (s : Int)) = false := decide_eq_false (by omega)
      by_cases hl : b.length < k + s
      · go_wp2_with fail
        refine (stake_end hx hm s (by omega) (by have := HBL.out; omega)).mono ?_; rintro e w3 ⟨rfl, hb3⟩
        unfold errV
        have hfw3 := hfw.trans (Fp.of_below hb3)
        have X83 := X8.below hb3
        have X103 := X10w.below hb3
        have hx3 := hx.below hb3
        clear hx hfw X8 X10w
        have hfw := hfw3
        have X8 := X83
        clear hfw3 X83
        have hRR : R = (N0, 0, 8) := by rw [HN0.out, ← HRb.out]; exact rdB_end HF.out h11 hl
        have HRR := Lib.hid hRR
        clear hRR
        have hrg := X103.range 0 (iv N0) (fun j v hv => by rw [Nat.zero_add]; exact hv)
        obtain ⟨XR, hxr, hfr, hth⟩ := ret_facts HD_N0.out X8 HD_N0.out hx3 hfw (by rw [HRQ.out]; exact Nat.le_refl _) (by rw [HRQ.out]; exact hrp) HA.out
        have hone := one_iv N0
        go_wp2_with (first | ((with_reducible refine bp_id ?_); exact bodyPost_ret (results_row2 (P := Try.prog) rfl _ _ rb 70 (iv N0).toArray (0, 0) _ rfl XR Try.underlying70 rfl (by rw [show (iv N0).toArray.size = 64 from (iv_len N0).trans HD_N0.out]; kernel_rfl)) rfl ⟨_, by rw [HRR.out]; rfl, hxr, fun h => by rw [HRR.out] at h; exact absurd h (by first | (intro h; cases h; done) | assumption), hfr⟩) | refine wpList_load_mid rfl 70 (.tmp 10) rfl _ _ rfl (iv N0) _ hrg Try.underlying70 rfl (by rw [iv_len, HD_N0.out]; kernel_rfl) ?_ | refine wpList_store_mid rfl 70 (.tmp 8) (.tmp 46) rfl _ _ (iv N0).toArray rfl rfl hth (by rw [show (iv N0).toArray.size = 64 from (iv_len N0).trans HD_N0.out]; kernel_rfl) (all_oneCell_toArray hone) ?_)
      · go_wp2_with fail
        refine (stake_ok hx hm s (by omega) (by have := HBL.out; omega)).mono ?_; rintro e w3 ⟨rfl, hx3, hf3⟩
        have hdd : ∀ q, (bitsOf true Bs).drop (m + q) = b.drop q := fun q => by rw [HB.out, List.drop_drop]
        rw [hdd k]
        have HDD := Lib.hid hdd
        have hvb := vaN_bd (hv ((b.drop k).take s)) s (by omega)
        obtain ⟨v, hvq⟩ : ∃ v, v = vaZ (hv ((b.drop k).take s)) (s : Int) := ⟨_, rfl⟩
        rw [← hvq] at hvb ⊢
        have HV := Lib.hid hvq
        have hfw3 := hfw.trans hf3
        have X83 := X8.keep hf3 (by omega)
        have X103 := X10w.keep hf3 (by omega)
        have hK23 := hK2w.keep (hf3.below hB2 hK2w.size)
        clear hvq hdd hx hfw hf3 X8 X10w hK2w
        have hfw := hfw3
        have X8 := X83
        clear hfw3 X83
        by_cases hdc : DcB (ahead + v)
        · have HDC := Lib.hid (decide_eq_true hdc)
          have hRL : rdL (sy O2) (sz ls2 O2) b 1 (k + s) (N0.set 0 (ahead + v)) = R := by
            rw [HN0.out, HV.out, ← rdB_go (ahead := ahead) HF.out h11 hl (by rw [← HV.out]; exact hdc)]; exact HRb.out
          have HRL := Lib.hid hRL
          clear hRL hdc
          go_upto_region 12 with (go_at_call 106; refine (dcIn_any _ _).mono ?_; rintro e w' ⟨rfl, rfl⟩; rw [HDC.out])
          go_wp2_with fail
          refine (zigzag_any w3).mono ?_; rintro e w4 ⟨rfl, hb4⟩
          have hfw4 := hfw.trans (Fp.of_below hb4)
          have X84 := X8.below hb4
          have X104 := X103.below hb4
          have hx4 := hx3.below hb4
          have hK24 := hK23.keep (hb4.mono hK23.size)
          have hs4 : nb < w4.heap.size := X104.lt
          clear hx3 hfw hb4 X8 X103 hK23
          have hzl : (iv zzL).length = 64 := by rw [iv_len]; rfl
          obtain ⟨ZL, hZL⟩ : ∃ z, z = zzL := ⟨_, rfl⟩
          rw [← hZL] at hzl ⊢
          have HZL := Lib.hid hZL
          have hsz : (iv ZL).toArray.size = 64 := hzl
          have hll : ZL.length = 64 := by rw [← iv_len]; exact hzl
          have HLL := Lib.hid hll
          obtain ⟨XD, hbd4⟩ := Bln.copy w4 39 (iv z64) (iv ZL) (by rw [hzl, iv_len]; rfl)
          have hth : (w4.alloc (.cells (iv z64).toArray 39)).there w4.heap.size 0 (iv ZL).toArray.size := by
            rw [hsz]
            exact (Bln.new w4 39 (iv z64)).there 64 (by rw [iv_len]; decide)
          have hone := one_iv ZL
          have HSZ := Lib.hid hsz
          have hal : ∀ W : World, W.alloc (.cells #[.int .i64 0, .int .i64 0, .int .i64 0, .int .i64 0, .int .i64 0, .int .i64 0, .int .i64 0, .int .i64 0, .int .i64 0, .int .i64 0, .int .i64 0, .int .i64 0, .int .i64 0, .int .i64 0, .int .i64 0, .int .i64 0, .int .i64 0, .int .i64 0, .int .i64 0, .int .i64 0, .int .i64 0, .int .i64 0, .int .i64 0, .int .i64 0, .int .i64 0, .int .i64 0, .int .i64 0, .int .i64 0, .int .i64 0, .int .i64 0, .int .i64 0, .int .i64 0, .int .i64 0, .int .i64 0, .int .i64 0, .int .i64 0, .int .i64 0, .int .i64 0, .int .i64 0, .int .i64 0, .int .i64 0, .int .i64 0, .int .i64 0, .int .i64 0, .int .i64 0, .int .i64 0, .int .i64 0, .int .i64 0, .int .i64 0, .int .i64 0, .int .i64 0, .int .i64 0, .int .i64 0, .int .i64 0, .int .i64 0, .int .i64 0, .int .i64 0, .int .i64 0, .int .i64 0, .int .i64 0, .int .i64 0, .int .i64 0, .int .i64 0, .int .i64 0] 39) = W.alloc (.cells (iv z64).toArray 39) := fun _ => rfl
          clear hZL hsz hzl hll
          go_upto_region 13 with (refine wpList_store_mid rfl 39 (.tmp 14) (.tmp 56) rfl _ _ (iv ZL).toArray rfl rfl hth (by rw [HSZ.out]; exact Try.info_block) (all_oneCell_toArray hone) ?_)
          have hfw5 := hfw4.trans (Fp.of_below hbd4)
          have X85 := X84.below hbd4
          have X105 := X104.below hbd4
          have hx5 := hx4.below hbd4
          have hK25 := hK24.keep (hbd4.mono hK24.size)
          generalize (w4.alloc (.cells (iv z64).toArray 39)).setCells w4.heap.size 0 (iv ZL) = w5 at *
          generalize w4.heap.size = zb at *
          clear hal hth hone hbd4 X84 X104 hx4 hK24 hfw4
          have hzb : zb < w5.heap.size := XD.lt
          have hal : ∀ W : World, W.alloc (.cells #[.int .i64 0, .int .i64 0, .int .i64 0, .int .i64 0, .int .i64 0, .int .i64 0, .int .i64 0, .int .i64 0, .int .i64 0, .int .i64 0, .int .i64 0, .int .i64 0, .int .i64 0, .int .i64 0, .int .i64 0, .int .i64 0, .int .i64 0, .int .i64 0, .int .i64 0, .int .i64 0, .int .i64 0, .int .i64 0, .int .i64 0, .int .i64 0, .int .i64 0, .int .i64 0, .int .i64 0, .int .i64 0, .int .i64 0, .int .i64 0, .int .i64 0, .int .i64 0, .int .i64 0, .int .i64 0, .int .i64 0, .int .i64 0, .int .i64 0, .int .i64 0, .int .i64 0, .int .i64 0, .int .i64 0, .int .i64 0, .int .i64 0, .int .i64 0, .int .i64 0, .int .i64 0, .int .i64 0, .int .i64 0, .int .i64 0, .int .i64 0, .int .i64 0, .int .i64 0, .int .i64 0, .int .i64 0, .int .i64 0, .int .i64 0, .int .i64 0, .int .i64 0, .int .i64 0, .int .i64 0, .int .i64 0, .int .i64 0, .int .i64 0, .int .i64 0] 70) = W.alloc (.cells (iv z64).toArray 70) := fun _ => rfl
          have X15 := Bln.new w5 70 (iv z64)
          have hba : Below w5.heap.size w5 (w5.alloc (.cells (iv z64).toArray 70)) := (Below.refl _ _).alloc (Nat.le_refl _) _
          have X86 := X85.below hba
          have X106 := X105.below hba
          have XZ6 := XD.below hba
          have hx6 := hx5.below hba
          have hK26 := hK25.keep (hba.mono hK25.size)
          have hfw6 := hfw5.trans (Fp.of_below hba)
          go_upto_region 14 with fail
          generalize w5.alloc (.cells (iv z64).toArray 70) = w6 at *
          generalize w5.heap.size = ob at *
          rw [← HN0.out] at X15
          have cf := X15.fz (i := 0) (by rw [iv_len, HD_N0.out]; decide)
          have cc : w6.cell? ⟨ob, 0, none⟩ = some (.int .i64 (N0.getD 0 0)) := X15.cell (ivs_get (by rw [HD_N0.out]; decide))
          have X15s := X15.set 0 (.int .i64 (ahead + v))
          rw [iv_set] at X15s
          have hfs : Fr (fun k => k = ob) w6 (w6.setCell ⟨ob, 0, none⟩ (.int .i64 (ahead + v))) := Fr.setCell (S := fun k => k = ob) (a := w6) (Fr.refl _ _) (p := ⟨ob, 0, none⟩) (.inl rfl) (.int .i64 (ahead + v))
          have X8s := X86.keep hfs (by omega)
          have X10s := X106.keep hfs (by omega)
          have XZs := XZ6.keep hfs (by omega)
          have hxs := hx6.keep hfs (by omega) (fun a ha => by have := HA.out a ha; omega)
          have hfws := hfw6.setCell (p := ⟨ob, 0, none⟩) (.inr (by show w.heap.size ≤ ob; rw [HRQ.out]; omega)) (.int .i64 (ahead + v))
          have hKs := hK26.keep (hfs.below (fun k hk => by omega) hK26.size)
          clear hal hba hx5 hx6 hfw5 hfw6 X85 X105 X86 X106 XZ6 XD X15 hK25 hK26 hfs
          go_wp2
          go_loopw [16] (fun ix wr => ∃ (i a : Nat) (out : List Int), ix = .int .i64 i ∧ 1 ≤ i ∧ i ≤ 64 ∧ a ≤ b.length ∧ out.length = 64 ∧ Hid (rdL (sy O2) (sz ls2 O2) b i a out = R) ∧ Hid (∀ j, i ≤ j → j < 64 → out.getD (zzN j) 0 = 0) ∧ Bln wr rb 70 (iv N0) ∧ Bln wr nb 70 (iv N0) ∧ Bln wr zb 39 (iv ZL) ∧ Bln wr ob 70 (iv out) ∧ Re wr rp true A c Bs (m + a) ∧ BkS wr B2 p2 ls2 O2 C2 ∧ Fp rp w wr) (fun ix _ => 64 - (intOf ix).toNat)
          case atStart =>
            refine ⟨1, k + s, N0.set 0 (ahead + v), rfl, Nat.le_refl _, by omega, by omega, by rw [List.length_set, HD_N0.out], HRL, Lib.hid ?_, X8s, X10s, XZs, X15s, by rw [← Nat.add_assoc]; exact hxs, hKs, hfws⟩
            intro j hj hj2
            rw [set_getD_ne (fun e => by have := (zzN_bd j hj2).2.2.1 e.symm; omega), HN0.out]
            exact z64_at _
          case round =>
            clear cf cc X8s X10s XZs X15s hxs hKs hfws HRL HV HF hbd HRb HDC
            clear hvb
            obtain ⟨i, a, out, rfl, hi1, hi, ha, hol, HRL, HZR, X8, X10w, XZ, X15, hx, hK2w, hfw⟩ := hrel
            have HD_out := Lib.hid hol
            obtain ⟨wo, rfl⟩ : ∃ wo : World, wo = wr := ⟨_, rfl⟩
            clear hol
            by_cases h64 : i < 64
            · have d64 : decide ((i : Int) < 64) = true := decide_eq_true (by omega)
              go_wp2_with fail
              refine (read_any hK2w HO2.out hB2 hx hm).mono ?_; rintro e w2' ⟨sym, k, er, hr, rfl, hx2, hf2⟩
              have hfw2 := hfw.trans hf2
              have hK22 := hK2w.keep (hf2.below hB2 hK2w.size)
              have X82 := X8.keep hf2 (by omega)
              have X102 := X10w.keep hf2 (by omega)
              have XZ2 := XZ.keep hf2 (by omega)
              have X152 := X15.keep hf2 (by omega)
              clear hx hfw hK2w X8 X10w XZ X15 hf2
              have hx := hx2
              have hfw := hfw2
              have hK2w := hK22
              have X8 := X82
              have X10w := X102
              have XZ := XZ2
              have X15 := X152
              clear hx2 hfw2 hK22 X82 X102 XZ2 X152
              obtain ⟨s, rfl⟩ := Int.eq_ofNat_of_zero_le (hr.sy_bd (sy_bd HO2.out)).1
              have hs511 := (hr.sy_bd (sy_bd HO2.out)).2
              rw [HDD.out a] at hr
              have hF := rdF_eq HO2.out.zs (HB01.out.drop a) hr
              have hbd := hr.bd
              rw [List.length_drop] at hbd
              have HF := Lib.hid hF
              clear hr hF
              by_cases he : er = 0
              · subst he
                rw [errE_nil]
                by_cases h0 : s = 0
                · have d0 : ((s : Int) == 0) = true := by simp; exact h0
                  have H0 := Lib.hid h0
                  clear h0
                  have hRR : R = (out, a + k, 0) := by rw [← HRL.out]; have := HF.out; have h0 := H0.out; clear H0 d0; subst h0; exact rdL_eob h64 this
                  have HRR := Lib.hid hRR
                  clear hRR
                  have hrg := X15.range 0 (iv out) (fun j v hv => by rw [Nat.zero_add]; exact hv)
                  obtain ⟨XR, hxr, hfr, hth⟩ := ret_facts HD_N0.out X8 HD_out.out hx hfw (by rw [HRQ.out]; exact Nat.le_refl _) (by rw [HRQ.out]; exact hrp) HA.out
                  have hone := one_iv out
                  go_wp2_with (first | ((with_reducible refine bp_id ?_); exact bodyPost_ret (results_row2 (P := Try.prog) rfl _ _ rb 70 (iv out).toArray (0, 0) _ rfl XR Try.underlying70 rfl (by rw [show (iv out).toArray.size = 64 from (iv_len out).trans HD_out.out]; kernel_rfl)) rfl ⟨_, by rw [HRR.out]; rfl, hxr, fun _ => by rw [HRR.out]; first | done | exact Nat.add_assoc _ _ _, hfr⟩) | refine wpList_load_mid rfl 70 (.tmp 15) rfl _ _ rfl (iv out) _ hrg Try.underlying70 rfl (by rw [iv_len, HD_out.out]; kernel_rfl) ?_ | refine wpList_store_mid rfl 70 (.tmp 8) (.tmp 77) rfl _ _ (iv out).toArray rfl rfl hth (by rw [show (iv out).toArray.size = 64 from (iv_len out).trans HD_out.out]; kernel_rfl) (all_oneCell_toArray hone) ?_)
                · have d0 : ((s : Int) == 0) = false := by simp; exact h0
                  obtain ⟨z, hz⟩ : ∃ z, z = s % 16 := ⟨_, rfl⟩
                  obtain ⟨q, hq⟩ : ∃ q, q = s / 16 := ⟨_, rfl⟩
                  obtain ⟨t, ht⟩ : ∃ t, t = i + q := ⟨_, rfl⟩
                  have hmod : (s : Int).tmod 16 = (z : Int) := by rw [Int.tmod_eq_emod_of_nonneg (by omega)]; omega
                  have hdiv : (s : Int).tdiv 16 = (q : Int) := by rw [Int.tdiv_eq_ediv_of_nonneg (by omega)]; omega
                  have htc : (i : Int) + (q : Int) = (t : Int) := by omega
                  have HZ := Lib.hid hz
                  have HQ := Lib.hid hq
                  have HT := Lib.hid ht
                  have hz16 : z < 16 := by omega
                  have hq31 : q ≤ 31 := by omega
                  have htq : i + q ≤ t ∧ t ≤ i + q := by omega
                  have hsz2 : 16 * q + z ≤ s ∧ s ≤ 16 * q + z := by omega
                  clear hz hq ht
                  by_cases h240 : s = 240
                  · have d1 : ((s : Int) != 240) = false := by simp; omega
                    have d2 : ((z : Int) == 0) = true := by simp; omega
                    have d3 : decide ((10 : Int) < (z : Int)) = false := decide_eq_false (by omega)
                    have HF2 : Hid (rdF (sy O2) (sz ls2 O2) (b.drop a) = (((240 : Nat) : Int), k, 0)) := Lib.hid (by rw [HF.out, h240])
                    have hz0 : z ≤ 0 := by omega
                    have hq15 : q ≤ 15 ∧ 15 ≤ q := by omega
                    clear h240
                    by_cases hA64 : 64 ≤ t
                    · have d4 : decide ((64 : Int) ≤ (t : Int)) = true := decide_eq_true (by omega)
                      have hRR : R = (N0, 0, 2) := by rw [HN0.out, ← HRL.out]; exact rdL_skipbad h64 HF2.out (by omega)
                      have HRR := Lib.hid hRR
                      clear hRR
                      have hrg := X10w.range 0 (iv N0) (fun j v hv => by rw [Nat.zero_add]; exact hv)
                      obtain ⟨XR, hxr, hfr, hth⟩ := ret_facts HD_N0.out X8 HD_N0.out hx hfw (by rw [HRQ.out]; exact Nat.le_refl _) (by rw [HRQ.out]; exact hrp) HA.out
                      have hone := one_iv N0
                      go_wp2_with (first | ((with_reducible refine bp_id ?_); exact bodyPost_ret (results_row2 (P := Try.prog) rfl _ _ rb 70 (iv N0).toArray (0, 0) _ rfl XR Try.underlying70 rfl (by rw [show (iv N0).toArray.size = 64 from (iv_len N0).trans HD_N0.out]; kernel_rfl)) rfl ⟨_, by rw [HRR.out]; rfl, hxr, fun h => by rw [HRR.out] at h; exact absurd h (by first | (intro h; cases h; done) | assumption), hfr⟩) | refine wpList_load_mid rfl 70 (.tmp 10) rfl _ _ rfl (iv N0) _ hrg Try.underlying70 rfl (by rw [iv_len, HD_N0.out]; kernel_rfl) ?_ | refine wpList_store_mid rfl 70 (.tmp 8) (.tmp 102) rfl _ _ (iv N0).toArray rfl rfl hth (by rw [show (iv N0).toArray.size = 64 from (iv_len N0).trans HD_N0.out]; kernel_rfl) (all_oneCell_toArray hone) ?_)
                    · have d4 : decide ((64 : Int) ≤ (t : Int)) = false := decide_eq_false (by omega)
                      by_cases h63 : t = 63
                      · have d5 : ((t : Int) == 63) = true := by simp; omega
                        have h63' : 63 ≤ t := by omega
                        clear h63
                        have hRR : R = (N0, 0, 2) := by rw [HN0.out, ← HRL.out]; exact rdL_skipbad h64 HF2.out (by omega)
                        have HRR := Lib.hid hRR
                        clear hRR
                        have hrg := X10w.range 0 (iv N0) (fun j v hv => by rw [Nat.zero_add]; exact hv)
                        obtain ⟨XR, hxr, hfr, hth⟩ := ret_facts HD_N0.out X8 HD_N0.out hx hfw (by rw [HRQ.out]; exact Nat.le_refl _) (by rw [HRQ.out]; exact hrp) HA.out
                        have hone := one_iv N0
                        go_wp2_with (first | ((with_reducible refine bp_id ?_); exact bodyPost_ret (results_row2 (P := Try.prog) rfl _ _ rb 70 (iv N0).toArray (0, 0) _ rfl XR Try.underlying70 rfl (by rw [show (iv N0).toArray.size = 64 from (iv_len N0).trans HD_N0.out]; kernel_rfl)) rfl ⟨_, by rw [HRR.out]; rfl, hxr, fun h => by rw [HRR.out] at h; exact absurd h (by first | (intro h; cases h; done) | assumption), hfr⟩) | refine wpList_load_mid rfl 70 (.tmp 10) rfl _ _ rfl (iv N0) _ hrg Try.underlying70 rfl (by rw [iv_len, HD_N0.out]; kernel_rfl) ?_ | refine wpList_store_mid rfl 70 (.tmp 8) (.tmp 102) rfl _ _ (iv N0).toArray rfl rfl hth (by rw [show (iv N0).toArray.size = 64 from (iv_len N0).trans HD_N0.out]; kernel_rfl) (all_oneCell_toArray hone) ?_)
                      · have d5 : ((t : Int) == 63) = false := by simp; omega
                        have htn : t < 64 := by omega
                        by_cases hl : b.length < a + k + z
                        · go_wp2_with fail
                          refine (stake_end hx hm z (by omega) (by have := HBL.out; omega)).mono ?_; rintro e w3 ⟨rfl, hb3⟩
                          unfold errV
                          have hfw3 := hfw.trans (Fp.of_below hb3)
                          have X83 := X8.below hb3
                          have X103 := X10w.below hb3
                          have hx3 := hx.below hb3
                          clear hx hfw X8 X10w
                          have hfw := hfw3
                          have X8 := X83
                          clear hfw3 X83
                          exact absurd hl (by omega)
                        · go_wp2_with fail
                          refine (stake_ok hx hm z (by omega) (by have := HBL.out; omega)).mono ?_; rintro e w3 ⟨rfl, hx3, hf3⟩
                          rw [show m + a + k = m + (a + k) from Nat.add_assoc _ _ _, HDD.out (a + k)]
                          have hfw3 := hfw.trans hf3
                          have X83 := X8.keep hf3 (by omega)
                          have X103 := X10w.keep hf3 (by omega)
                          have XZ3 := XZ.keep hf3 (by omega)
                          have X153 := X15.keep hf3 (by omega)
                          have hK23 := hK2w.keep (hf3.below hB2 hK2w.size)
                          have hvb := vaN_bd (hv ((b.drop (a + k)).take z)) z (by omega)
                          obtain ⟨v, hvq⟩ : ∃ v, v = vaZ (hv ((b.drop (a + k)).take z)) (z : Int) := ⟨_, rfl⟩
                          rw [← hvq] at hvb ⊢
                          have HV := Lib.hid hvq
                          obtain ⟨hz1', hz2', hz3'⟩ := zzN_bd t htn
                          have eo := XZ3.cell (i := t) (ivs_get (by rw [HLL.out]; exact htn))
                          rw [HZL.out, hz2'] at eo
                          obtain ⟨y, hyq⟩ : ∃ y, y = zzN t := ⟨_, rfl⟩
                          rw [← hyq] at eo hz1'
                          have HY := Lib.hid hyq
                          have hy0 : (0 : Int) ≤ (y : Int) := by omega
                          have hy1 : (y : Int) < 64 := by omega
                          have ht0 : (0 : Int) ≤ (t : Int) := by omega
                          have ht1 : (t : Int) < 64 := by omega
                          have cf := X153.fz (i := y) (by rw [iv_len, HD_out.out]; exact hz1')
                          have cc : w3.cell? ⟨ob, y, none⟩ = some (.int .i64 (out.getD y 0)) := X153.cell (ivs_get (by rw [HD_out.out]; exact hz1'))
                          have X15s := X153.set y (.int .i64 v)
                          rw [iv_set] at X15s
                          have hfs : Fr (fun k => k = ob) w3 (w3.setCell ⟨ob, y, none⟩ (.int .i64 v)) := Fr.setCell (S := fun k => k = ob) (a := w3) (Fr.refl _ _) (p := ⟨ob, y, none⟩) (.inl rfl) (.int .i64 v)
                          have X8s := X83.keep hfs (by omega)
                          have X10s := X103.keep hfs (by omega)
                          have XZs := XZ3.keep hfs (by omega)
                          have hxs := hx3.keep hfs (by omega) (fun a ha => by have := HA.out a ha; omega)
                          have hfws := hfw3.setCell (p := ⟨ob, y, none⟩) (.inr (by show w.heap.size ≤ ob; rw [HRQ.out]; omega)) (.int .i64 v)
                          have hKs := hK23.keep (hfs.below (fun k hk => by omega) hK23.size)
                          clear hvq hyq hz2' hz3' hx hx3 hf3 hfw hfw3 X8 X10w XZ X15 X83 X103 XZ3 X153 hK2w hK23 hfs
                          go_wp2
                          go_roundw
                          case rel =>
                            refine ⟨t + 1, a + k, out.set y v, by go_num, by omega, by omega, by omega, by rw [List.length_set, HD_out.out], Lib.hid ?_, Lib.hid ?_, X8s, X10s, XZs, X15s, (show m + a + k + z = m + (a + k) by omega) ▸ hxs, hKs, hfws⟩
                            · have hv0 : v = 0 := by rw [HV.out, show z = 0 by omega]; exact vaZ_nought _
                              rw [← HRL.out, hv0, HY.out, set_nought (HZR.out t (by omega) htn), rdL_skip h64 HF2.out (by omega), show t + 1 = i + 16 by omega]
                            · intro j hj hj2
                              rw [HY.out, set_getD_ne (fun e => by have := zz_inj t htn j hj2 e; omega)]
                              exact HZR.out j (by omega) hj2
                          case measure => simp [intOf]; omega
                  · have d1 : ((s : Int) != 240) = true := by simp; omega
                    have hs240 := h240
                    by_cases hA64 : 64 ≤ t
                    · have d4 : decide ((64 : Int) ≤ (t : Int)) = true := decide_eq_true (by omega)
                      have hRR : R = (N0, 0, 2) := by rw [HN0.out, ← HRL.out]; exact rdL_mal h64 HF.out h0 hs240 (by rw [← HZ.out, ← HQ.out]; omega)
                      have HRR := Lib.hid hRR
                      clear hRR
                      have hrg := X10w.range 0 (iv N0) (fun j v hv => by rw [Nat.zero_add]; exact hv)
                      obtain ⟨XR, hxr, hfr, hth⟩ := ret_facts HD_N0.out X8 HD_N0.out hx hfw (by rw [HRQ.out]; exact Nat.le_refl _) (by rw [HRQ.out]; exact hrp) HA.out
                      have hone := one_iv N0
                      go_wp2_with (first | ((with_reducible refine bp_id ?_); exact bodyPost_ret (results_row2 (P := Try.prog) rfl _ _ rb 70 (iv N0).toArray (0, 0) _ rfl XR Try.underlying70 rfl (by rw [show (iv N0).toArray.size = 64 from (iv_len N0).trans HD_N0.out]; kernel_rfl)) rfl ⟨_, by rw [HRR.out]; rfl, hxr, fun h => by rw [HRR.out] at h; exact absurd h (by first | (intro h; cases h; done) | assumption), hfr⟩) | refine wpList_load_mid rfl 70 (.tmp 10) rfl _ _ rfl (iv N0) _ hrg Try.underlying70 rfl (by rw [iv_len, HD_N0.out]; kernel_rfl) ?_ | refine wpList_store_mid rfl 70 (.tmp 8) (.tmp 102) rfl _ _ (iv N0).toArray rfl rfl hth (by rw [show (iv N0).toArray.size = 64 from (iv_len N0).trans HD_N0.out]; kernel_rfl) (all_oneCell_toArray hone) ?_)
                    · have d4 : decide ((64 : Int) ≤ (t : Int)) = false := decide_eq_false (by omega)
                      by_cases h10 : 10 < z
                      · have d3 : decide ((10 : Int) < (z : Int)) = true := decide_eq_true (by omega)
                        have hRR : R = (N0, 0, 2) := by rw [HN0.out, ← HRL.out]; exact rdL_mal h64 HF.out h0 hs240 (by rw [← HZ.out, ← HQ.out]; omega)
                        have HRR := Lib.hid hRR
                        clear hRR
                        have hrg := X10w.range 0 (iv N0) (fun j v hv => by rw [Nat.zero_add]; exact hv)
                        obtain ⟨XR, hxr, hfr, hth⟩ := ret_facts HD_N0.out X8 HD_N0.out hx hfw (by rw [HRQ.out]; exact Nat.le_refl _) (by rw [HRQ.out]; exact hrp) HA.out
                        have hone := one_iv N0
                        go_wp2_with (first | ((with_reducible refine bp_id ?_); exact bodyPost_ret (results_row2 (P := Try.prog) rfl _ _ rb 70 (iv N0).toArray (0, 0) _ rfl XR Try.underlying70 rfl (by rw [show (iv N0).toArray.size = 64 from (iv_len N0).trans HD_N0.out]; kernel_rfl)) rfl ⟨_, by rw [HRR.out]; rfl, hxr, fun h => by rw [HRR.out] at h; exact absurd h (by first | (intro h; cases h; done) | assumption), hfr⟩) | refine wpList_load_mid rfl 70 (.tmp 10) rfl _ _ rfl (iv N0) _ hrg Try.underlying70 rfl (by rw [iv_len, HD_N0.out]; kernel_rfl) ?_ | refine wpList_store_mid rfl 70 (.tmp 8) (.tmp 102) rfl _ _ (iv N0).toArray rfl rfl hth (by rw [show (iv N0).toArray.size = 64 from (iv_len N0).trans HD_N0.out]; kernel_rfl) (all_oneCell_toArray hone) ?_)
                      · have d3 : decide ((10 : Int) < (z : Int)) = false := decide_eq_false (by omega)
                        by_cases hz0 : z = 0
                        · have d2 : ((z : Int) == 0) = true := by simp; omega
                          have hRR : R = (N0, 0, 2) := by rw [HN0.out, ← HRL.out]; exact rdL_mal h64 HF.out h0 hs240 (by rw [← HZ.out, ← HQ.out]; omega)
                          have HRR := Lib.hid hRR
                          clear hRR
                          have hrg := X10w.range 0 (iv N0) (fun j v hv => by rw [Nat.zero_add]; exact hv)
                          obtain ⟨XR, hxr, hfr, hth⟩ := ret_facts HD_N0.out X8 HD_N0.out hx hfw (by rw [HRQ.out]; exact Nat.le_refl _) (by rw [HRQ.out]; exact hrp) HA.out
                          have hone := one_iv N0
                          go_wp2_with (first | ((with_reducible refine bp_id ?_); exact bodyPost_ret (results_row2 (P := Try.prog) rfl _ _ rb 70 (iv N0).toArray (0, 0) _ rfl XR Try.underlying70 rfl (by rw [show (iv N0).toArray.size = 64 from (iv_len N0).trans HD_N0.out]; kernel_rfl)) rfl ⟨_, by rw [HRR.out]; rfl, hxr, fun h => by rw [HRR.out] at h; exact absurd h (by first | (intro h; cases h; done) | assumption), hfr⟩) | refine wpList_load_mid rfl 70 (.tmp 10) rfl _ _ rfl (iv N0) _ hrg Try.underlying70 rfl (by rw [iv_len, HD_N0.out]; kernel_rfl) ?_ | refine wpList_store_mid rfl 70 (.tmp 8) (.tmp 102) rfl _ _ (iv N0).toArray rfl rfl hth (by rw [show (iv N0).toArray.size = 64 from (iv_len N0).trans HD_N0.out]; kernel_rfl) (all_oneCell_toArray hone) ?_)
                        · have d2 : ((z : Int) == 0) = false := by simp; omega
                          have htn : t < 64 := by omega
                          by_cases hl : b.length < a + k + z
                          · go_wp2_with fail
                            refine (stake_end hx hm z (by omega) (by have := HBL.out; omega)).mono ?_; rintro e w3 ⟨rfl, hb3⟩
                            unfold errV
                            have hfw3 := hfw.trans (Fp.of_below hb3)
                            have X83 := X8.below hb3
                            have X103 := X10w.below hb3
                            have hx3 := hx.below hb3
                            clear hx hfw X8 X10w
                            have hfw := hfw3
                            have X8 := X83
                            clear hfw3 X83
                            have hRR : R = (N0, 0, 8) := by rw [HN0.out, ← HRL.out]; exact rdL_end h64 HF.out h0 hs240 (by rw [← HZ.out, ← HQ.out]; omega) (by rw [← HZ.out]; exact hl)
                            have HRR := Lib.hid hRR
                            clear hRR
                            have hrg := X103.range 0 (iv N0) (fun j v hv => by rw [Nat.zero_add]; exact hv)
                            obtain ⟨XR, hxr, hfr, hth⟩ := ret_facts HD_N0.out X8 HD_N0.out hx3 hfw (by rw [HRQ.out]; exact Nat.le_refl _) (by rw [HRQ.out]; exact hrp) HA.out
                            have hone := one_iv N0
                            go_wp2_with (first | ((with_reducible refine bp_id ?_); exact bodyPost_ret (results_row2 (P := Try.prog) rfl _ _ rb 70 (iv N0).toArray (0, 0) _ rfl XR Try.underlying70 rfl (by rw [show (iv N0).toArray.size = 64 from (iv_len N0).trans HD_N0.out]; kernel_rfl)) rfl ⟨_, by rw [HRR.out]; rfl, hxr, fun h => by rw [HRR.out] at h; exact absurd h (by first | (intro h; cases h; done) | assumption), hfr⟩) | refine wpList_load_mid rfl 70 (.tmp 10) rfl _ _ rfl (iv N0) _ hrg Try.underlying70 rfl (by rw [iv_len, HD_N0.out]; kernel_rfl) ?_ | refine wpList_store_mid rfl 70 (.tmp 8) (.tmp 112) rfl _ _ (iv N0).toArray rfl rfl hth (by rw [show (iv N0).toArray.size = 64 from (iv_len N0).trans HD_N0.out]; kernel_rfl) (all_oneCell_toArray hone) ?_)
                          · go_wp2_with fail
                            refine (stake_ok hx hm z (by omega) (by have := HBL.out; omega)).mono ?_; rintro e w3 ⟨rfl, hx3, hf3⟩
                            rw [show m + a + k = m + (a + k) from Nat.add_assoc _ _ _, HDD.out (a + k)]
                            have hfw3 := hfw.trans hf3
                            have X83 := X8.keep hf3 (by omega)
                            have X103 := X10w.keep hf3 (by omega)
                            have XZ3 := XZ.keep hf3 (by omega)
                            have X153 := X15.keep hf3 (by omega)
                            have hK23 := hK2w.keep (hf3.below hB2 hK2w.size)
                            have hvb := vaN_bd (hv ((b.drop (a + k)).take z)) z (by omega)
                            obtain ⟨v, hvq⟩ : ∃ v, v = vaZ (hv ((b.drop (a + k)).take z)) (z : Int) := ⟨_, rfl⟩
                            rw [← hvq] at hvb ⊢
                            have HV := Lib.hid hvq
                            obtain ⟨hz1', hz2', hz3'⟩ := zzN_bd t htn
                            have eo := XZ3.cell (i := t) (ivs_get (by rw [HLL.out]; exact htn))
                            rw [HZL.out, hz2'] at eo
                            obtain ⟨y, hyq⟩ : ∃ y, y = zzN t := ⟨_, rfl⟩
                            rw [← hyq] at eo hz1'
                            have HY := Lib.hid hyq
                            have hy0 : (0 : Int) ≤ (y : Int) := by omega
                            have hy1 : (y : Int) < 64 := by omega
                            have ht0 : (0 : Int) ≤ (t : Int) := by omega
                            have ht1 : (t : Int) < 64 := by omega
                            have cf := X153.fz (i := y) (by rw [iv_len, HD_out.out]; exact hz1')
                            have cc : w3.cell? ⟨ob, y, none⟩ = some (.int .i64 (out.getD y 0)) := X153.cell (ivs_get (by rw [HD_out.out]; exact hz1'))
                            have X15s := X153.set y (.int .i64 v)
                            rw [iv_set] at X15s
                            have hfs : Fr (fun k => k = ob) w3 (w3.setCell ⟨ob, y, none⟩ (.int .i64 v)) := Fr.setCell (S := fun k => k = ob) (a := w3) (Fr.refl _ _) (p := ⟨ob, y, none⟩) (.inl rfl) (.int .i64 v)
                            have X8s := X83.keep hfs (by omega)
                            have X10s := X103.keep hfs (by omega)
                            have XZs := XZ3.keep hfs (by omega)
                            have hxs := hx3.keep hfs (by omega) (fun a ha => by have := HA.out a ha; omega)
                            have hfws := hfw3.setCell (p := ⟨ob, y, none⟩) (.inr (by show w.heap.size ≤ ob; rw [HRQ.out]; omega)) (.int .i64 v)
                            have hKs := hK23.keep (hfs.below (fun k hk => by omega) hK23.size)
                            clear hvq hyq hz2' hz3' hx hx3 hf3 hfw hfw3 X8 X10w XZ X15 X83 X103 XZ3 X153 hK2w hK23 hfs
                            go_wp2
                            go_roundw
                            case rel =>
                              refine ⟨t + 1, a + k + z, out.set y v, by go_num, by omega, by omega, by omega, by rw [List.length_set, HD_out.out], Lib.hid ?_, Lib.hid ?_, X8s, X10s, XZs, X15s, (show m + a + k + z = m + (a + k + z) by omega) ▸ hxs, hKs, hfws⟩
                              · rw [← HRL.out, rdL_go h64 HF.out h0 hs240 (by rw [← HZ.out, ← HQ.out]; omega) (by rw [← HZ.out]; exact hl), ← HZ.out, ← HQ.out, ← HT.out, ← HY.out, ← HV.out]
                              · intro j hj hj2
                                rw [HY.out, set_getD_ne (fun e => by have := zz_inj t htn j hj2 e; omega)]
                                exact HZR.out j (by omega) hj2
                            case measure => simp [intOf]; omega
              · rw [errE_ne he]
                unfold errV
                have hRR : R = (N0, 0, er) := by rw [HN0.out, ← HRL.out]; exact rdL_bad h64 HF.out he
                have HRR := Lib.hid hRR
                clear hRR
                have hrg := X10w.range 0 (iv N0) (fun j v hv => by rw [Nat.zero_add]; exact hv)
                obtain ⟨XR, hxr, hfr, hth⟩ := ret_facts HD_N0.out X8 HD_N0.out hx hfw (by rw [HRQ.out]; exact Nat.le_refl _) (by rw [HRQ.out]; exact hrp) HA.out
                have hone := one_iv N0
                go_wp2_with (first | ((with_reducible refine bp_id ?_); exact bodyPost_ret (results_row2 (P := Try.prog) rfl _ _ rb 70 (iv N0).toArray (0, 0) _ rfl XR Try.underlying70 rfl (by rw [show (iv N0).toArray.size = 64 from (iv_len N0).trans HD_N0.out]; kernel_rfl)) rfl ⟨_, by rw [HRR.out]; show _ = Ending.returned (.tuple #[_, errE er]); rw [errE_ne he]; rfl, hxr, fun h => by rw [HRR.out] at h; exact absurd h (by first | (intro h; cases h; done) | assumption), hfr⟩) | refine wpList_load_mid rfl 70 (.tmp 10) rfl _ _ rfl (iv N0) _ hrg Try.underlying70 rfl (by rw [iv_len, HD_N0.out]; kernel_rfl) ?_ | refine wpList_store_mid rfl 70 (.tmp 8) (.tmp 73) rfl _ _ (iv N0).toArray rfl rfl hth (by rw [show (iv N0).toArray.size = 64 from (iv_len N0).trans HD_N0.out]; kernel_rfl) (all_oneCell_toArray hone) ?_)
            · have d64 : decide ((i : Int) < 64) = false := decide_eq_false (by omega)
              have hRR : R = (out, a, 0) := by rw [← HRL.out]; exact rdL_out h64
              have HRR := Lib.hid hRR
              clear hRR
              have hrg := X15.range 0 (iv out) (fun j v hv => by rw [Nat.zero_add]; exact hv)
              obtain ⟨XR, hxr, hfr, hth⟩ := ret_facts HD_N0.out X8 HD_out.out hx hfw (by rw [HRQ.out]; exact Nat.le_refl _) (by rw [HRQ.out]; exact hrp) HA.out
              have hone := one_iv out
              go_wp2_with (first | ((with_reducible refine bp_id ?_); exact bodyPost_ret (results_row2 (P := Try.prog) rfl _ _ rb 70 (iv out).toArray (0, 0) _ rfl XR Try.underlying70 rfl (by rw [show (iv out).toArray.size = 64 from (iv_len out).trans HD_out.out]; kernel_rfl)) rfl ⟨_, by rw [HRR.out]; rfl, hxr, fun _ => by rw [HRR.out]; first | done | exact Nat.add_assoc _ _ _, hfr⟩) | refine wpList_load_mid rfl 70 (.tmp 15) rfl _ _ rfl (iv out) _ hrg Try.underlying70 rfl (by rw [iv_len, HD_out.out]; kernel_rfl) ?_ | refine wpList_store_mid rfl 70 (.tmp 8) (.tmp 119) rfl _ _ (iv out).toArray rfl rfl hth (by rw [show (iv out).toArray.size = 64 from (iv_len out).trans HD_out.out]; kernel_rfl) (all_oneCell_toArray hone) ?_)
        · have HDC := Lib.hid (decide_eq_false hdc)
          have hRR : R = (N0, 0, 2) := by rw [HN0.out, ← HRb.out]; exact rdB_dc HF.out h11 hl (by rw [← HV.out]; exact hdc)
          have HRR := Lib.hid hRR
          clear hRR
          have hrg := X103.range 0 (iv N0) (fun j v hv => by rw [Nat.zero_add]; exact hv)
          obtain ⟨XR, hxr, hfr, hth⟩ := ret_facts HD_N0.out X8 HD_N0.out hx3 hfw (by rw [HRQ.out]; exact Nat.le_refl _) (by rw [HRQ.out]; exact hrp) HA.out
          have hone := one_iv N0
          go_wp2_with (first | ((with_reducible refine bp_id ?_); exact bodyPost_ret (results_row2 (P := Try.prog) rfl _ _ rb 70 (iv N0).toArray (0, 0) _ rfl XR Try.underlying70 rfl (by rw [show (iv N0).toArray.size = 64 from (iv_len N0).trans HD_N0.out]; kernel_rfl)) rfl ⟨_, by rw [HRR.out]; rfl, hxr, fun h => by rw [HRR.out] at h; exact absurd h (by first | (intro h; cases h; done) | assumption), hfr⟩) | (go_at_call 106; refine (dcIn_any _ _).mono ?_; rintro e w' ⟨rfl, rfl⟩; rw [HDC.out]) | refine wpList_load_mid rfl 70 (.tmp 10) rfl _ _ rfl (iv N0) _ hrg Try.underlying70 rfl (by rw [iv_len, HD_N0.out]; kernel_rfl) ?_ | refine wpList_store_mid rfl 70 (.tmp 8) (.tmp 54) rfl _ _ (iv N0).toArray rfl rfl hth (by rw [show (iv N0).toArray.size = 64 from (iv_len N0).trans HD_N0.out]; kernel_rfl) (all_oneCell_toArray hone) ?_)
  · rw [errE_ne he]
    unfold errV
    have hRR : R = (N0, 0, er) := by rw [HN0.out, ← HRb.out]; exact rdB_bad HF.out he
    have HRR := Lib.hid hRR
    clear hRR
    have hrg := X10w.range 0 (iv N0) (fun j v hv => by rw [Nat.zero_add]; exact hv)
    obtain ⟨XR, hxr, hfr, hth⟩ := ret_facts HD_N0.out X8 HD_N0.out hx hfw (by rw [HRQ.out]; exact Nat.le_refl _) (by rw [HRQ.out]; exact hrp) HA.out
    have hone := one_iv N0
    go_wp2_with (first | ((with_reducible refine bp_id ?_); exact bodyPost_ret (results_row2 (P := Try.prog) rfl _ _ rb 70 (iv N0).toArray (0, 0) _ rfl XR Try.underlying70 rfl (by rw [show (iv N0).toArray.size = 64 from (iv_len N0).trans HD_N0.out]; kernel_rfl)) rfl ⟨_, by rw [HRR.out]; show _ = Ending.returned (.tuple #[_, errE er]); rw [errE_ne he]; rfl, hxr, fun h => by rw [HRR.out] at h; exact absurd h (by first | (intro h; cases h; done) | assumption), hfr⟩) | refine wpList_load_mid rfl 70 (.tmp 10) rfl _ _ rfl (iv N0) _ hrg Try.underlying70 rfl (by rw [iv_len, HD_N0.out]; kernel_rfl) ?_ | refine wpList_store_mid rfl 70 (.tmp 8) (.tmp 30) rfl _ _ (iv N0).toArray rfl rfl hth (by rw [show (iv N0).toArray.size = 64 from (iv_len N0).trans HD_N0.out]; kernel_rfl) (all_oneCell_toArray hone) ?_)
end Go.Proofs.Ytlhappecjjbopaa
