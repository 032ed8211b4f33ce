/-
  ScanReads, third part: the document's Read, by a contract. Conditions: at most 100000 bits.
-/
import Derived.Test.YtlhappecjjbopaaScN
import Derived.Test.YtlhappecjjbopaaScB
import Derived.Test.YtlhappecjjbopaaBiS
import Derived.Test.YtlhappecjjbopaaCaV
import Derived.Deep.CutRange
import Derived.Deep.RegionWith
import Derived.Deep.RegionHeld3
namespace Go.Proofs.Ytlhappecjjbopaa
open Go.RowKit
set_option linter.unusedVariables false
set_option maxRecDepth 100000

theorem ret_factsP {w W : World} {rb : Nat} {t : TypeId} {D N : List Int} (hN : N.length = 64) (X8 : Bln W rb t (iv N)) (hD : D.length = 64) (hb : Below w.heap.size w W) (hrb : w.heap.size ≤ rb) :
    Bln (W.setCells rb 0 (iv D)) rb t (iv D) ∧ Below w.heap.size w (W.setCells rb 0 (iv D)) ∧ W.there rb 0 (iv D).toArray.size := by
  have h1 := X8.sets (iv D) 0
  rw [setR_all (by rw [iv_len, iv_len, hD, hN])] at h1
  refine ⟨h1, (Fr.sets (S := fun _ => False) (a := w) (.inr hrb) (iv D) 0 (Fr.of_below hb)).below (fun _ _ f => f) (Nat.le_refl _), ?_⟩
  rw [show (iv D).toArray.size = 64 from (iv_len D).trans hD]
  exact X8.there 64 (by rw [iv_len, hN]; decide)
theorem RdS.pos {syms Z l : List Int} {s : Int} {n : Nat} (h : RdS syms Z l s n 0) : 1 ≤ n := by
  rcases h with ⟨h0, h1, h2, h3⟩ | ⟨h0, k, hc, ⟨h1, h2, h3, h4⟩ | ⟨h1, ⟨i, hi, h2, h3, h4⟩ | ⟨_, _, h2, h3, h4⟩⟩⟩
  all_goals omega
/-- what is left behind the k-th bit, as a slice -/
theorem cut_rd {w : World} {L : List Int} {A : Option Addr} {c : Nat} (hR : Rd w w.heap.size A (iv L)) (hc : L.length ≤ c) (hm : c ≤ 9223372036854775807) (k : Nat) (hk : k ≤ L.length) :
    Rd w w.heap.size (if c = k then A else Option.map (fun x => x.add k) A) (iv (L.drop k)) := by
  by_cases h0 : iv (L.drop k) = []
  · exact .inl h0
  · by_cases hck : c = k
    · exact absurd (by rw [List.drop_of_length_le (by omega)]; rfl) h0
    · rw [if_neg hck]
      have hR0 := hR
      rcases hR with h | ⟨b, o, hA, _⟩
      · exact absurd (by rw [iv_drop, h, List.drop_nil]) h0
      · subst hA
        show Rd _ _ (some ((⟨b, o, none⟩ : Addr).add k)) _
        rw [add_flat, iv_drop]
        exact hR0.drop rfl k
theorem take_rd {w : World} {B : Nat} {A : Option Addr} {L : List Int} (h : Rd w B A (iv L)) (k : Nat) : Rd w B A (iv (L.take k)) := by
  have : iv L = iv (L.take k) ++ iv (L.drop k) := by rw [← iv_app, List.take_append_drop]
  rw [this] at h
  exact h.pre

def RrP (R : List Int × Nat × Int) (w : World) (e : Ending) (w' : World) : Prop := e = .returned (.tuple #[.agg (iv R.1).toArray, .int .i64 (R.2.1 : Nat), .int .i64 R.2.2]) ∧ Below w.heap.size w w'
def RrI (S2 Z2 b : List Int) (R : List Int × Nat × Int) (rb nb zb ob nl : Nat) (N0 ZL : List Int) (w : World) (av ix : Value) (wr : World) : Prop :=
  ∃ (i a : Nat) (out : List Int), ix = .int .i64 i ∧ av = .int .i64 a ∧ 1 ≤ i ∧ i ≤ 64 ∧ a ≤ nl ∧ out.length = 64 ∧ Hid (rdL S2 Z2 b i a out = R) ∧ Bln wr rb 70 (iv N0) ∧ Bln wr nb 70 (iv N0) ∧ Bln wr zb 39 (iv ZL) ∧ Bln wr ob 70 (iv out) ∧ Below w.heap.size w wr
set_option maxHeartbeats 16000000 in
theorem refRead_any {K1 K2 n1 c1 n2 c2 nl cl : Nat} {S1 Z1 S2 Z2 : List Int} {A1 A2 Al : Option Addr} {b : List Int} {w : World}
    (hS1 : Cs w K1 A1 S1 Z1) (hz1 : Zs Z1) (hs1 : ∀ x ∈ S1, 0 ≤ x ∧ x ≤ 511) (hn1 : Z1.length = n1) (hS2 : Cs w K2 A2 S2 Z2) (hz2 : Zs Z2) (hs2 : ∀ x ∈ S2, 0 ≤ x ∧ x ≤ 511) (hn2 : Z2.length = n2) (hm1 : n1 ≤ 100000) (hm2 : n2 ≤ 100000)
    (hnl : b.length = nl) (hncl : nl ≤ cl) (hcl : cl ≤ 9223372036854775807) (hRl : Rd w w.heap.size Al (iv b)) (hb01 : B01 b) (hm : nl ≤ 100000) (ahead : Int) (hd : DcB ahead) {R : List Int × Nat × Int} (hR : rdB S1 Z1 S2 Z2 b ahead = R) :
    Calls Try.prog 85 #[.slice A1 n1 c1, .slice A2 n2 c2, .slice Al nl cl, .int .i64 ahead] w (RrP R w) := by
  have hal : ∀ W : World, W.alloc (.cells #[.int .i64 0, .int .i64 0, .int .i64 0, .int .i64 0, .int .i64 0, .int .i64 0, .int .i64 0, .int .i64 0, .int .i64 0, .int .i64 0, .int .i64 0, .int .i64 0, .int .i64 0, .int .i64 0, .int .i64 0, .int .i64 0, .int .i64 0, .int .i64 0, .int .i64 0, .int .i64 0, .int .i64 0, .int .i64 0, .int .i64 0, .int .i64 0, .int .i64 0, .int .i64 0, .int .i64 0, .int .i64 0, .int .i64 0, .int .i64 0, .int .i64 0, .int .i64 0, .int .i64 0, .int .i64 0, .int .i64 0, .int .i64 0, .int .i64 0, .int .i64 0, .int .i64 0, .int .i64 0, .int .i64 0, .int .i64 0, .int .i64 0, .int .i64 0, .int .i64 0, .int .i64 0, .int .i64 0, .int .i64 0, .int .i64 0, .int .i64 0, .int .i64 0, .int .i64 0, .int .i64 0, .int .i64 0, .int .i64 0, .int .i64 0, .int .i64 0, .int .i64 0, .int .i64 0, .int .i64 0, .int .i64 0, .int .i64 0, .int .i64 0, .int .i64 0] 70) = W.alloc (.cells (iv z64).toArray 70) := fun _ => rfl
  have HR := Lib.hid hR
  have HZ1 := Lib.hid hz1
  have HZ2 := Lib.hid hz2
  have HS1 := Lib.hid hs1
  have HS2 := Lib.hid hs2
  have HN1 := Lib.hid hn1
  have HN2 := Lib.hid hn2
  have HNL := Lib.hid hnl
  have HB01 := Lib.hid hb01
  have hd1 := hd.1
  have hd2 := hd.2
  have X8 := Bln.new w 70 (iv z64)
  have hb0 : Below w.heap.size w (w.alloc (.cells (iv z64).toArray 70)) := (Below.refl _ _).alloc (Nat.le_refl _) _
  have HRL0 := Lib.hid hRl
  clear hR hz1 hz2 hs1 hs2 hn1 hn2 hnl hb01 hd
  go_enter Try.func85, Try.ntmps85
  go_upto_region 1 with fail
  generalize w.alloc (.cells (iv z64).toArray 70) = w0 at *
  have hs0 : w.heap.size < w0.heap.size := X8.lt
  obtain ⟨N0, hN0⟩ : ∃ z, z = z64 := ⟨_, rfl⟩
  have hnl64 : N0.length = 64 := by rw [hN0]; rfl
  have HN0 := Lib.hid hN0
  have HD_N0 := Lib.hid hnl64
  have hlit : (iv N0).toArray = #[.int .i64 0, .int .i64 0, .int .i64 0, .int .i64 0, .int .i64 0, .int .i64 0, .int .i64 0, .int .i64 0, .int .i64 0, .int .i64 0, .int .i64 0, .int .i64 0, .int .i64 0, .int .i64 0, .int .i64 0, .int .i64 0, .int .i64 0, .int .i64 0, .int .i64 0, .int .i64 0, .int .i64 0, .int .i64 0, .int .i64 0, .int .i64 0, .int .i64 0, .int .i64 0, .int .i64 0, .int .i64 0, .int .i64 0, .int .i64 0, .int .i64 0, .int .i64 0, .int .i64 0, .int .i64 0, .int .i64 0, .int .i64 0, .int .i64 0, .int .i64 0, .int .i64 0, .int .i64 0, .int .i64 0, .int .i64 0, .int .i64 0, .int .i64 0, .int .i64 0, .int .i64 0, .int .i64 0, .int .i64 0, .int .i64 0, .int .i64 0, .int .i64 0, .int .i64 0, .int .i64 0, .int .i64 0, .int .i64 0, .int .i64 0, .int .i64 0, .int .i64 0, .int .i64 0, .int .i64 0, .int .i64 0, .int .i64 0, .int .i64 0, .int .i64 0] := by rw [hN0]; rfl
  obtain ⟨X11, hba⟩ := Bln.copy w0 70 (iv z64) (iv N0) (by rw [iv_len, iv_len, hnl64]; rfl)
  have hth : (w0.alloc (.cells (iv z64).toArray 70)).there w0.heap.size 0 (iv N0).toArray.size := by
    rw [show (iv N0).toArray.size = 64 from (iv_len N0).trans hnl64]
    exact (Bln.new w0 70 (iv z64)).there 64 (by rw [iv_len]; decide)
  have hone := one_iv N0
  have HLIT := Lib.hid hlit
  clear hlit hN0 hnl64
  go_upto_region 2 with (refine wpList_store_mid rfl 70 (.tmp 11) (.tmp 24) rfl _ _ (iv N0).toArray rfl (congrArg Value.agg HLIT.out.symm) hth (by rw [show (iv N0).toArray.size = 64 from (iv_len N0).trans HD_N0.out]; kernel_rfl) (all_oneCell_toArray hone) ?_)
  rw [← HLIT.out]
  have X8' := X8.below hba
  have hb1 := hb0.trans (hba.mono hb0.size)
  generalize (w0.alloc (.cells (iv z64).toArray 70)).setCells w0.heap.size 0 (iv N0) = w1 at *
  rw [← HN0.out] at X8'
  generalize hrq : w.heap.size = rb at *
  have HRQ := Lib.hid hrq
  generalize w0.heap.size = nb at *
  have hs1 : rb < w1.heap.size := by have := X11.lt; omega
  have hRl1 : Rd w1 w1.heap.size Al (iv b) := (hRl.below hb1).more (Nat.le_of_lt hs1)
  have hS1' := hS1.keep (hb1.mono (by have := hS1.size; omega))
  have hS2' := hS2.keep (hb1.mono (by have := hS2.size; omega))
  clear hal hrq X8 hb0 hba hth hone hRl hS1
  go_wp2_with fail
  refine (refread_any A1 Al n1 c1 nl cl K1 S1 Z1 b w1 HN1.out HNL.out hS1' hRl1 HZ1.out HB01.out hm1 (by omega)).mono ?_; rintro e w2 ⟨sym, k, er, hr, rfl, hb2⟩
  have X8 := X8'.below hb2
  have X11w := X11.below hb2
  have hnb2 : nb < w2.heap.size := X11w.lt
  have hb12 := hb1.trans (hb2.mono (Nat.le_of_lt hs1))
  have hb : Below w.heap.size w w2 := by rw [HRQ.out]; exact hb12
  have hs2 : rb < w2.heap.size := by have := hb2.size; omega
  have hRl2 := (hRl1.below hb2).more hb2.size
  obtain ⟨s, rfl⟩ := Int.eq_ofNat_of_zero_le (hr.sy_bd HS1.out).1
  have hs511 := (hr.sy_bd HS1.out).2
  have hF := rdF_eq HZ1.out HB01.out hr
  have hbd := hr.bd
  rw [HNL.out] at hbd
  have HF := Lib.hid hF
  clear hF hS1' hS2' X8' X11 hb1 hb2 hb12 hRl1
  by_cases he : er = 0
  · subst he
    have hpos := hr.pos
    clear hr
    by_cases h11 : 11 < s
    · have d1 : decide ((11 : Int) < (s : Int)) = true := decide_eq_true (by omega)
      have hRR : R = (N0, 0, 2) := by rw [HN0.out, ← HR.out]; exact rdB_big HF.out h11
      have HRR := Lib.hid hRR
      clear hRR
      have hrg := X11w.range 0 (iv N0) (fun j v hv => by rw [Nat.zero_add]; exact hv)
      obtain ⟨XR, hbr, hth⟩ := ret_factsP HD_N0.out X8 HD_N0.out hb (by rw [HRQ.out]; exact Nat.le_refl _)
      have hone := one_iv N0
      go_upto_region 7 with fail
      go_wp2_with (first | ((with_reducible refine bp_id ?_); exact bodyPost_ret (results_row3 (P := Try.prog) rfl _ _ rb 70 (iv N0).toArray (0, 0) _ rfl XR Try.underlying70 rfl (by rw [show (iv N0).toArray.size = 64 from (iv_len N0).trans HD_N0.out]; kernel_rfl)) rfl ⟨by rw [HRR.out]; first | rfl | (simp only [Int.natCast_add]; rfl), hbr⟩) | refine wpList_load_mid rfl 70 (.tmp 11) rfl _ _ rfl (iv N0) _ hrg Try.underlying70 rfl (by rw [iv_len, HD_N0.out]; kernel_rfl) ?_ | refine wpList_store_mid rfl 70 (.tmp 8) (.tmp 38) rfl _ _ (iv N0).toArray rfl rfl hth (by rw [show (iv N0).toArray.size = 64 from (iv_len N0).trans HD_N0.out]; kernel_rfl) (all_oneCell_toArray hone) ?_)
    · have d1 : decide ((11 : Int) < (s : Int)) = false := decide_eq_false (by omega)
      by_cases hl : nl < k + s
      · have d2 : decide ((nl : Int) - (k : Int) < (s : Int)) = true := decide_eq_true (by omega)
        have hRR : R = (N0, 0, 8) := by rw [HN0.out, ← HR.out]; exact rdB_end HF.out h11 (by rw [HNL.out]; exact hl)
        have HRR := Lib.hid hRR
        clear hRR
        have hrg := X11w.range 0 (iv N0) (fun j v hv => by rw [Nat.zero_add]; exact hv)
        obtain ⟨XR, hbr, hth⟩ := ret_factsP HD_N0.out X8 HD_N0.out hb (by rw [HRQ.out]; exact Nat.le_refl _)
        have hone := one_iv N0
        go_upto_region 9 with fail
        go_wp2_with (first | ((with_reducible refine bp_id ?_); exact bodyPost_ret (results_row3 (P := Try.prog) rfl _ _ rb 70 (iv N0).toArray (0, 0) _ rfl XR Try.underlying70 rfl (by rw [show (iv N0).toArray.size = 64 from (iv_len N0).trans HD_N0.out]; kernel_rfl)) rfl ⟨by rw [HRR.out]; first | rfl | (simp only [Int.natCast_add]; rfl), hbr⟩) | refine wpList_load_mid rfl 70 (.tmp 11) rfl _ _ rfl (iv N0) _ hrg Try.underlying70 rfl (by rw [iv_len, HD_N0.out]; kernel_rfl) ?_ | refine wpList_store_mid rfl 70 (.tmp 8) (.tmp 46) rfl _ _ (iv N0).toArray rfl rfl hth (by rw [show (iv N0).toArray.size = 64 from (iv_len N0).trans HD_N0.out]; kernel_rfl) (all_oneCell_toArray hone) ?_)
      · have d2 : decide ((nl : Int) - (k : Int) < (s : Int)) = false := decide_eq_false (by omega)
        have hcut := cut_rd hRl2 (by rw [HNL.out]; exact hncl) hcl k (by rw [HNL.out]; omega)
        have htk := take_rd hcut s
        have htl : ((b.drop k).take s).length = s := by rw [List.length_take, List.length_drop, HNL.out]; omega
        have HTL := Lib.hid htl
        have hks : k + s - k = s := by omega
        have hkk : (k : Int) + (s : Int) ≤ (cl : Int) := by omega
        clear htl
        obtain ⟨v, hvq⟩ : ∃ v, v = vaZ (hv ((b.drop k).take s)) (s : Int) := ⟨_, rfl⟩
        have hvb := vaN_bd (hv ((b.drop k).take s)) s (by omega)
        rw [← hvq] at hvb
        have HV := Lib.hid hvq
        clear hvq
        go_upto_region 10 with fail
        go_cut [16] from 47 to 55 (fun nv wx => nv = .int .i64 v ∧ w2 = wx)
        case first =>
          obtain ⟨A', hA'⟩ : ∃ A', (if cl = k then Al else Option.map (fun x => x.add k) Al) = A' := ⟨_, rfl⟩
          rw [hA'] at htk
          go_wp2_with fail
          refine (number_any _ s _ _ true _ _ HTL.out htk (HB01.out.drop k |>.take s) (by omega)).mono ?_; rintro e w' ⟨rfl, rfl⟩
          rw [part_hv _ _ HTL.out]
          go_wp2_with fail
          refine (rvalue_any _ _ _).mono ?_; rintro e w' ⟨rfl, rfl⟩
          rw [← HV.out]
          go_wp2_with fail
          go_meet
          exact ⟨rfl, rfl⟩
        case rest =>
          obtain ⟨rfl, rfl⟩ := hcut
          clear htk hcut hks hkk
          obtain ⟨p0, hp0⟩ : ∃ p0, p0 = k + s := ⟨_, rfl⟩
          have ep : (k : Int) + (s : Int) = (p0 : Int) := by omega
          have HP0 := Lib.hid hp0
          clear hp0
          by_cases hdc : DcB (ahead + v)
          · have HDC := Lib.hid (decide_eq_true hdc)
            have hRL : rdL S2 Z2 b 1 (k + s) (N0.set 0 (ahead + v)) = R := by
              rw [HN0.out, HV.out, ← rdB_go (ahead := ahead) HF.out h11 (by rw [HNL.out]; exact hl) (by rw [← HV.out]; exact hdc)]; exact HR.out
            rw [← HP0.out] at hRL
            have HRL := Lib.hid hRL
            have hp0l : p0 ≤ nl := by have := HP0.out; omega
            clear hRL hdc
            have hal : ∀ W : World, W.alloc (.cells #[.int .i64 0, .int .i64 0, .int .i64 0, .int .i64 0, .int .i64 0, .int .i64 0, .int .i64 0, .int .i64 0, .int .i64 0, .int .i64 0, .int .i64 0, .int .i64 0, .int .i64 0, .int .i64 0, .int .i64 0, .int .i64 0, .int .i64 0, .int .i64 0, .int .i64 0, .int .i64 0, .int .i64 0, .int .i64 0, .int .i64 0, .int .i64 0, .int .i64 0, .int .i64 0, .int .i64 0, .int .i64 0, .int .i64 0, .int .i64 0, .int .i64 0, .int .i64 0, .int .i64 0, .int .i64 0, .int .i64 0, .int .i64 0, .int .i64 0, .int .i64 0, .int .i64 0, .int .i64 0, .int .i64 0, .int .i64 0, .int .i64 0, .int .i64 0, .int .i64 0, .int .i64 0, .int .i64 0, .int .i64 0, .int .i64 0, .int .i64 0, .int .i64 0, .int .i64 0, .int .i64 0, .int .i64 0, .int .i64 0, .int .i64 0, .int .i64 0, .int .i64 0, .int .i64 0, .int .i64 0, .int .i64 0, .int .i64 0, .int .i64 0, .int .i64 0] 70) = W.alloc (.cells (iv z64).toArray 70) := fun _ => rfl
            obtain ⟨X17, hb3⟩ := Bln.copy w2 70 (iv z64) (iv N0) (by rw [iv_len, iv_len, HD_N0.out]; rfl)
            have hth : (w2.alloc (.cells (iv z64).toArray 70)).there w2.heap.size 0 (iv N0).toArray.size := by
              rw [show (iv N0).toArray.size = 64 from (iv_len N0).trans HD_N0.out]
              exact (Bln.new w2 70 (iv z64)).there 64 (by rw [iv_len]; decide)
            have hone := one_iv N0
            have hrg := X11w.range 0 (iv N0) (fun j v hv => by rw [Nat.zero_add]; exact hv)
            go_upto_region 15 with (first | (go_at_call 51; refine (rdc_any _ _).mono ?_; rintro e w' ⟨rfl, rfl⟩; rw [HDC.out]) | refine wpList_load_mid rfl 70 (.tmp 11) rfl _ _ rfl (iv N0) _ hrg Try.underlying70 rfl (by rw [iv_len, HD_N0.out]; kernel_rfl) ?_ | refine wpList_store_mid rfl 70 (.tmp 17) (.tmp 66) rfl _ _ (iv N0).toArray rfl rfl hth (by rw [show (iv N0).toArray.size = 64 from (iv_len N0).trans HD_N0.out]; kernel_rfl) (all_oneCell_toArray hone) ?_)
            have X83 := X8.below hb3
            have X113 := X11w.below hb3
            have hb3' := hb.trans (hb3.mono hb.size)
            generalize (w2.alloc (.cells (iv z64).toArray 70)).setCells w2.heap.size 0 (iv N0) = w3 at *
            generalize w2.heap.size = ob at *
            clear hal hth hone hrg hb3 hb X8 X11w hRl2
            have cf := X17.fz (i := 0) (by rw [iv_len, HD_N0.out]; decide)
            have cc : w3.cell? ⟨ob, 0, none⟩ = some (.int .i64 (N0.getD 0 0)) := X17.cell (ivs_get (by rw [HD_N0.out]; decide))
            have X17s := X17.set 0 (.int .i64 (ahead + v))
            rw [iv_set] at X17s
            have hobl := X17.lt
            have hfs : Fr (fun k => k = ob) w3 (w3.setCell ⟨ob, 0, none⟩ (.int .i64 (ahead + v))) := Fr.setCell (S := fun k => k = ob) (a := w3) (Fr.refl _ _) (p := ⟨ob, 0, none⟩) (.inl rfl) (.int .i64 (ahead + v))
            have X8s := X83.keep hfs (by omega)
            have X11s := X113.keep hfs (by omega)
            have hbs := hb3'.setCell (p := ⟨ob, 0, none⟩) (by show w.heap.size ≤ ob; rw [HRQ.out]; omega) (.int .i64 (ahead + v))
            have hob2 : rb < ob := by omega
            clear X83 X113 hb3' X17 hfs
            go_wp2_with fail
            refine (order_ref _).mono ?_; rintro e w4 ⟨rfl, hb4⟩
            have X84 := X8s.below hb4
            have X114 := X11s.below hb4
            have X174 := X17s.below hb4
            have hbw4 := hbs.trans (hb4.mono hbs.size)
            generalize w3.setCell ⟨ob, 0, none⟩ (.int .i64 (ahead + v)) = w3' at *
            have hs4 := hb4.size
            have hob4 := X174.lt
            have hzl : (iv zzL).length = 64 := by rw [iv_len]; rfl
            obtain ⟨ZL, hZL⟩ : ∃ z, z = zzL := ⟨_, rfl⟩
            rw [← hZL] at hzl ⊢
            have HZL := Lib.hid hZL
            have hsz : (iv ZL).toArray.size = 64 := hzl
            have hll : ZL.length = 64 := by rw [← iv_len]; exact hzl
            have HLL := Lib.hid hll
            obtain ⟨XD, hbd4⟩ := Bln.copy w4 39 (iv z64) (iv ZL) (by rw [hzl, iv_len]; rfl)
            have hth : (w4.alloc (.cells (iv z64).toArray 39)).there w4.heap.size 0 (iv ZL).toArray.size := by
              rw [hsz]
              exact (Bln.new w4 39 (iv z64)).there 64 (by rw [iv_len]; decide)
            have hone := one_iv ZL
            have HSZ := Lib.hid hsz
            have hal : ∀ W : World, W.alloc (.cells #[.int .i64 0, .int .i64 0, .int .i64 0, .int .i64 0, .int .i64 0, .int .i64 0, .int .i64 0, .int .i64 0, .int .i64 0, .int .i64 0, .int .i64 0, .int .i64 0, .int .i64 0, .int .i64 0, .int .i64 0, .int .i64 0, .int .i64 0, .int .i64 0, .int .i64 0, .int .i64 0, .int .i64 0, .int .i64 0, .int .i64 0, .int .i64 0, .int .i64 0, .int .i64 0, .int .i64 0, .int .i64 0, .int .i64 0, .int .i64 0, .int .i64 0, .int .i64 0, .int .i64 0, .int .i64 0, .int .i64 0, .int .i64 0, .int .i64 0, .int .i64 0, .int .i64 0, .int .i64 0, .int .i64 0, .int .i64 0, .int .i64 0, .int .i64 0, .int .i64 0, .int .i64 0, .int .i64 0, .int .i64 0, .int .i64 0, .int .i64 0, .int .i64 0, .int .i64 0, .int .i64 0, .int .i64 0, .int .i64 0, .int .i64 0, .int .i64 0, .int .i64 0, .int .i64 0, .int .i64 0, .int .i64 0, .int .i64 0, .int .i64 0, .int .i64 0] 39) = W.alloc (.cells (iv z64).toArray 39) := fun _ => rfl
            clear hZL hsz hzl hll hs4 cf cc X8s X11s X17s hbs hb4
            go_upto_region 17 with (refine wpList_store_mid rfl 39 (.tmp 18) (.tmp 71) rfl _ _ (iv ZL).toArray rfl rfl hth (by rw [HSZ.out]; exact Try.info_block) (all_oneCell_toArray hone) ?_)
            have X85 := X84.below hbd4
            have X115 := X114.below hbd4
            have X175 := X174.below hbd4
            have hbw5 := hbw4.trans (hbd4.mono hbw4.size)
            generalize (w4.alloc (.cells (iv z64).toArray 39)).setCells w4.heap.size 0 (iv ZL) = w5 at *
            generalize w4.heap.size = zb at *
            clear hal hth hone hbd4 X84 X114 X174 hbw4
            have hs5 : w.heap.size ≤ w5.heap.size := hbw5.size
            go_wp2
            go_loopw [14, 19] (RrI S2 Z2 b R rb nb zb ob nl N0 ZL w) (fun _ ix _ => 64 - (intOf ix).toNat)
            case atStart => exact ⟨1, p0, N0.set 0 (ahead + v), rfl, rfl, by omega, by omega, hp0l, by rw [List.length_set, HD_N0.out], HRL, X85, X115, XD, X175, hbw5⟩
            case round =>
              clear X85 X115 X175 XD hbw5 HRL HV HF hvb HP0 HDC
              obtain ⟨i, a, out, rfl, rfl, hi1, hi, ha, hol, HRL, X8, X11w, XZ, X17, hb⟩ := hrel
              have HD_out := Lib.hid hol
              obtain ⟨wo, rfl⟩ : ∃ wo : World, wo = wr := ⟨_, rfl⟩
              clear hol
              by_cases h64 : i < 64
              · have d64 : decide ((i : Int) < 64) = true := decide_eq_true (by omega)
                have hRlo : Rd wo wo.heap.size Al (iv b) := by
                  have h := HRL0.out
                  rw [← HRQ.out] at h
                  exact (h.below hb).more hb.size
                have hS2o := hS2.keep (hb.mono hS2.size)
                have hcut := cut_rd hRlo (by rw [HNL.out]; exact hncl) hcl a (by rw [HNL.out]; exact ha)
                have hdl : (b.drop a).length = nl - a := by rw [List.length_drop, HNL.out]
                have HDL := Lib.hid hdl
                have ha0 : (0 : Int) ≤ (a : Int) := by omega
                have ha1 : (a : Int) ≤ (nl : Int) := by omega
                clear hdl
                go_upto_region 19 with fail
                go_cut [20, 21, 22] from 74 to 82 (fun sv kv ev wx => ∃ (s k : Nat) (er : Int), RdS S2 Z2 (b.drop a) s k er ∧ sv = .int .i64 s ∧ kv = .int .i64 k ∧ ev = .int .i64 er ∧ Below wo.heap.size wo wx)
                case first =>
                  obtain ⟨A', hA'⟩ : ∃ A', (if cl = a then Al else Option.map (fun x => x.add a) Al) = A' := ⟨_, rfl⟩
                  rw [hA'] at hcut
                  go_wp2_with fail
                  refine (refread_any A2 A' n2 c2 (nl - a) _ K2 S2 Z2 (b.drop a) wo HN2.out HDL.out hS2o hcut HZ2.out (HB01.out.drop a) hm2 (by omega)).mono ?_; rintro e w6 ⟨sym, k, er, hr, rfl, hb6⟩
                  obtain ⟨s, rfl⟩ := Int.eq_ofNat_of_zero_le (hr.sy_bd HS2.out).1
                  have HR1 := Lib.hid hr
                  clear hr
                  go_wp2_with fail
                  go_meet
                  exact ⟨s, k, er, HR1.out, rfl, rfl, rfl, hb6⟩
                case rest =>
                  obtain ⟨s, k, er, hr, rfl, rfl, rfl, hb6⟩ := hcut
                  have X82 := X8.below hb6
                  have X112 := X11w.below hb6
                  have XZ2 := XZ.below hb6
                  have X172 := X17.below hb6
                  have hb2 := hb.trans (hb6.mono hb.size)
                  have hF := rdF_eq HZ2.out (HB01.out.drop a) hr
                  have hbd := hr.bd
                  rw [HDL.out] at hbd
                  have hs511 := (hr.sy_bd HS2.out).2
                  have HF := Lib.hid hF
                  clear hF X8 X11w XZ X17 hb hb6 hRlo hS2o
                  have X8 := X82
                  clear X82
                  by_cases he : er = 0
                  · subst he
                    have hpos := hr.pos
                    clear hr
                    obtain ⟨p, hp⟩ : ∃ p, p = a + k := ⟨_, rfl⟩
                    have ep : (a : Int) + (k : Int) = (p : Int) := by omega
                    have hpn : p ≤ nl := by omega
                    have HP := Lib.hid hp
                    clear hp
                    by_cases h0 : s = 0
                    · have d0 : ((s : Int) == 0) = true := by simp; omega
                      have HF2 : Hid (rdF S2 Z2 (b.drop a) = (((0 : Nat) : Int), k, 0)) := Lib.hid (by rw [← h0]; exact HF.out)
                      clear h0
                      have hRR : R = (out, p, 0) := by rw [← HRL.out, HP.out]; exact rdL_eob h64 HF2.out
                      have HRR := Lib.hid hRR
                      clear hRR
                      have hrg := X172.range 0 (iv out) (fun j v hv => by rw [Nat.zero_add]; exact hv)
                      obtain ⟨XR, hbr, hth⟩ := ret_factsP HD_N0.out X8 HD_out.out hb2 (by rw [HRQ.out]; exact Nat.le_refl _)
                      have hone := one_iv out
                      go_upto_region 24 with fail
                      go_wp2_with (first | ((with_reducible refine bp_id ?_); exact bodyPost_ret (results_row3 (P := Try.prog) rfl _ _ rb 70 (iv out).toArray (0, 0) _ rfl XR Try.underlying70 rfl (by rw [show (iv out).toArray.size = 64 from (iv_len out).trans HD_out.out]; kernel_rfl)) rfl ⟨by rw [HRR.out]; first | rfl | (simp only [Int.natCast_add]; rfl), hbr⟩) | refine wpList_load_mid rfl 70 (.tmp 17) rfl _ _ rfl (iv out) _ hrg Try.underlying70 rfl (by rw [iv_len, HD_out.out]; kernel_rfl) ?_ | refine wpList_store_mid rfl 70 (.tmp 8) (.tmp 92) rfl _ _ (iv out).toArray rfl rfl hth (by rw [show (iv out).toArray.size = 64 from (iv_len out).trans HD_out.out]; kernel_rfl) (all_oneCell_toArray hone) ?_)
                    · have d0 : ((s : Int) == 0) = false := by simp; omega
                      obtain ⟨z, hz⟩ : ∃ z, z = s % 16 := ⟨_, rfl⟩
                      obtain ⟨q, hq⟩ : ∃ q, q = s / 16 := ⟨_, rfl⟩
                      have e1 : (s : Int) % 16 = (z : Int) := by omega
                      have e2 : (s : Int) / 16 = (q : Int) := by omega
                      have hz16 : z < 16 := by omega
                      have hq31 : q ≤ 31 := by omega
                      have HZ := Lib.hid hz
                      have HQ := Lib.hid hq
                      clear hz hq
                      by_cases h240 : s = 240
                      · have d240 : ((s : Int) == 240) = true := by simp; omega
                        have HF2 : Hid (rdF S2 Z2 (b.drop a) = (((240 : Nat) : Int), k, 0)) := Lib.hid (by rw [← h240]; exact HF.out)
                        clear h240 h0
                        by_cases h63 : 63 < i + 16
                        · have d63 : decide ((63 : Int) < (i : Int) + 16) = true := decide_eq_true (by omega)
                          have hRR : R = (N0, 0, 2) := by rw [HN0.out, ← HRL.out]; exact rdL_skipbad h64 HF2.out h63
                          have HRR := Lib.hid hRR
                          clear hRR
                          have hrg := X112.range 0 (iv N0) (fun j v hv => by rw [Nat.zero_add]; exact hv)
                          obtain ⟨XR, hbr, hth⟩ := ret_factsP HD_N0.out X8 HD_N0.out hb2 (by rw [HRQ.out]; exact Nat.le_refl _)
                          have hone := one_iv N0
                          go_upto_region 29 with fail
                          go_wp2_with (first | ((with_reducible refine bp_id ?_); exact bodyPost_ret (results_row3 (P := Try.prog) rfl _ _ rb 70 (iv N0).toArray (0, 0) _ rfl XR Try.underlying70 rfl (by rw [show (iv N0).toArray.size = 64 from (iv_len N0).trans HD_N0.out]; kernel_rfl)) rfl ⟨by rw [HRR.out]; first | rfl | (simp only [Int.natCast_add]; rfl), hbr⟩) | refine wpList_load_mid rfl 70 (.tmp 11) rfl _ _ rfl (iv N0) _ hrg Try.underlying70 rfl (by rw [iv_len, HD_N0.out]; kernel_rfl) ?_ | refine wpList_store_mid rfl 70 (.tmp 8) (.tmp 102) rfl _ _ (iv N0).toArray rfl rfl hth (by rw [show (iv N0).toArray.size = 64 from (iv_len N0).trans HD_N0.out]; kernel_rfl) (all_oneCell_toArray hone) ?_)
                        · have d63 : decide ((63 : Int) < (i : Int) + 16) = false := decide_eq_false (by omega)
                          go_wp2_with fail
                          go_roundw
                          case rel =>
                            exact ⟨i + 16, p, out, by go_num, rfl, by omega, by omega, hpn, HD_out.out, Lib.hid (by rw [← HRL.out, rdL_skip h64 HF2.out h63, HP.out]), X8, X112, XZ2, X172, hb2⟩
                          case measure => simp [intOf]; omega
                      · have d240 : ((s : Int) == 240) = false := by simp; omega
                        obtain ⟨t, ht⟩ : ∃ t, t = i + q := ⟨_, rfl⟩
                        have et : (i : Int) + (q : Int) = (t : Int) := by omega
                        have HT := Lib.hid ht
                        clear ht
                        by_cases hz0 : z = 0
                        · have dz : ((z : Int) == 0) = true := by simp; omega
                          have hRR : R = (N0, 0, 2) := by rw [HN0.out, ← HRL.out]; exact rdL_mal h64 HF.out h0 h240 (by rw [← HZ.out, ← HQ.out]; omega)
                          have HRR := Lib.hid hRR
                          clear hRR
                          have hrg := X112.range 0 (iv N0) (fun j v hv => by rw [Nat.zero_add]; exact hv)
                          obtain ⟨XR, hbr, hth⟩ := ret_factsP HD_N0.out X8 HD_N0.out hb2 (by rw [HRQ.out]; exact Nat.le_refl _)
                          have hone := one_iv N0
                          go_upto_region 32 with fail
                          go_wp2_with (first | ((with_reducible refine bp_id ?_); exact bodyPost_ret (results_row3 (P := Try.prog) rfl _ _ rb 70 (iv N0).toArray (0, 0) _ rfl XR Try.underlying70 rfl (by rw [show (iv N0).toArray.size = 64 from (iv_len N0).trans HD_N0.out]; kernel_rfl)) rfl ⟨by rw [HRR.out]; first | rfl | (simp only [Int.natCast_add]; rfl), hbr⟩) | refine wpList_load_mid rfl 70 (.tmp 11) rfl _ _ rfl (iv N0) _ hrg Try.underlying70 rfl (by rw [iv_len, HD_N0.out]; kernel_rfl) ?_ | refine wpList_store_mid rfl 70 (.tmp 8) (.tmp 118) rfl _ _ (iv N0).toArray rfl rfl hth (by rw [show (iv N0).toArray.size = 64 from (iv_len N0).trans HD_N0.out]; kernel_rfl) (all_oneCell_toArray hone) ?_)
                        · have dz : ((z : Int) == 0) = false := by simp; omega
                          by_cases h10 : 10 < z
                          · have d10 : decide ((10 : Int) < (z : Int)) = true := decide_eq_true (by omega)
                            have hRR : R = (N0, 0, 2) := by rw [HN0.out, ← HRL.out]; exact rdL_mal h64 HF.out h0 h240 (by rw [← HZ.out, ← HQ.out]; omega)
                            have HRR := Lib.hid hRR
                            clear hRR
                            have hrg := X112.range 0 (iv N0) (fun j v hv => by rw [Nat.zero_add]; exact hv)
                            obtain ⟨XR, hbr, hth⟩ := ret_factsP HD_N0.out X8 HD_N0.out hb2 (by rw [HRQ.out]; exact Nat.le_refl _)
                            have hone := one_iv N0
                            go_upto_region 32 with fail
                            go_wp2_with (first | ((with_reducible refine bp_id ?_); exact bodyPost_ret (results_row3 (P := Try.prog) rfl _ _ rb 70 (iv N0).toArray (0, 0) _ rfl XR Try.underlying70 rfl (by rw [show (iv N0).toArray.size = 64 from (iv_len N0).trans HD_N0.out]; kernel_rfl)) rfl ⟨by rw [HRR.out]; first | rfl | (simp only [Int.natCast_add]; rfl), hbr⟩) | refine wpList_load_mid rfl 70 (.tmp 11) rfl _ _ rfl (iv N0) _ hrg Try.underlying70 rfl (by rw [iv_len, HD_N0.out]; kernel_rfl) ?_ | refine wpList_store_mid rfl 70 (.tmp 8) (.tmp 118) rfl _ _ (iv N0).toArray rfl rfl hth (by rw [show (iv N0).toArray.size = 64 from (iv_len N0).trans HD_N0.out]; kernel_rfl) (all_oneCell_toArray hone) ?_)
                          · have d10 : decide ((10 : Int) < (z : Int)) = false := decide_eq_false (by omega)
                            by_cases ht63 : 63 < t
                            · have d63 : decide ((63 : Int) < (t : Int)) = true := decide_eq_true (by omega)
                              have ht63' : 63 < i + q := by have := HT.out; omega
                              have hRR : R = (N0, 0, 2) := by rw [HN0.out, ← HRL.out]; exact rdL_mal h64 HF.out h0 h240 (by rw [← HZ.out, ← HQ.out]; omega)
                              have HRR := Lib.hid hRR
                              clear hRR
                              have hrg := X112.range 0 (iv N0) (fun j v hv => by rw [Nat.zero_add]; exact hv)
                              obtain ⟨XR, hbr, hth⟩ := ret_factsP HD_N0.out X8 HD_N0.out hb2 (by rw [HRQ.out]; exact Nat.le_refl _)
                              have hone := one_iv N0
                              go_upto_region 32 with fail
                              go_wp2_with (first | ((with_reducible refine bp_id ?_); exact bodyPost_ret (results_row3 (P := Try.prog) rfl _ _ rb 70 (iv N0).toArray (0, 0) _ rfl XR Try.underlying70 rfl (by rw [show (iv N0).toArray.size = 64 from (iv_len N0).trans HD_N0.out]; kernel_rfl)) rfl ⟨by rw [HRR.out]; first | rfl | (simp only [Int.natCast_add]; rfl), hbr⟩) | refine wpList_load_mid rfl 70 (.tmp 11) rfl _ _ rfl (iv N0) _ hrg Try.underlying70 rfl (by rw [iv_len, HD_N0.out]; kernel_rfl) ?_ | refine wpList_store_mid rfl 70 (.tmp 8) (.tmp 118) rfl _ _ (iv N0).toArray rfl rfl hth (by rw [show (iv N0).toArray.size = 64 from (iv_len N0).trans HD_N0.out]; kernel_rfl) (all_oneCell_toArray hone) ?_)
                            · have d63 : decide ((63 : Int) < (t : Int)) = false := decide_eq_false (by omega)
                              have ht63' : ¬ 63 < i + q := by have := HT.out; omega
                              by_cases hl : nl < p + z
                              · have dl : decide ((nl : Int) - (p : Int) < (z : Int)) = true := decide_eq_true (by omega)
                                have hRR : R = (N0, 0, 8) := by rw [HN0.out, ← HRL.out]; exact rdL_end h64 HF.out h0 h240 (by rw [← HZ.out, ← HQ.out]; omega) (by rw [← HZ.out, HNL.out, ← HP.out]; exact hl)
                                have HRR := Lib.hid hRR
                                clear hRR
                                have hrg := X112.range 0 (iv N0) (fun j v hv => by rw [Nat.zero_add]; exact hv)
                                obtain ⟨XR, hbr, hth⟩ := ret_factsP HD_N0.out X8 HD_N0.out hb2 (by rw [HRQ.out]; exact Nat.le_refl _)
                                have hone := one_iv N0
                                go_upto_region 34 with fail
                                go_wp2_with (first | ((with_reducible refine bp_id ?_); exact bodyPost_ret (results_row3 (P := Try.prog) rfl _ _ rb 70 (iv N0).toArray (0, 0) _ rfl XR Try.underlying70 rfl (by rw [show (iv N0).toArray.size = 64 from (iv_len N0).trans HD_N0.out]; kernel_rfl)) rfl ⟨by rw [HRR.out]; first | rfl | (simp only [Int.natCast_add]; rfl), hbr⟩) | refine wpList_load_mid rfl 70 (.tmp 11) rfl _ _ rfl (iv N0) _ hrg Try.underlying70 rfl (by rw [iv_len, HD_N0.out]; kernel_rfl) ?_ | refine wpList_store_mid rfl 70 (.tmp 8) (.tmp 126) rfl _ _ (iv N0).toArray rfl rfl hth (by rw [show (iv N0).toArray.size = 64 from (iv_len N0).trans HD_N0.out]; kernel_rfl) (all_oneCell_toArray hone) ?_)
                              · have dl : decide ((nl : Int) - (p : Int) < (z : Int)) = false := decide_eq_false (by omega)
                                have hpz : p + z - p = z := by omega
                                have hpc : (p : Int) + (z : Int) ≤ (cl : Int) := by omega
                                have htn : t < 64 := by omega
                                obtain ⟨v, hvq⟩ : ∃ v, v = vaZ (hv ((b.drop p).take z)) (z : Int) := ⟨_, rfl⟩
                                have hvb := vaN_bd (hv ((b.drop p).take z)) z (by omega)
                                rw [← hvq] at hvb
                                have HV := Lib.hid hvq
                                obtain ⟨hz1', hz2', hz3'⟩ := zzN_bd t htn
                                have eo := XZ2.cell (i := t) (ivs_get (by rw [HLL.out]; exact htn))
                                rw [HZL.out, hz2'] at eo
                                obtain ⟨y, hyq⟩ : ∃ y, y = zzN t := ⟨_, rfl⟩
                                rw [← hyq] at eo hz1'
                                have HY := Lib.hid hyq
                                have hy0 : (0 : Int) ≤ (y : Int) := by omega
                                have hy1 : (y : Int) < 64 := by omega
                                have ht0 : (0 : Int) ≤ (t : Int) := by omega
                                have ht1 : (t : Int) < 64 := by omega
                                have htl : ((b.drop p).take z).length = z := by rw [List.length_take, List.length_drop, HNL.out]; omega
                                have HTL := Lib.hid htl
                                have hRl0 : Rd w w.heap.size Al (iv b) := by
                                  have h := HRL0.out
                                  rw [← HRQ.out] at h
                                  exact h
                                have hRlo := (hRl0.below hb2).more hb2.size
                                have htk := take_rd (cut_rd hRlo (by rw [HNL.out]; exact hncl) hcl p (by rw [HNL.out]; exact hpn)) z
                                have cf := X172.fz (i := y) (by rw [iv_len, HD_out.out]; exact hz1')
                                have cc := X172.cell (i := y) (ivs_get (by rw [HD_out.out]; exact hz1'))
                                have hob3 := X172.lt
                                obtain ⟨A', hA'⟩ : ∃ A', (if cl = p then Al else Option.map (fun x => x.add p) Al) = A' := ⟨_, rfl⟩
                                rw [hA'] at htk
                                have hw1 : IntKind.i64.wrap ((p : Int) + (z : Int)) = (p : Int) + (z : Int) := IntWalk.i64_in _ (by omega)
                                have hp0' : (0 : Int) ≤ (p : Int) := by omega
                                have hpp' : (p : Int) ≤ (p : Int) + (z : Int) := by omega
                                have hpt' : ((p : Int) + (z : Int)).toNat = p + z := by omega
                                clear hvq hyq htl hRl0 hRlo hz2' hz3'
                                go_upto_region 35 with fail
                                rw [e1]
                                go_cut [138] from 127 to 139 (fun _ wx => Bln wx rb 70 (iv N0) ∧ Bln wx nb 70 (iv N0) ∧ Bln wx zb 39 (iv ZL) ∧ Bln wx ob 70 (iv (out.set y v)) ∧ Below w.heap.size w wx)
                                case first =>
                                  have X17s := X172.set y (.int .i64 v)
                                  rw [iv_set] at X17s
                                  have hfs := fun (W : World) => Fr.setCell (S := fun k => k = ob) (a := W) (Fr.refl _ _) (p := ⟨ob, y, none⟩) (.inl rfl) (.int .i64 v)
                                  have X8s := X8.keep (hfs _) (by omega)
                                  have X11s := X112.keep (hfs _) (by omega)
                                  have XZs := XZ2.keep (hfs _) (by omega)
                                  have hbs := hb2.setCell (p := ⟨ob, y, none⟩) (by show w.heap.size ≤ ob; rw [HRQ.out]; omega) (.int .i64 v)
                                  have eo2 := XZs.cell (i := t) (ivs_get (by rw [HLL.out]; exact htn))
                                  rw [HZL.out, (zzN_bd t htn).2.1, ← HY.out] at eo2
                                  have HX := Lib.hid (And.intro X8s (And.intro X11s (And.intro XZs (And.intro X17s hbs))))
                                  clear X17s hfs X8s X11s XZs hbs
                                  go_region_held3 (fun w' => w'.cell? ⟨zb, t, none⟩ = some (.int .i64 (y : Int)))
                                    (first | exact eo | exact eo2 | go_keep | assumption)
                                    (first | (go_at_call 127; refine (number_any A' z _ _ true _ _ HTL.out (by first | exact htk | exact htk.drew | exact htk.drewN _) ((HB01.out.drop p).take z) (by omega)).mono ?_; rintro e w' ⟨rfl, rfl⟩; rw [part_hv _ _ HTL.out]) | (go_at_call 43; refine (rvalue_any _ _ _).mono ?_; rintro e w' ⟨rfl, rfl⟩; rw [← HV.out]))
                                  all_goals go_wp2_with fail
                                  all_goals go_meet
                                  all_goals exact ⟨HX.out.1, HX.out.2.1, HX.out.2.2.1, HX.out.2.2.2.1, below_drewN HX.out.2.2.2.2 1⟩
                                case rest =>
                                  obtain ⟨Y8, Y11, YZ, Y17, hb3⟩ := hcut
                                  go_wp2_with fail
                                  go_roundw
                                  case rel =>
                                    refine ⟨t + 1, p + z, out.set y v, by go_num, by go_num, by omega, by omega, by omega, by rw [List.length_set, HD_out.out], Lib.hid ?_, Y8, Y11, YZ, Y17, hb3⟩
                                    have hg := rdL_go (S := S2) (Z := Z2) (out := out) h64 HF.out h0 h240 (by rw [← HZ.out, ← HQ.out]; omega) (by rw [← HZ.out, HNL.out, ← HP.out]; omega)
                                    rw [← HZ.out, ← HQ.out, ← HP.out, ← HT.out, ← HY.out, ← HV.out, HRL.out] at hg
                                    exact hg.symm
                                  case measure => simp [intOf]; omega
                  · clear hr
                    have hRR : R = (N0, 0, er) := by rw [HN0.out, ← HRL.out]; exact rdL_bad h64 HF.out he
                    have HRR := Lib.hid hRR
                    clear hRR
                    have hrg := X112.range 0 (iv N0) (fun j v hv => by rw [Nat.zero_add]; exact hv)
                    obtain ⟨XR, hbr, hth⟩ := ret_factsP HD_N0.out X8 HD_N0.out hb2 (by rw [HRQ.out]; exact Nat.le_refl _)
                    have hone := one_iv N0
                    go_upto_region 21 with fail
                    go_wp2_with (first | ((with_reducible refine bp_id ?_); exact bodyPost_ret (results_row3 (P := Try.prog) rfl _ _ rb 70 (iv N0).toArray (0, 0) _ rfl XR Try.underlying70 rfl (by rw [show (iv N0).toArray.size = 64 from (iv_len N0).trans HD_N0.out]; kernel_rfl)) rfl ⟨by rw [HRR.out]; first | rfl | (simp only [Int.natCast_add]; rfl), hbr⟩) | refine wpList_load_mid rfl 70 (.tmp 11) rfl _ _ rfl (iv N0) _ hrg Try.underlying70 rfl (by rw [iv_len, HD_N0.out]; kernel_rfl) ?_ | refine wpList_store_mid rfl 70 (.tmp 8) (.tmp 85) rfl _ _ (iv N0).toArray rfl rfl hth (by rw [show (iv N0).toArray.size = 64 from (iv_len N0).trans HD_N0.out]; kernel_rfl) (all_oneCell_toArray hone) ?_)
              · have d64 : decide ((i : Int) < 64) = false := decide_eq_false (by omega)
                have hRR : R = (out, a, 0) := by rw [← HRL.out]; exact rdL_out h64
                have HRR := Lib.hid hRR
                clear hRR
                have hrg := X17.range 0 (iv out) (fun j v hv => by rw [Nat.zero_add]; exact hv)
                obtain ⟨XR, hbr, hth⟩ := ret_factsP HD_N0.out X8 HD_out.out hb (by rw [HRQ.out]; exact Nat.le_refl _)
                have hone := one_iv out
                go_upto_region 38 with fail
                go_wp2_with (first | ((with_reducible refine bp_id ?_); exact bodyPost_ret (results_row3 (P := Try.prog) rfl _ _ rb 70 (iv out).toArray (0, 0) _ rfl XR Try.underlying70 rfl (by rw [show (iv out).toArray.size = 64 from (iv_len out).trans HD_out.out]; kernel_rfl)) rfl ⟨by rw [HRR.out]; first | rfl | (simp only [Int.natCast_add]; rfl), hbr⟩) | refine wpList_load_mid rfl 70 (.tmp 17) rfl _ _ rfl (iv out) _ hrg Try.underlying70 rfl (by rw [iv_len, HD_out.out]; kernel_rfl) ?_ | refine wpList_store_mid rfl 70 (.tmp 8) (.tmp 145) rfl _ _ (iv out).toArray rfl rfl hth (by rw [show (iv out).toArray.size = 64 from (iv_len out).trans HD_out.out]; kernel_rfl) (all_oneCell_toArray hone) ?_)
          · have HDC := Lib.hid (decide_eq_false hdc)
            have hRR : R = (N0, 0, 2) := by rw [HN0.out, ← HR.out]; exact rdB_dc HF.out h11 (by rw [HNL.out]; exact hl) (by rw [← HV.out]; exact hdc)
            have HRR := Lib.hid hRR
            clear hRR
            have hrg := X11w.range 0 (iv N0) (fun j v hv => by rw [Nat.zero_add]; exact hv)
            obtain ⟨XR, hbr, hth⟩ := ret_factsP HD_N0.out X8 HD_N0.out hb (by rw [HRQ.out]; exact Nat.le_refl _)
            have hone := one_iv N0
            go_upto_region 13 with ((go_at_call 51; refine (rdc_any _ _).mono ?_; rintro e w' ⟨rfl, rfl⟩; rw [HDC.out]))
            go_wp2_with (first | ((with_reducible refine bp_id ?_); exact bodyPost_ret (results_row3 (P := Try.prog) rfl _ _ rb 70 (iv N0).toArray (0, 0) _ rfl XR Try.underlying70 rfl (by rw [show (iv N0).toArray.size = 64 from (iv_len N0).trans HD_N0.out]; kernel_rfl)) rfl ⟨by rw [HRR.out]; first | rfl | (simp only [Int.natCast_add]; rfl), hbr⟩) | refine wpList_load_mid rfl 70 (.tmp 11) rfl _ _ rfl (iv N0) _ hrg Try.underlying70 rfl (by rw [iv_len, HD_N0.out]; kernel_rfl) ?_ | refine wpList_store_mid rfl 70 (.tmp 8) (.tmp 64) rfl _ _ (iv N0).toArray rfl rfl hth (by rw [show (iv N0).toArray.size = 64 from (iv_len N0).trans HD_N0.out]; kernel_rfl) (all_oneCell_toArray hone) ?_)
  · clear hr
    have hRR : R = (N0, 0, er) := by rw [HN0.out, ← HR.out]; exact rdB_bad HF.out he
    have HRR := Lib.hid hRR
    clear hRR
    have hrg := X11w.range 0 (iv N0) (fun j v hv => by rw [Nat.zero_add]; exact hv)
    obtain ⟨XR, hbr, hth⟩ := ret_factsP HD_N0.out X8 HD_N0.out hb (by rw [HRQ.out]; exact Nat.le_refl _)
    have hone := one_iv N0
    go_upto_region 5 with fail
    go_wp2_with (first | ((with_reducible refine bp_id ?_); exact bodyPost_ret (results_row3 (P := Try.prog) rfl _ _ rb 70 (iv N0).toArray (0, 0) _ rfl XR Try.underlying70 rfl (by rw [show (iv N0).toArray.size = 64 from (iv_len N0).trans HD_N0.out]; kernel_rfl)) rfl ⟨by rw [HRR.out]; first | rfl | (simp only [Int.natCast_add]; rfl), hbr⟩) | refine wpList_load_mid rfl 70 (.tmp 11) rfl _ _ rfl (iv N0) _ hrg Try.underlying70 rfl (by rw [iv_len, HD_N0.out]; kernel_rfl) ?_ | refine wpList_store_mid rfl 70 (.tmp 8) (.tmp 34) rfl _ _ (iv N0).toArray rfl rfl hth (by rw [show (iv N0).toArray.size = 64 from (iv_len N0).trans HD_N0.out]; kernel_rfl) (all_oneCell_toArray hone) ?_)
end Go.Proofs.Ytlhappecjjbopaa
