/-
  SampleWidens: what any number is widened and narrowed to is what the document says. No condition.
-/
import Derived.Test.YtkmgojoojboidaaSaB
namespace Go.Proofs.Ytkmgojoojboidaa
open Go.ChangeShapes Go.WideShapes Go.ChangeAt Go.WideMaps Go.WideElems Go.RowKit Go.Joins
set_option linter.unusedVariables false

theorem step_top {d : Int} (h : Dp d) : stepD d * topD d = 65535 := by unfold Dp at h; rcases h with rfl | rfl | rfl | rfl | rfl <;> decide
theorem topD_bd (d : Int) : 1 ≤ topD d ∧ topD d ≤ 65535 := by unfold topD; repeat' split <;> omega
theorem widened {n d : Int} (h : Dp d) (h0 : 0 ≤ n) (h1 : n ≤ topD d) : Nar (n * stepD d) d ∧ narr (n * stepD d) d = n ∧ n * stepD d * topD d = n * 65535 ∧ 0 ≤ n * stepD d ∧ n * stepD d ≤ 65535 := by
  have hs := stepD_pos d
  have ht := step_top h
  have hw0 : 0 ≤ n * stepD d := Int.mul_nonneg h0 (by omega)
  have hw1 : n * stepD d ≤ 65535 := by
    have := Int.mul_le_mul_of_nonneg_right h1 (show 0 ≤ stepD d by omega)
    rw [Int.mul_comm (topD d)] at this
    omega
  have hN : Nar (n * stepD d) d := ⟨h, hw0, hw1, Int.mul_emod_left _ _⟩
  exact ⟨hN, by rw [narr_yes hN, Int.mul_ediv_cancel _ (by omega)], by rw [Int.mul_assoc, ht], hw0, hw1⟩

/-- the end: the number itself narrowed -/
theorem sampleWidens_any (w : World) (n : Int) (hn : -9223372036854775808 ≤ n ∧ n ≤ 9223372036854775807) (d : Int) (hd : -9223372036854775808 ≤ d ∧ d ≤ 9223372036854775807) :
    Calls Try.prog 5 #[.int .i64 n, .int .i64 d] w fun e w' => e = .returned (.bool true) ∧ Below w.heap.size w w' := by
  have hnl : (narr n d : Int) ≤ 65535 ∧ -1 ≤ narr n d := by
    by_cases h : Nar n d
    · rw [narr_yes h]
      have := h.2.1; have := h.2.2.1
      have h1 := Int.ediv_le_self (stepD d) h.2.1
      have h2 := Int.ediv_nonneg h.2.1 (show 0 ≤ stepD d by have := stepD_pos d; omega)
      omega
    · rw [narr_no h]; omega
  by_cases hD : Dp d
  · by_cases hr : n < 0 ∨ topD d < n
    · have htb := topD_bd d
      go_enter Try.func5, Try.ntmps5
      go_wp2_with fail
      refine (widen_is 1 2 (by decide) (by omega) (by decide) _).mono ?_; rintro e w1 ⟨rfl, hb1⟩
      rw [show (1 : Int) * stepD 2 = 21845 from by decide]
      go_wp2_with fail
      refine (widen_out n d hD hn hr _).mono ?_; rintro e w2 ⟨rfl, hb2⟩
      unfold errV
      have hb2' := hb1.trans (hb2.mono hb1.size)
      have HR := Lib.hid hr
      clear hr
      go_wp2_with fail
      refine (rdeep_is d true (by simp [hD]) _).mono ?_; rintro e w' ⟨rfl, rfl⟩
      by_cases hlt : n < 0
      · go_wp2_with fail
        refine (is_err 7 7 (by omega) _).mono ?_; rintro e w' ⟨rfl, rfl⟩
        go_wp2_with fail
        refine (narrow_out n d (fun h => by have := h.2.1; omega) hn _).mono ?_; rintro e w3 ⟨rfl, hb3⟩
        go_wp2_with fail
        refine (rnarrow_any n d _).mono ?_; rintro e w' ⟨rfl, rfl⟩
        have hm : narr n d = -1 := narr_no (fun h => by have := h.2.1; omega)
        rw [hm]
        go_wp2
        go_ret
        exact ⟨rfl, hb2'.trans (hb3.mono hb2'.size)⟩
      · go_wp2_with fail
        refine (top_any d hD _).mono ?_; rintro e w' ⟨rfl, rfl⟩
        have hgt : topD d < n := by have := HR.out; omega
        go_wp2_with fail
        refine (is_err 7 7 (by omega) _).mono ?_; rintro e w' ⟨rfl, rfl⟩
        by_cases hN : Nar n d
        · go_wp2_with fail
          refine (narrow_in n d hN _).mono ?_; rintro e w3 ⟨rfl, hb3⟩
          go_wp2_with fail
          refine (rnarrow_any n d _).mono ?_; rintro e w' ⟨rfl, rfl⟩
          have h0 := narr_nonneg.2 hN
          go_wp2
          go_ret
          exact ⟨rfl, hb2'.trans (hb3.mono hb2'.size)⟩
        · go_wp2_with fail
          refine (narrow_out n d hN hn _).mono ?_; rintro e w3 ⟨rfl, hb3⟩
          go_wp2_with fail
          refine (rnarrow_any n d _).mono ?_; rintro e w' ⟨rfl, rfl⟩
          rw [narr_no hN]
          go_wp2
          go_ret
          exact ⟨rfl, hb2'.trans (hb3.mono hb2'.size)⟩
    · have htb := topD_bd d
      have h0 : 0 ≤ n := by omega
      have h1 : n ≤ topD d := by omega
      obtain ⟨hW, hk, hm, hw0, hw1⟩ := widened hD h0 h1
      have hm1 : n * stepD d * topD d ≤ n * 65535 := by omega
      have hm2 : n * 65535 ≤ n * stepD d * topD d := by omega
      have HK := Lib.hid hk
      clear hk hm hr
      go_enter Try.func5, Try.ntmps5
      go_wp2_with fail
      refine (widen_is 1 2 (by decide) (by omega) (by decide) _).mono ?_; rintro e w1 ⟨rfl, hb1⟩
      rw [show (1 : Int) * stepD 2 = 21845 from by decide]
      go_wp2_with fail
      refine (widen_is n d hD h0 h1 _).mono ?_; rintro e w2 ⟨rfl, hb2⟩
      have hb2' := hb1.trans (hb2.mono hb1.size)
      go_wp2_with fail
      refine (rdeep_is d true (by simp [hD]) _).mono ?_; rintro e w' ⟨rfl, rfl⟩
      go_wp2_with fail
      refine (top_any d hD _).mono ?_; rintro e w' ⟨rfl, rfl⟩
      go_wp2_with fail
      refine (narrow_in (n * stepD d) d hW _).mono ?_; rintro e w3 ⟨rfl, hb3⟩
      rw [HK.out]
      have hb3' := hb2'.trans (hb3.mono hb2'.size)
      go_wp2_with fail
      refine (top_any d hD _).mono ?_; rintro e w' ⟨rfl, rfl⟩
      by_cases hN : Nar n d
      · go_wp2_with fail
        refine (narrow_in n d hN _).mono ?_; rintro e w4 ⟨rfl, hb4⟩
        go_wp2_with fail
        refine (rnarrow_any n d _).mono ?_; rintro e w' ⟨rfl, rfl⟩
        have h0 := narr_nonneg.2 hN
        go_wp2
        go_ret
        exact ⟨rfl, hb3'.trans (hb4.mono hb3'.size)⟩
      · go_wp2_with fail
        refine (narrow_out n d hN hn _).mono ?_; rintro e w4 ⟨rfl, hb4⟩
        go_wp2_with fail
        refine (rnarrow_any n d _).mono ?_; rintro e w' ⟨rfl, rfl⟩
        rw [narr_no hN]
        go_wp2
        go_ret
        exact ⟨rfl, hb3'.trans (hb4.mono hb3'.size)⟩
  · go_enter Try.func5, Try.ntmps5
    go_wp2_with fail
    refine (widen_is 1 2 (by decide) (by omega) (by decide) _).mono ?_; rintro e w1 ⟨rfl, hb1⟩
    rw [show (1 : Int) * stepD 2 = 21845 from by decide]
    go_wp2_with fail
    refine (widen_form n d hD _).mono ?_; rintro e w2 ⟨rfl, hb2⟩
    unfold errV
    have hb2' := hb1.trans (hb2.mono hb1.size)
    go_wp2_with fail
    refine (rdeep_is d false (by simp [hD]) _).mono ?_; rintro e w' ⟨rfl, rfl⟩
    go_wp2_with fail
    refine (is_err 6 6 (by omega) _).mono ?_; rintro e w' ⟨rfl, rfl⟩
    go_wp2_with fail
    refine (narrow_form n d hD _).mono ?_; rintro e w3 ⟨rfl, hb3⟩
    go_wp2_with fail
    refine (rnarrow_any n d _).mono ?_; rintro e w' ⟨rfl, rfl⟩
    rw [narr_no (fun h => hD h.1)]
    go_wp2
    go_ret
    exact ⟨rfl, hb2'.trans (hb3.mono hb2'.size)⟩
namespace SampleWidens
theorem own : ownKnob Try.prog.godebug = none := by kernel_rfl
theorem laid : laidOutB Try.prog = true := by kernel_rfl

theorem contract (H : Type) (enc : TypeId × Value → H) (W : World) (base : Nat) (args : Array Value) (ds gs : List (DataW H)) (before : List MemPlace)
    (hval : ∀ (j : Nat) t v, Try.f5.params[j]? = some t → args[j]? = some v → Value.okWide Try.prog W .any base t v)
    (hW : DataW.Whole enc Try.prog Try.f5.params.toList Rows.sampleWidensSpec.vars false W args.toList ds gs before) :
    Calls Try.prog 5 args W fun e W' => ∃ v, e = .returned v ∧ Rows.sampleWidensSpec.post enc Try.prog Try.f5 false true false false W args v W' := by
  have hW' := hW
  obtain ⟨p, q, hA0, hV, rfl, hfz, hnd⟩ := hW
  have hA : DataW.TrodAll enc Try.prog W 0 (fun _ => true) true Try.f5.params.toList args.toList ds p := hA0
  rw [Try.params5] at hA hval
  clear hA0
  obtain ⟨v0, vs0, d0, ds0, p0, q0, hargs, rfl, rfl, h0, r0⟩ := trodAll_cons hA
  obtain ⟨v1, vs1, d1, ds1, p1, q1, rfl, rfl, rfl, h1, r1⟩ := trodAll_cons r0
  obtain ⟨rfl, rfl, rfl⟩ := trodAll_nil r1
  obtain rfl : args = #[v0, v1] := by cases args; simp_all
  obtain ⟨rfl, rfl⟩ := trodVars_none hV
  obtain ⟨x0, rfl, rfl, rfl, wx0⟩ := open_int Try.underlying3 (hval 0 _ _ rfl rfl) h0
  obtain ⟨x1, rfl, rfl, rfl, wx1⟩ := open_int Try.underlying3 (hval 1 _ _ rfl rfl) h1
  refine (sampleWidens_any W x0 (wf_i wx0) x1 (wf_i wx1)).mono fun e W' ⟨he, hb⟩ => ?_
  subst he
  exact ⟨_, rfl, post_true laid hW' rfl rfl Try.underlying4 (by kernel_rfl) rfl hb⟩

set_option maxRecDepth 100000 in
theorem lifted (os : Os) (started : os.Started) (H : Type) (enc : TypeId × Value → H) :
    ReturnsInHanded {} Try.checked os 5 .any (Rows.sampleWidensSpec.pre6 enc Try.prog Try.f5 Rows.sampleWidensRow.domain false) (Rows.sampleWidensSpec.post enc Try.prog Try.f5 false true false false) := by
  refine returnsInHanded_of_change (C := Try.checked) own started (by kernel_rfl) Try.func5
    (ChangeSpec.witness6 (enc := enc) (C := Try.checked) (os := os) false ⟨#[], #[.int .i64 0, .int .i64 0], []⟩ 8 (by kernel_rfl) (by kernel_rfl) (by kernel_rfl) (by kernel_rfl)) ?_
  intro W base args ds gs before hval hW _ _
  exact contract H enc W base args ds gs before hval hW

theorem proved : Rows.SampleWidensSaid :=
  OpenClaim.holds_of_wide 5 Try.f5 rfl rfl rfl rfl rfl rfl rfl ⟨rfl, rfl, rfl, rfl, rfl⟩ rfl rfl rfl rfl rfl (by kernel_rfl) Try.func5 (by kernel_rfl)
    (of_decide_eq_true (by kernel_rfl)) (by unfold Func.isWrapper; first | (rw [if_pos (by decide +kernel)]; kernel_rfl) | (rw [if_neg (by decide +kernel)]; exact ⟨rfl, rfl⟩))
    (fun os started H enc _ => lifted os started H enc)
end SampleWidens
#print axioms SampleWidens.proved
end Go.Proofs.Ytkmgojoojboidaa
