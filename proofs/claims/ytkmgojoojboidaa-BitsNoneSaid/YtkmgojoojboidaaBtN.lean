/-
  BitsNone: what a nil writer and reader answer. No condition.
-/
import Derived.Test.YtkmgojoojboidaaBtA
import Derived.Test.YtkmgojoojboidaaFacts
namespace Go.Proofs.Ytkmgojoojboidaa
open Go.ChangeShapes Go.WideShapes Go.ChangeAt Go.WideMaps Go.WideElems Go.RowKit Go.Joins
set_option linter.unusedVariables false
set_option maxRecDepth 100000

set_option maxHeartbeats 1000000 in
theorem bitsNone_any (w : World) (n : Int) (hn : -9223372036854775808 ≤ n ∧ n ≤ 9223372036854775807) (c : Int) (hc : -9223372036854775808 ≤ c ∧ c ≤ 9223372036854775807) :
    Calls Try.prog 10 #[.int .i64 n, .int .i64 c] w fun e w' => e = .returned (.bool true) ∧ Below w.heap.size w w' := by
  by_cases h1 : 0 ≤ c ∧ c ≤ 32
  · go_enter Try.func10, Try.ntmps10
    go_wp2_with fail
    refine (alive03_any w).mono ?_; rintro e w1 ⟨rfl, hb1⟩
    go_wp2_with fail
    refine (align_nil w1).mono ?_; rintro e w' ⟨rfl, rfl⟩
    go_wp2_with fail
    refine (ralign_nil w1).mono ?_; rintro e w' ⟨rfl, rfl⟩
    go_wp2_with fail
    refine (take_nil c h1 w1).mono ?_; rintro e w' ⟨rfl, rfl⟩
    unfold errV
    go_wp2_with fail
    refine (put_nil n c w1).mono ?_; rintro e w' ⟨rfl, rfl⟩
    unfold errV
    go_wp2_with fail
    refine (is_err 7 7 (by omega) w1).mono ?_; rintro e w' ⟨rfl, rfl⟩
    go_wp2_with fail
    refine (is_err 8 8 (by omega) w1).mono ?_; rintro e w' ⟨rfl, rfl⟩
    go_wp2_with (first
      | (go_at_call 36; refine (bytes_nil w1).mono ?_; rintro e w' ⟨rfl, rfl⟩)
      | (go_at_call 31; refine (high_nil w1).mono ?_; rintro e w' ⟨rfl, rfl⟩)
      | (go_at_call 38; refine (wlen_nil w1).mono ?_; rintro e w' ⟨rfl, rfl⟩)
      | (go_at_call 48; refine (at_nil w1).mono ?_; rintro e w' ⟨rfl, rfl⟩)
      | (go_at_call 49; refine (left_nil w1).mono ?_; rintro e w' ⟨rfl, rfl⟩))
    go_ret
    exact ⟨rfl, hb1⟩
  · by_cases h2 : c < 0
    all_goals
      go_enter Try.func10, Try.ntmps10
      go_wp2_with fail
      refine (alive03_any w).mono ?_; rintro e w1 ⟨rfl, hb1⟩
      go_wp2_with fail
      refine (align_nil w1).mono ?_; rintro e w' ⟨rfl, rfl⟩
      go_wp2_with fail
      refine (ralign_nil w1).mono ?_; rintro e w' ⟨rfl, rfl⟩
      go_wp2_with fail
      refine (take_range none c h1 w1).mono ?_; rintro e w' ⟨rfl, rfl⟩
      unfold errV
      go_wp2_with fail
      refine (put_nil n c w1).mono ?_; rintro e w' ⟨rfl, rfl⟩
      unfold errV
      go_wp2_with fail
      refine (is_err 7 7 (by omega) w1).mono ?_; rintro e w' ⟨rfl, rfl⟩
      go_wp2_with fail
      refine (is_err 7 7 (by omega) w1).mono ?_; rintro e w' ⟨rfl, rfl⟩
      go_wp2_with (first
        | (go_at_call 36; refine (bytes_nil w1).mono ?_; rintro e w' ⟨rfl, rfl⟩)
        | (go_at_call 31; refine (high_nil w1).mono ?_; rintro e w' ⟨rfl, rfl⟩)
        | (go_at_call 38; refine (wlen_nil w1).mono ?_; rintro e w' ⟨rfl, rfl⟩)
        | (go_at_call 48; refine (at_nil w1).mono ?_; rintro e w' ⟨rfl, rfl⟩)
        | (go_at_call 49; refine (left_nil w1).mono ?_; rintro e w' ⟨rfl, rfl⟩))
      go_ret
      exact ⟨rfl, hb1⟩

namespace BitsNone
set_option maxRecDepth 100000 in
theorem contract (H : Type) (enc : TypeId × Value → H) (W : World) (base : Nat) (args : Array Value) (ds gs : List (DataW H)) (before : List MemPlace)
    (hval : ∀ (j : Nat) t v, Try.f10.params[j]? = some t → args[j]? = some v → Value.okWide Try.prog W .any base t v)
    (hW : DataW.Whole enc Try.prog Try.f10.params.toList Rows.bitsNoneSpec.vars false W args.toList ds gs before) :
    Calls Try.prog 10 args W fun e W' => ∃ v, e = .returned v ∧ Rows.bitsNoneSpec.post enc Try.prog Try.f10 false true false false W args v W' := by
  have hW' := hW
  obtain ⟨p, q, hA0, hV, rfl, hfz, hnd⟩ := hW
  have hA : DataW.TrodAll enc Try.prog W 0 (fun _ => true) true Try.f10.params.toList args.toList ds p := hA0
  rw [Try.params10] at hA hval
  clear hA0
  obtain ⟨v0, vs0, d0, ds0, p0, q0, hargs, rfl, rfl, h0, r0⟩ := trodAll_cons hA
  obtain ⟨v1, vs1, d1, ds1, p1, q1, rfl, rfl, rfl, h1, r1⟩ := trodAll_cons r0
  obtain ⟨rfl, rfl, rfl⟩ := trodAll_nil r1
  obtain rfl : args = #[v0, v1] := by cases args; simp_all
  obtain ⟨rfl, rfl⟩ := trodVars_none hV
  obtain ⟨x0, rfl, rfl, rfl, wx0⟩ := open_int Try.underlying3 (hval 0 _ _ rfl rfl) h0
  obtain ⟨x1, rfl, rfl, rfl, wx1⟩ := open_int Try.underlying3 (hval 1 _ _ rfl rfl) h1
  refine (bitsNone_any W x0 (wf_i wx0) x1 (wf_i wx1)).mono fun e W' ⟨he, hb⟩ => ?_
  subst he
  exact ⟨_, rfl, post_true Facts.laid hW' rfl rfl Try.underlying4 (by kernel_rfl) rfl hb⟩

set_option maxRecDepth 100000 in
theorem lifted (os : Os) (started : os.Started) (H : Type) (enc : TypeId × Value → H) :
    ReturnsInHanded {} Try.checked os 10 .any (Rows.bitsNoneSpec.pre6 enc Try.prog Try.f10 Rows.bitsNoneRow.domain false) (Rows.bitsNoneSpec.post enc Try.prog Try.f10 false true false false) := by
  refine returnsInHanded_of_change (C := Try.checked) Facts.own started (by kernel_rfl) Try.func10
    (ChangeSpec.witness6 (enc := enc) (C := Try.checked) (os := os) false ⟨#[], #[.int .i64 0, .int .i64 0], []⟩ 8 (by kernel_rfl) (by kernel_rfl) (by kernel_rfl) (by kernel_rfl)) ?_
  intro W base args ds gs before hval hW _ _
  exact contract H enc W base args ds gs before hval hW

theorem k_wf : Rows.bitsNoneRow.wf (OpenSpec.ofChange Rows.bitsNoneSpec) = true := by kernel_rfl
theorem k_inp : (Rows.bitsNoneRow.inPlace == Try.prog.inPlace 10) = true := by kernel_rfl
theorem k_unf : (Rows.bitsNoneRow.unfollowed == Try.prog.unfollowed 10) = true := by kernel_rfl
theorem k_rec : (Rows.bitsNoneRow.recurses == Try.prog.recurses 10) = true := by kernel_rfl
theorem k_nam : (Rows.bitsNoneRow.named == Try.prog.varsNamed 10) = true := by kernel_rfl
theorem k_pk : (Rows.bitsNoneRow.plainKeys == Try.prog.plainKeys) = true := (congrArg (fun x => Rows.bitsNoneRow.plainKeys == x) Facts.plainKeys).trans (by kernel_rfl)
theorem k_lf : (Rows.bitsNoneRow.lifted == Try.prog.liftsFinal) = true := (congrArg (fun x => Rows.bitsNoneRow.lifted == x) Facts.liftsFinal).trans (by kernel_rfl)
theorem k_mk : (Try.prog.make == some Rows.bitsNoneRow.make) = true := (congrArg (fun x => x == some Rows.bitsNoneRow.make) Facts.make).trans (by kernel_rfl)
theorem k_par : (Try.f10.params.all (Try.prog.readableRec ·)) = true := by kernel_rfl
theorem k_maps : (Rows.bitsNoneRow.maps == (Try.f10.params.toList ++ Rows.bitsNoneSpec.plain.varTypes Try.prog).any (Try.prog.mapsRec ·)) = true := by kernel_rfl
theorem k_ifs : (Rows.bitsNoneRow.ifaces == (Try.f10.params.toList ++ Rows.bitsNoneSpec.plain.varTypes Try.prog).any (Try.prog.ifacesRec ·)) = true := by kernel_rfl
theorem k_lps : (Rows.bitsNoneRow.loops == (Try.f10.params.toList ++ Rows.bitsNoneSpec.plain.varTypes Try.prog).any (Try.prog.loopsFrom ·)) = true := by kernel_rfl
theorem k_wk : (Rows.bitsNoneRow.wideKeys == (Try.f10.params.toList ++ Rows.bitsNoneSpec.plain.varTypes Try.prog ++ Try.f10.resultTypes.toList).any (Try.prog.wideKeysFrom ·)) = true := by kernel_rfl
theorem k_vl : (Rows.bitsNoneRow.veiled == (Try.f10.params.toList ++ Rows.bitsNoneSpec.plain.varTypes Try.prog ++ Try.f10.resultTypes.toList).any (Try.prog.veiledRec ·)) = true := by kernel_rfl
theorem closed : joinedFacts Try.prog 10 Try.f10 Rows.bitsNoneSpec Rows.bitsNoneRow = true :=
  Facts.and_i (Facts.and_i (Facts.and_i (Facts.and_i (Facts.and_i (Facts.and_i (Facts.and_i (Facts.and_i (Facts.and_i (Facts.and_i (Facts.and_i (Facts.and_i (Facts.and_i (Facts.and_i (Facts.and_i (Facts.and_i (Facts.and_i (Facts.and_i (Facts.and_i (Facts.and_i (Facts.and_i (Facts.and_i (Facts.and_i (Facts.and_i (Facts.and_i (Facts.and_i (Facts.and_i (Facts.and_i (Facts.and_i (Facts.and_i (Facts.and_i
    k_wf Facts.laid) Facts.mapsRowed_) k_par) rfl) rfl) Facts.stops) rfl) Facts.stopKnobs) k_inp) k_unf) k_rec) k_nam) k_maps) k_ifs) (by kernel_rfl)) k_lps) k_wk) rfl) (by kernel_rfl)) (by kernel_rfl)) (by kernel_rfl)) k_pk) rfl) Facts.stopsHeard) Facts.mayEnter) k_lf) k_mk) (by kernel_rfl)) (by kernel_rfl)) k_vl) (by kernel_rfl)
theorem named : Try.prog.funcNamed Rows.bitsNoneRow.func = some 10 := by kernel_rfl

theorem proved : Rows.BitsNoneSaid :=
  OpenClaim.holds_of_wide 10 Try.f10 rfl rfl rfl rfl rfl rfl rfl ⟨rfl, rfl, rfl, rfl, rfl⟩ rfl rfl rfl rfl rfl named Try.func10 closed
    (of_decide_eq_true (by kernel_rfl)) (by unfold Func.isWrapper; first | (rw [if_pos (by decide +kernel)]; kernel_rfl) | (rw [if_neg (by decide +kernel)]; exact ⟨rfl, rfl⟩))
    (fun os started H enc _ => lifted os started H enc)
end BitsNone
#print axioms BitsNone.proved
end Go.Proofs.Ytkmgojoojboidaa
