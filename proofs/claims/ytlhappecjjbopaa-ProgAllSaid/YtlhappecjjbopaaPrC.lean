/-
  ProgBits: what any number tells from any bit on, and which bands are in form. No condition.
-/
import Derived.Test.YtlhappecjjbopaaPrB
import Derived.Test.YtlhappecjjbopaaFacts
import Derived.Test.YtlhappecjjbopaaLib
namespace Go.Proofs.Ytlhappecjjbopaa
open Go.ChangeShapes Go.WideShapes Go.ChangeAt Go.WideMaps Go.WideElems Go.RowKit Go.Joins
set_option linter.unusedVariables false

theorem band_any (f t h l : Int) (w : World) : Calls Try.prog 70 #[.agg #[.int .i64 f, .int .i64 t, .int .i64 h, .int .i64 l]] w fun e w' => e = .returned (.agg #[.int .i64 f, .int .i64 t, .int .i64 h, .int .i64 l]) ∧ Below w.heap.size w w' := by
  go_enter Try.func70, Try.ntmps70
  go_wp2
  refine bodyPost_ret (results_cell_row (P := Try.prog) rfl _ _ (w.heap.size + 1) 107 #[.int .i64 f, .int .i64 t, .int .i64 h, .int .i64 l] (0, 0) _ rfl (heap_alloc2_new w _ _) Try.underlying107 rfl (by kernel_rfl)) rfl ?_
  exact ⟨rfl, by go_grown⟩

set_option maxRecDepth 100000 in
set_option maxHeartbeats 1000000 in
theorem tells_any (n low : Int) (dc : Bool) (f t h l : Int) (w : World) :
    Calls Try.prog 26 #[.int .i64 n, .int .i64 low, .bool dc, .agg #[.int .i64 f, .int .i64 t, .int .i64 h, .int .i64 l]] w fun e w' => e = .returned (.bool true) ∧ Below w.heap.size w w' := by
  have X := Box4.new w 33 (.int .i64 f) (.int .i64 t) (.int .i64 h) (.int .i64 l)
  have hb0 : Below w.heap.size w (w.alloc (.cells #[.int .i64 f, .int .i64 t, .int .i64 h, .int .i64 l] 33)) := (Below.refl _ _).alloc (Nat.le_refl _) _
  go_enter Try.func26, Try.ntmps26
  go_wp2_with fail
  generalize w.alloc (.cells #[.int .i64 f, .int .i64 t, .int .i64 h, .int .i64 l] 33) = w0 at *
  refine (tell_any (-5) 1 true (by omega) w0).mono ?_; rintro e w' ⟨rfl, rfl⟩
  rw [show tl (-5) 1 true = -3 from by decide]
  go_wp2_with fail
  refine (tell_any (-5) 1 false (by omega) w0).mono ?_; rintro e w' ⟨rfl, rfl⟩
  rw [show tl (-5) 1 false = -2 from by decide]
  by_cases h1 : n < -1099511627776
  · go_wp2
    go_ret
    exact ⟨rfl, hb0⟩
  by_cases h2 : 1099511627776 < n
  · go_wp2
    go_ret
    exact ⟨rfl, hb0⟩
  obtain ⟨_, x0, x1, x2, x3⟩ := id X
  go_wp2_with fail
  refine (band_any f t h l w0).mono ?_; rintro e w1 ⟨rfl, hb1⟩
  have X1 := X.below hb1 X.lt
  have hb1' := hb0.trans (hb1.mono hb0.size)
  clear x0 x1 x2 x3
  obtain ⟨_, x0, x1, x2, x3⟩ := id X1
  by_cases hgd : Gd f t h l
  · go_wp2_with fail
    refine (bcheck_any f t h l .nilIface (fun hg => rfl) (fun hg => absurd hgd hg) w1).mono ?_; rintro e w2 ⟨rfl, hb2⟩
    have X2 := X1.below hb2 X1.lt
    have hb2' := hb1'.trans (hb2.mono hb1'.size)
    clear x0 x1 x2 x3
    obtain ⟨_, x0, x1, x2, x3⟩ := id X2
    go_wp2_with fail
    refine (tell_any n low dc (by omega) w2).mono ?_; rintro e w' ⟨rfl, rfl⟩
    go_wp2_with fail
    refine (rtell_any n low dc (by omega) w2).mono ?_; rintro e w' ⟨rfl, rfl⟩
    generalize tl n low dc = T at *
    have hTT : (T == T) = true := by simp
    go_wp2_with fail
    refine (rgood_any f t h l true (fun hg => rfl) (fun hg => absurd hgd hg) w2).mono ?_; rintro e w3 ⟨rfl, hb3⟩
    have X3 := X2.below hb3 X2.lt
    have hb3' := hb2'.trans (hb3.mono hb2'.size)
    clear x0 x1 x2 x3
    obtain ⟨_, x0, x1, x2, x3⟩ := id X3
    go_wp2
    go_ret
    exact ⟨rfl, hb3'⟩
  · go_wp2_with fail
    refine (bcheck_any f t h l (.iface 53 (.int .i64 6)) (fun hg => absurd hg hgd) (fun hg => rfl) w1).mono ?_; rintro e w2 ⟨rfl, hb2⟩
    have X2 := X1.below hb2 X1.lt
    have hb2' := hb1'.trans (hb2.mono hb1'.size)
    clear x0 x1 x2 x3
    obtain ⟨_, x0, x1, x2, x3⟩ := id X2
    go_wp2_with fail
    refine (tell_any n low dc (by omega) w2).mono ?_; rintro e w' ⟨rfl, rfl⟩
    go_wp2_with fail
    refine (rtell_any n low dc (by omega) w2).mono ?_; rintro e w' ⟨rfl, rfl⟩
    generalize tl n low dc = T at *
    have hTT : (T == T) = true := by simp
    go_wp2_with fail
    refine (rgood_any f t h l false (fun hg => absurd hg hgd) (fun hg => rfl) w2).mono ?_; rintro e w3 ⟨rfl, hb3⟩
    have X3 := X2.below hb3 X2.lt
    have hb3' := hb2'.trans (hb3.mono hb2'.size)
    clear x0 x1 x2 x3
    obtain ⟨_, x0, x1, x2, x3⟩ := id X3
    go_wp2_with fail
    refine (rgood_any f t h l false (fun hg => absurd hg hgd) (fun _ => rfl) w3).mono ?_; rintro e w4 ⟨rfl, hb4⟩
    have hb4' := hb3'.trans (hb4.mono hb3'.size)
    go_wp2_with fail
    refine (is_err 6 6 (by omega) _).mono ?_; rintro e w' ⟨rfl, rfl⟩
    go_wp2
    go_ret
    exact ⟨rfl, hb4'⟩

theorem progBits_any (w : World) (n : Int) (hn : -9223372036854775808 ≤ n ∧ n ≤ 9223372036854775807) (low : Int) (hl : -9223372036854775808 ≤ low ∧ low ≤ 9223372036854775807) (dc : Bool)
    (f : Int) (hf : -9223372036854775808 ≤ f ∧ f ≤ 9223372036854775807) (t : Int) (ht : -9223372036854775808 ≤ t ∧ t ≤ 9223372036854775807) (h : Int) (hh : -9223372036854775808 ≤ h ∧ h ≤ 9223372036854775807) (l : Int) (hl2 : -9223372036854775808 ≤ l ∧ l ≤ 9223372036854775807) :
    Calls Try.prog 4 #[.agg #[.int .i64 n, .int .i64 low, .bool dc, .int .i64 f, .int .i64 t, .int .i64 h, .int .i64 l]] w fun e w' => e = .returned (.bool true) ∧ Below w.heap.size w w' := by
  have hb0 : Below w.heap.size w (w.alloc (.cells #[.int .i64 n, .int .i64 low, .bool dc, .int .i64 f, .int .i64 t, .int .i64 h, .int .i64 l] 35)) := (Below.refl _ _).alloc (Nat.le_refl _) _
  go_enter Try.func4, Try.ntmps4
  go_wp2_with (go_at_call 26; refine (tells_any n low dc f t h l _).mono ?_; rintro e w1 ⟨rfl, hb1⟩)
  go_ret
  exact ⟨rfl, hb0.trans (hb1.mono hb0.size)⟩
namespace ProgBits
set_option maxRecDepth 100000 in
theorem contract (H : Type) (enc : TypeId × Value → H) (W : World) (base : Nat) (args : Array Value) (ds gs : List (DataW H)) (before : List MemPlace)
    (hval : ∀ (j : Nat) t v, Try.f4.params[j]? = some t → args[j]? = some v → Value.okWide Try.prog W .any base t v)
    (hW : DataW.Whole enc Try.prog Try.f4.params.toList Rows.progBitsSpec.vars false W args.toList ds gs before) :
    Calls Try.prog 4 args W fun e W' => ∃ v, e = .returned v ∧ Rows.progBitsSpec.post enc Try.prog Try.f4 false true false false W args v W' := by
  have hW' := hW
  obtain ⟨p, q, hA0, hV, rfl, hfz, hnd⟩ := hW
  have hA : DataW.TrodAll enc Try.prog W 0 (fun _ => true) true Try.f4.params.toList args.toList ds p := hA0
  rw [Try.params4] at hA hval
  clear hA0
  obtain ⟨v0, vs0, d0, ds0, p0, q0, hargs, rfl, rfl, h0, r0⟩ := trodAll_cons hA
  obtain ⟨rfl, rfl, rfl⟩ := trodAll_nil r0
  obtain rfl : args = #[v0] := by cases args; simp_all
  obtain ⟨rfl, rfl⟩ := trodVars_none hV
  obtain ⟨l0, rfl, hl0, n0, hf0⟩ := open_str Try.underlying35 (hval 0 _ _ rfl rfl) h0
  rw [show Try.prog.cellsOf 35 = 7 by kernel_rfl] at hl0
  obtain ⟨c0_0, t0_0, rfl, hl0_0⟩ := len_cons hl0
  clear hl0
  obtain ⟨c0_1, t0_1, rfl, hl0_1⟩ := len_cons hl0_0
  clear hl0_0
  obtain ⟨c0_2, t0_2, rfl, hl0_2⟩ := len_cons hl0_1
  clear hl0_1
  obtain ⟨c0_3, t0_3, rfl, hl0_3⟩ := len_cons hl0_2
  clear hl0_2
  obtain ⟨c0_4, t0_4, rfl, hl0_4⟩ := len_cons hl0_3
  clear hl0_3
  obtain ⟨c0_5, t0_5, rfl, hl0_5⟩ := len_cons hl0_4
  clear hl0_4
  obtain ⟨c0_6, t0_6, rfl, hl0_6⟩ := len_cons hl0_5
  clear hl0_5
  obtain rfl := len_nil hl0_6
  obtain ⟨y0_0, hy0_0⟩ := hf0 0 _ rfl
  replace hy0_0 : DataW.trod enc Try.prog W 0 (fun _ => true) true n0 3 [c0_0] = some y0_0 := by simpa [show Try.prog.cellsOf 3 = 1 by kernel_rfl] using hy0_0
  obtain ⟨x0, ex0, rfl, wx0⟩ := DataW.trod_int Try.underlying3 hy0_0
  simp only [List.cons.injEq, and_true] at ex0
  subst ex0
  obtain ⟨y0_1, hy0_1⟩ := hf0 1 _ rfl
  replace hy0_1 : DataW.trod enc Try.prog W 0 (fun _ => true) true n0 3 [c0_1] = some y0_1 := by simpa [show Try.prog.cellsOf 3 = 1 by kernel_rfl] using hy0_1
  obtain ⟨x1, ex1, rfl, wx1⟩ := DataW.trod_int Try.underlying3 hy0_1
  simp only [List.cons.injEq, and_true] at ex1
  subst ex1
  obtain ⟨y0_2, hy0_2⟩ := hf0 2 _ rfl
  replace hy0_2 : DataW.trod enc Try.prog W 0 (fun _ => true) true n0 4 [c0_2] = some y0_2 := by simpa [show Try.prog.cellsOf 4 = 1 by kernel_rfl] using hy0_2
  obtain ⟨x2, ex2, rfl⟩ := DataW.trod_bool Try.underlying4 hy0_2
  simp only [List.cons.injEq, and_true] at ex2
  subst ex2
  obtain ⟨y0_3, hy0_3⟩ := hf0 3 _ rfl
  replace hy0_3 : DataW.trod enc Try.prog W 0 (fun _ => true) true n0 33 [c0_3, c0_4, c0_5, c0_6] = some y0_3 := by simpa [show Try.prog.cellsOf 33 = 4 by kernel_rfl] using hy0_3
  obtain ⟨_, ny0_3, hfy0_3⟩ := sub_str Try.underlying33 hy0_3
  obtain ⟨y0_3_0, hy0_3_0⟩ := hfy0_3 0 _ rfl
  replace hy0_3_0 : DataW.trod enc Try.prog W 0 (fun _ => true) true ny0_3 3 [c0_3] = some y0_3_0 := by simpa [show Try.prog.cellsOf 3 = 1 by kernel_rfl] using hy0_3_0
  obtain ⟨x3, ex3, rfl, wx3⟩ := DataW.trod_int Try.underlying3 hy0_3_0
  simp only [List.cons.injEq, and_true] at ex3
  subst ex3
  obtain ⟨y0_3_1, hy0_3_1⟩ := hfy0_3 1 _ rfl
  replace hy0_3_1 : DataW.trod enc Try.prog W 0 (fun _ => true) true ny0_3 3 [c0_4] = some y0_3_1 := by simpa [show Try.prog.cellsOf 3 = 1 by kernel_rfl] using hy0_3_1
  obtain ⟨x4, ex4, rfl, wx4⟩ := DataW.trod_int Try.underlying3 hy0_3_1
  simp only [List.cons.injEq, and_true] at ex4
  subst ex4
  obtain ⟨y0_3_2, hy0_3_2⟩ := hfy0_3 2 _ rfl
  replace hy0_3_2 : DataW.trod enc Try.prog W 0 (fun _ => true) true ny0_3 3 [c0_5] = some y0_3_2 := by simpa [show Try.prog.cellsOf 3 = 1 by kernel_rfl] using hy0_3_2
  obtain ⟨x5, ex5, rfl, wx5⟩ := DataW.trod_int Try.underlying3 hy0_3_2
  simp only [List.cons.injEq, and_true] at ex5
  subst ex5
  obtain ⟨y0_3_3, hy0_3_3⟩ := hfy0_3 3 _ rfl
  replace hy0_3_3 : DataW.trod enc Try.prog W 0 (fun _ => true) true ny0_3 3 [c0_6] = some y0_3_3 := by simpa [show Try.prog.cellsOf 3 = 1 by kernel_rfl] using hy0_3_3
  obtain ⟨x6, ex6, rfl, wx6⟩ := DataW.trod_int Try.underlying3 hy0_3_3
  simp only [List.cons.injEq, and_true] at ex6
  subst ex6
  refine (progBits_any W x0 (wf_i wx0) x1 (wf_i wx1) x2 x3 (wf_i wx3) x4 (wf_i wx4) x5 (wf_i wx5) x6 (wf_i wx6)).mono fun e W' ⟨he, hb⟩ => ?_
  subst he
  exact ⟨_, rfl, post_true Facts.laid hW' rfl rfl Try.underlying4 (by kernel_rfl) rfl hb⟩

set_option maxRecDepth 100000 in
theorem lifted (os : Os) (started : os.Started) (H : Type) (enc : TypeId × Value → H) :
    ReturnsInHanded {} Try.checked os 4 .any (Rows.progBitsSpec.pre6 enc Try.prog Try.f4 Rows.progBitsRow.domain false) (Rows.progBitsSpec.post enc Try.prog Try.f4 false true false false) := by
  refine returnsInHanded_of_change (C := Try.checked) Facts.own started (by kernel_rfl) Try.func4
    (ChangeSpec.witness6 (enc := enc) (C := Try.checked) (os := os) false ⟨#[], #[.agg #[.int .i64 0, .int .i64 0, .bool false, .int .i64 0, .int .i64 0, .int .i64 0, .int .i64 0]], []⟩ 8 (by kernel_rfl) (by kernel_rfl) (by kernel_rfl) (by kernel_rfl)) ?_
  intro W base args ds gs before hval hW _ _
  exact contract H enc W base args ds gs before hval hW

theorem k_wf : Rows.progBitsRow.wf (OpenSpec.ofChange Rows.progBitsSpec) = true := by kernel_rfl
theorem k_inp : (Rows.progBitsRow.inPlace == Try.prog.inPlace 4) = true := by kernel_rfl
theorem k_unf : (Rows.progBitsRow.unfollowed == Try.prog.unfollowed 4) = true := by kernel_rfl
theorem k_rec : (Rows.progBitsRow.recurses == Try.prog.recurses 4) = true := by kernel_rfl
theorem k_nam : (Rows.progBitsRow.named == Try.prog.varsNamed 4) = true := by kernel_rfl
theorem k_pk : (Rows.progBitsRow.plainKeys == Try.prog.plainKeys) = true := (congrArg (fun x => Rows.progBitsRow.plainKeys == x) Facts.plainKeys).trans (by kernel_rfl)
theorem k_lf : (Rows.progBitsRow.lifted == Try.prog.liftsFinal) = true := (congrArg (fun x => Rows.progBitsRow.lifted == x) Facts.liftsFinal).trans (by kernel_rfl)
theorem k_mk : (Try.prog.make == some Rows.progBitsRow.make) = true := (congrArg (fun x => x == some Rows.progBitsRow.make) Facts.make).trans (by kernel_rfl)
theorem k_par : (Try.f4.params.all (Try.prog.readableRec ·)) = true := by kernel_rfl
theorem k_maps : (Rows.progBitsRow.maps == (Try.f4.params.toList ++ Rows.progBitsSpec.plain.varTypes Try.prog).any (Try.prog.mapsRec ·)) = true := by kernel_rfl
theorem k_ifs : (Rows.progBitsRow.ifaces == (Try.f4.params.toList ++ Rows.progBitsSpec.plain.varTypes Try.prog).any (Try.prog.ifacesRec ·)) = true := by kernel_rfl
theorem k_lps : (Rows.progBitsRow.loops == (Try.f4.params.toList ++ Rows.progBitsSpec.plain.varTypes Try.prog).any (Try.prog.loopsFrom ·)) = true := by kernel_rfl
theorem k_wk : (Rows.progBitsRow.wideKeys == (Try.f4.params.toList ++ Rows.progBitsSpec.plain.varTypes Try.prog ++ Try.f4.resultTypes.toList).any (Try.prog.wideKeysFrom ·)) = true := by kernel_rfl
theorem k_vl : (Rows.progBitsRow.veiled == (Try.f4.params.toList ++ Rows.progBitsSpec.plain.varTypes Try.prog ++ Try.f4.resultTypes.toList).any (Try.prog.veiledRec ·)) = true := by kernel_rfl
theorem closed : joinedFacts Try.prog 4 Try.f4 Rows.progBitsSpec Rows.progBitsRow = true :=
  Facts.and_i (Facts.and_i (Facts.and_i (Facts.and_i (Facts.and_i (Facts.and_i (Facts.and_i (Facts.and_i (Facts.and_i (Facts.and_i (Facts.and_i (Facts.and_i (Facts.and_i (Facts.and_i (Facts.and_i (Facts.and_i (Facts.and_i (Facts.and_i (Facts.and_i (Facts.and_i (Facts.and_i (Facts.and_i (Facts.and_i (Facts.and_i (Facts.and_i (Facts.and_i (Facts.and_i (Facts.and_i (Facts.and_i (Facts.and_i (Facts.and_i
    k_wf Facts.laid) Facts.mapsRowed_) k_par) rfl) rfl) Facts.stops) rfl) Facts.stopKnobs) k_inp) k_unf) k_rec) k_nam) k_maps) k_ifs) (by kernel_rfl)) k_lps) k_wk) rfl) (by kernel_rfl)) (by kernel_rfl)) (by kernel_rfl)) k_pk) rfl) Facts.stopsHeard) Facts.mayEnter) k_lf) k_mk) (by kernel_rfl)) (by kernel_rfl)) k_vl) (by kernel_rfl)
theorem named : Try.prog.funcNamed Rows.progBitsRow.func = some 4 := by kernel_rfl

theorem proved : Rows.ProgBitsSaid :=
  OpenClaim.holds_of_wide 4 Try.f4 rfl rfl rfl rfl rfl rfl rfl ⟨rfl, rfl, rfl, rfl, rfl⟩ rfl rfl rfl rfl rfl named Try.func4 closed
    (of_decide_eq_true (by kernel_rfl)) (by unfold Func.isWrapper; first | (rw [if_pos (by decide +kernel)]; kernel_rfl) | (rw [if_neg (by decide +kernel)]; exact ⟨rfl, rfl⟩))
    (fun os started H enc _ => lifted os started H enc)
end ProgBits
#print axioms ProgBits.proved
end Go.Proofs.Ytlhappecjjbopaa
