/-
  SamplePacks: which row any numbers have. No condition.
-/
import Derived.Test.YtkmgojoojboidaaSpD
import Derived.Test.YtkmgojoojboidaaFacts
namespace Go.Proofs.Ytkmgojoojboidaa
open Go.ChangeShapes Go.WideShapes Go.ChangeAt Go.WideMaps Go.WideElems Go.RowKit Go.Joins
set_option linter.unusedVariables false
set_option maxRecDepth 100000

theorem Is.lit123 : Is [1, 2, 3] := by intro x hx; simp at hx; omega
theorem gx123 : ∀ x ∈ [(1 : Int), 2, 3], Gx 2 x := by decide

/-- the fixed fact of the chapter: 1, 2, 3 at two bits each are one byte -/
theorem pack123 (w : World) : Calls Try.prog 50 #[.slice (some ⟨w.heap.size, 0, none⟩) 3 3, .int .i64 2] (w.alloc (.cells #[Value.int .i64 1, .int .i64 2, .int .i64 3] 3))
    fun e w' => ∃ g d, e = .returned (.tuple #[.slice (some ⟨g, 0, none⟩) 1 d, .nilIface]) ∧ w'.cell? ⟨g, 0, none⟩ = some (.int .u8 108) ∧ 1 ≤ d ∧ d ≤ 9223372036854775807 ∧ Below w.heap.size w w' := by
  have hb0 : Below w.heap.size w (w.alloc (.cells #[Value.int .i64 1, .int .i64 2, .int .i64 3] 3)) := (Below.refl _ _).alloc (Nat.le_refl _) _
  have hR : Rd (w.alloc (.cells #[Value.int .i64 1, .int .i64 2, .int .i64 3] 3)) (w.alloc (.cells #[Value.int .i64 1, .int .i64 2, .int .i64 3] 3)).heap.size (some ⟨w.heap.size, 0, none⟩) (iv [1, 2, 3]) := by
    have h : Rd (w.alloc (.cells #[Value.int .i64 1, .int .i64 2, .int .i64 3] 3)) (w.heap.size + 1) (some ⟨w.heap.size, 0, none⟩) (iv [1, 2, 3]) := Rd.lit w 3 (iv [1, 2, 3])
    simpa using h
  refine (pack_any _ 3 3 2 [1, 2, 3] _ rfl hR Is.lit123 ⟨by unfold Dp; omega, by omega⟩).mono ?_
  rintro e w' ⟨h1, _, hb⟩
  obtain ⟨v, rfl, ho⟩ := h1 gx123
  rw [show nby (3 * 2) = 1 from rfl, show pack true (fz (flt 2 [1, 2, 3])) = [108] from by decide +kernel] at ho
  obtain ⟨g, d, rfl, hd1, hd2, _, _⟩ := own_pos ho (by omega)
  exact ⟨g, d, rfl, by rw [ho.cellAt 0 (by omega)]; rfl, hd1, hd2, hb0.trans (hb.mono hb0.size)⟩

set_option maxHeartbeats 2000000 in
theorem samplePacks_any (w : World) (A : Option Addr) (n c : Nat) (l : List Int) (hn : l.length = n) (hcc : n ≤ c) (hmm : c ≤ 9223372036854775807) (hR : Rd w w.heap.size A (iv l)) (hI : Is l)
    (d : Int) (hd : -9223372036854775808 ≤ d ∧ d ≤ 9223372036854775807) :
    Calls Try.prog 11 #[.slice A n c, .int .i64 d] w fun e w' => e = .returned (.bool true) ∧ Below w.heap.size w w' := by
  have HN := Lib.hid hn
  clear hn
  go_enter Try.func11, Try.ntmps11
  go_wp2_with fail
  refine (pack123 w).mono ?_; rintro e w1 ⟨g1, d1, rfl, hc1, hd1, hd2, hb1⟩
  by_cases hn5 : 500 < n
  · go_wp2
    go_ret
    exact ⟨rfl, hb1⟩
  have hs1 := hb1.size
  go_wp2_with fail
  refine (copyInts_any A n c l w1 HN.out ((hR.below hb1).more hs1) (by omega)).mono ?_; rintro e w2 ⟨g, gd, rfl, ho2, hb2⟩
  have hb2' := hb1.trans (hb2.mono hs1)
  have hR2 : Rd w2 w2.heap.size (some ⟨g, 0, none⟩) (iv l) := by
    have h := Rd.of_own ho2; rw [iv_app] at h; exact h.pre
  clear hc1
  by_cases hg : Dp d ∧ n ≤ 1048576
  · obtain ⟨D, rfl⟩ := Int.eq_ofNat_of_zero_le (show 0 ≤ d by have := hg.1.bd'; omega)
    go_wp2_with fail
    refine (pack_any _ n gd D l w2 HN.out hR2 hI hg).mono ?_; rintro e w3 ⟨p1, p2, hb3⟩
    have hb3' := hb2'.trans (hb3.mono hb2'.size)
    have hR3 := (hR.below hb3').more hb3'.size
    by_cases hall : ∀ x ∈ l, Gx D x
    · obtain ⟨v, rfl, hv⟩ := p1 hall
      clear p1 p2
      go_wp2_with fail
      refine (rpack_any A n c D l w3 HN.out hR3 hI hg).mono ?_; rintro e w4 ⟨q1, q2, hb4⟩
      obtain ⟨u, rfl, hu⟩ := q1 hall
      clear q1 q2 hall
      have hb4' := hb3'.trans (hb4.mono hb3'.size)
      have hv4 := own_keep hv hb4
      have ho4 := own_keep (own_keep ho2 hb3) hb4
      obtain ⟨Av, cv, rfl, hRv⟩ := own_slice hv4
      obtain ⟨Au, cu, rfl, hRu⟩ := own_slice hu
      have hbs := pack_bs (h := true) (fz_01 (flt_01 D l))
      have hpl : nby (n * D) = (pack true (fz (flt D l))).length := by rw [pack_len, fz_len, nby_nby, flt_len, HN.out]
      have HPL := Lib.hid hpl
      clear hv hu hv4 ho2 hpl hR2
      go_wp2_with fail
      refine (same_is _ _ _ _ _ _ _ _ true (by simp) _ _ _ hRv hRu hbs hbs HPL.out HPL.out).mono ?_; rintro e w' ⟨rfl, rfl⟩
      go_wp2_with fail
      refine (num_nil w4).mono ?_; rintro e w' ⟨rfl, rfl⟩
      go_wp2_with (go_at_call 54; refine (keptInts_any A n c g gd _ l w4 HN.out ((hR.below hb4').more hb4'.size) (by omega) ho4).mono ?_; rintro e w5 ⟨rfl, hb5⟩)
      go_ret
      exact ⟨rfl, hb4'.trans (hb5.mono hb4'.size)⟩
    · obtain rfl := p2 hall
      clear p1 p2
      unfold errV
      go_wp2_with fail
      refine (rpack_any A n c D l w3 HN.out hR3 hI hg).mono ?_; rintro e w4 ⟨q1, q2, hb4⟩
      obtain rfl := q2 hall
      clear q1 q2 hall
      have hb4' := hb3'.trans (hb4.mono hb3'.size)
      have ho4 := own_keep (own_keep ho2 hb3) hb4
      clear ho2 hR2
      go_wp2_with fail
      refine (same_is none none 0 0 0 0 [] [] true (by simp) w4.heap.size w4.heap.size w4 (Rd.nil_ _ _ _) (Rd.nil_ _ _ _) (by intro x hx; simp at hx) (by intro x hx; simp at hx) rfl rfl).mono ?_; rintro e w' ⟨rfl, rfl⟩
      go_wp2_with fail
      refine (num_err 7 (by omega) w4).mono ?_; rintro e w' ⟨rfl, rfl⟩
      go_wp2_with (go_at_call 54; refine (keptInts_any A n c g gd _ l w4 HN.out ((hR.below hb4').more hb4'.size) (by omega) ho4).mono ?_; rintro e w5 ⟨rfl, hb5⟩)
      go_ret
      exact ⟨rfl, hb4'.trans (hb5.mono hb4'.size)⟩
  · go_wp2_with fail
    refine (pack_form _ n gd d w2 hg).mono ?_; rintro e w3 ⟨rfl, hb3⟩
    unfold errV
    have hb3' := hb2'.trans (hb3.mono hb2'.size)
    go_wp2_with fail
    refine (rpack_form A n c d w3 hg).mono ?_; rintro e w' ⟨rfl, rfl⟩
    have ho4 := own_keep ho2 hb3
    clear ho2 hR2
    go_wp2_with fail
    refine (same_is none none 0 0 0 0 [] [] true (by simp) w3.heap.size w3.heap.size w3 (Rd.nil_ _ _ _) (Rd.nil_ _ _ _) (by intro x hx; simp at hx) (by intro x hx; simp at hx) rfl rfl).mono ?_; rintro e w' ⟨rfl, rfl⟩
    go_wp2_with fail
    refine (num_err 6 (by omega) w3).mono ?_; rintro e w' ⟨rfl, rfl⟩
    go_wp2_with (go_at_call 54; refine (keptInts_any A n c g gd _ l w3 HN.out ((hR.below hb3').more hb3'.size) (by omega) ho4).mono ?_; rintro e w5 ⟨rfl, hb5⟩)
    go_ret
    exact ⟨rfl, hb3'.trans (hb5.mono hb3'.size)⟩
namespace SamplePacks
set_option maxRecDepth 100000 in
theorem contract (H : Type) (enc : TypeId × Value → H) (W : World) (base : Nat) (args : Array Value) (ds gs : List (DataW H)) (before : List MemPlace)
    (hval : ∀ (j : Nat) t v, Try.f11.params[j]? = some t → args[j]? = some v → Value.okWide Try.prog W .any base t v)
    (hW : DataW.Whole enc Try.prog Try.f11.params.toList Rows.samplePacksSpec.vars false W args.toList ds gs before) :
    Calls Try.prog 11 args W fun e W' => ∃ v, e = .returned v ∧ Rows.samplePacksSpec.post enc Try.prog Try.f11 false true false false W args v W' := by
  have hW' := hW
  obtain ⟨p, q, hA0, hV, rfl, hfz, hnd⟩ := hW
  have hA : DataW.TrodAll enc Try.prog W 0 (fun _ => true) true Try.f11.params.toList args.toList ds p := hA0
  rw [Try.params11] at hA hval
  clear hA0
  obtain ⟨v0, vs0, d0, ds0, p0, q0, hargs, rfl, rfl, h0, r0⟩ := trodAll_cons hA
  obtain ⟨v1, vs1, d1, ds1, p1, q1, rfl, rfl, rfl, h1, r1⟩ := trodAll_cons r0
  obtain ⟨rfl, rfl, rfl⟩ := trodAll_nil r1
  obtain rfl : args = #[v0, v1] := by cases args; simp_all
  obtain ⟨rfl, rfl⟩ := trodVars_none hV
  obtain ⟨Ax0, nx0, cx0, rfl⟩ := okWide_slice Try.underlying43 (hval 0 _ _ rfl rfl)
  obtain ⟨fu0, hf0⟩ := h0
  obtain ⟨A', n', c', x0, ev0, hnx0, hcx0, hmx0, hRx0, hwx0⟩ := open_rd Try.underlying43 Try.underlying3 (by kernel_rfl) hf0
  injection ev0 with ea eb ec
  subst ea eb ec
  obtain ⟨x1, rfl, rfl, rfl, wx1⟩ := open_int Try.underlying3 (hval 1 _ _ rfl rfl) h1
  refine (samplePacks_any W Ax0 nx0 cx0 x0 hnx0 hcx0 hmx0 hRx0 (wf_is hwx0) x1 (wf_i wx1)).mono fun e W' ⟨he, hb⟩ => ?_
  subst he
  exact ⟨_, rfl, post_true Facts.laid hW' rfl rfl Try.underlying4 (by kernel_rfl) rfl hb⟩

set_option maxRecDepth 100000 in
theorem lifted (os : Os) (started : os.Started) (H : Type) (enc : TypeId × Value → H) :
    ReturnsInHanded {} Try.checked os 11 .any (Rows.samplePacksSpec.pre6 enc Try.prog Try.f11 Rows.samplePacksRow.domain false) (Rows.samplePacksSpec.post enc Try.prog Try.f11 false true false false) := by
  refine returnsInHanded_of_change (C := Try.checked) Facts.own started (by kernel_rfl) Try.func11
    (ChangeSpec.witness6 (enc := enc) (C := Try.checked) (os := os) false ⟨#[], #[.slice none 0 0, .int .i64 0], []⟩ 8 (by kernel_rfl) (by kernel_rfl) (by kernel_rfl) (by kernel_rfl)) ?_
  intro W base args ds gs before hval hW _ _
  exact contract H enc W base args ds gs before hval hW

theorem k_wf : Rows.samplePacksRow.wf (OpenSpec.ofChange Rows.samplePacksSpec) = true := by kernel_rfl
theorem k_inp : (Rows.samplePacksRow.inPlace == Try.prog.inPlace 11) = true := by kernel_rfl
theorem k_unf : (Rows.samplePacksRow.unfollowed == Try.prog.unfollowed 11) = true := by kernel_rfl
theorem k_rec : (Rows.samplePacksRow.recurses == Try.prog.recurses 11) = true := by kernel_rfl
theorem k_nam : (Rows.samplePacksRow.named == Try.prog.varsNamed 11) = true := by kernel_rfl
theorem k_pk : (Rows.samplePacksRow.plainKeys == Try.prog.plainKeys) = true := (congrArg (fun x => Rows.samplePacksRow.plainKeys == x) Facts.plainKeys).trans (by kernel_rfl)
theorem k_lf : (Rows.samplePacksRow.lifted == Try.prog.liftsFinal) = true := (congrArg (fun x => Rows.samplePacksRow.lifted == x) Facts.liftsFinal).trans (by kernel_rfl)
theorem k_mk : (Try.prog.make == some Rows.samplePacksRow.make) = true := (congrArg (fun x => x == some Rows.samplePacksRow.make) Facts.make).trans (by kernel_rfl)
theorem k_par : (Try.f11.params.all (Try.prog.readableRec ·)) = true := by kernel_rfl
theorem k_maps : (Rows.samplePacksRow.maps == (Try.f11.params.toList ++ Rows.samplePacksSpec.plain.varTypes Try.prog).any (Try.prog.mapsRec ·)) = true := by kernel_rfl
theorem k_ifs : (Rows.samplePacksRow.ifaces == (Try.f11.params.toList ++ Rows.samplePacksSpec.plain.varTypes Try.prog).any (Try.prog.ifacesRec ·)) = true := by kernel_rfl
theorem k_lps : (Rows.samplePacksRow.loops == (Try.f11.params.toList ++ Rows.samplePacksSpec.plain.varTypes Try.prog).any (Try.prog.loopsFrom ·)) = true := by kernel_rfl
theorem k_wk : (Rows.samplePacksRow.wideKeys == (Try.f11.params.toList ++ Rows.samplePacksSpec.plain.varTypes Try.prog ++ Try.f11.resultTypes.toList).any (Try.prog.wideKeysFrom ·)) = true := by kernel_rfl
theorem k_vl : (Rows.samplePacksRow.veiled == (Try.f11.params.toList ++ Rows.samplePacksSpec.plain.varTypes Try.prog ++ Try.f11.resultTypes.toList).any (Try.prog.veiledRec ·)) = true := by kernel_rfl
theorem closed : joinedFacts Try.prog 11 Try.f11 Rows.samplePacksSpec Rows.samplePacksRow = true :=
  Facts.and_i (Facts.and_i (Facts.and_i (Facts.and_i (Facts.and_i (Facts.and_i (Facts.and_i (Facts.and_i (Facts.and_i (Facts.and_i (Facts.and_i (Facts.and_i (Facts.and_i (Facts.and_i (Facts.and_i (Facts.and_i (Facts.and_i (Facts.and_i (Facts.and_i (Facts.and_i (Facts.and_i (Facts.and_i (Facts.and_i (Facts.and_i (Facts.and_i (Facts.and_i (Facts.and_i (Facts.and_i (Facts.and_i (Facts.and_i (Facts.and_i
    k_wf Facts.laid) Facts.mapsRowed_) k_par) rfl) rfl) Facts.stops) rfl) Facts.stopKnobs) k_inp) k_unf) k_rec) k_nam) k_maps) k_ifs) (by kernel_rfl)) k_lps) k_wk) rfl) (by kernel_rfl)) (by kernel_rfl)) (by kernel_rfl)) k_pk) rfl) Facts.stopsHeard) Facts.mayEnter) k_lf) k_mk) (by kernel_rfl)) (by kernel_rfl)) k_vl) (by kernel_rfl)
theorem named : Try.prog.funcNamed Rows.samplePacksRow.func = some 11 := by kernel_rfl

theorem proved : Rows.SamplePacksSaid :=
  OpenClaim.holds_of_wide 11 Try.f11 rfl rfl rfl rfl rfl rfl rfl ⟨rfl, rfl, rfl, rfl, rfl⟩ rfl rfl rfl rfl rfl named Try.func11 closed
    (of_decide_eq_true (by kernel_rfl)) (by unfold Func.isWrapper; first | (rw [if_pos (by decide +kernel)]; kernel_rfl) | (rw [if_neg (by decide +kernel)]; exact ⟨rfl, rfl⟩))
    (fun os started H enc _ => lifted os started H enc)
end SamplePacks
#print axioms SamplePacks.proved
end Go.Proofs.Ytkmgojoojboidaa
