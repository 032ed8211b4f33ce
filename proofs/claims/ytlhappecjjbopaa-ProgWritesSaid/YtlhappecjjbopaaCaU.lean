/-
  CanonBits: which symbols any bits come to, by any lengths. No condition.
-/
import Derived.Test.YtlhappecjjbopaaCaV
import Derived.Test.YtlhappecjjbopaaCaP
import Derived.Test.YtlhappecjjbopaaFacts
import Derived.Test.YtlhappecjjbopaaLib
namespace Go.Proofs.Ytlhappecjjbopaa
open Go.ChangeShapes Go.WideShapes Go.ChangeAt Go.WideMaps Go.WideElems Go.RowKit Go.Joins
set_option linter.unusedVariables false
set_option maxRecDepth 100000

/-- the document's codes of lengths in form, as a slice -/
theorem refCodes_cs (A : Option Addr) (n c : Nat) (ls : List Int) (w : World) (hn : ls.length = n) (hR : Rd w w.heap.size A (iv ls)) (hI : Is ls) (hf : Fm ls) :
    Calls Try.prog 36 #[.slice A n c] w fun e w' => ∃ A' c', e = .returned (.slice A' (ordU ls 16).length c') ∧ Cs w' w'.heap.size A' (sy (ordU ls 16)) (sz ls (ordU ls 16)) ∧ Below w.heap.size w w' := by
  refine (refCodes_any A n c ls w hn hR hI hf).mono ?_
  rintro e w' ⟨v, rows, rfl, ho, hc, hb⟩
  obtain ⟨A', c', rfl, _, _, hR'⟩ := own_sliceN ho
  exact ⟨A', c', rfl, Cs.of hR' hc, hb⟩

set_option maxHeartbeats 4000000 in
theorem bitsOf_any (A A2 : Option Addr) (n c n2 c2 : Nat) (ls bs : List Int) (h : Bool) (times : Int) (w : World) (hn : ls.length = n) (hR : Rd w w.heap.size A (iv ls)) (hI : Is ls) (hn2 : bs.length = n2) (hR2 : Rd w w.heap.size A2 (bv bs)) (hB : Bs bs) :
    Calls Try.prog 54 #[.slice A n c, .slice A2 n2 c2, .bool h, .int .i64 times] w (ReadsP w) := by
  have HN := Lib.hid hn
  have HN2 := Lib.hid hn2
  clear hn hn2
  by_cases h1 : 600 < n
  · have d1 : decide ((600 : Int) < (n : Int)) = true := decide_eq_true (by omega)
    go_enter Try.func54, Try.ntmps54
    go_wp2
    go_ret
    exact ⟨rfl, Below.refl _ _⟩
  have d1 : decide ((600 : Int) < (n : Int)) = false := decide_eq_false (by omega)
  by_cases h2 : 200 < n2
  · have d2 : decide ((200 : Int) < (n2 : Int)) = true := decide_eq_true (by omega)
    go_enter Try.func54, Try.ntmps54
    go_wp2
    go_ret
    exact ⟨rfl, Below.refl _ _⟩
  have d2 : decide ((200 : Int) < (n2 : Int)) = false := decide_eq_false (by omega)
  go_enter Try.func54, Try.ntmps54
  go_wp2_with fail
  refine (example_any w).mono ?_; rintro e w1 ⟨rfl, hR1, hb1⟩
  go_wp2_with fail
  refine (newBook_any _ 8 8 exL w1 rfl hR1 ex_is).mono ?_; rintro e w2 ⟨h3, _, hb2⟩
  obtain ⟨p1, C1, rfl, hB1, hC1, hp1⟩ := h3 ex_fm
  have hb2' := hb1.trans (hb2.mono hb1.size)
  have hs2 := hb2'.size
  clear h3 hR1 hb1 hb2
  go_wp2_with fail
  refine (length_any p1 exL _ C1 5 w2 hB1 ex_fm.2.1).mono ?_; rintro e w3 ⟨rfl, rfl⟩
  rw [show lenL exL 5 = 2 from by decide +kernel]
  clear hB1 hC1 hp1
  have hRb := (hR.below hb2').more hs2
  go_wp2_with fail
  refine (newBook_any A n c ls w3 HN.out hRb hI).mono ?_; rintro e w4 ⟨h3, h4, hb4⟩
  have hb4' := hb2'.trans (hb4.mono hs2)
  have hs4 := hb4'.size
  have hRc := (hR.below hb4').more hs4
  clear hRb
  by_cases hf : Fm ls
  · obtain ⟨p, C, rfl, hBk, hCd, hp⟩ := h3 hf
    have HF := Lib.hid hf
    have HO := Lib.hid (ordd_U hf hCd)
    have hK := BkS.of hBk
    clear h3 h4 hCd hf hBk
    go_wp2_with fail
    refine (rfree_any A n c ls w4.heap.size w4 HN.out hRc hI).mono ?_; rintro e w5 ⟨h5, _, rfl⟩
    obtain rfl := h5 HF.out
    clear h5
    go_wp2_with fail
    refine (refCodes_cs A n c ls w4 HN.out hRc hI HF.out).mono ?_; rintro e w6 ⟨A6, c6, rfl, hS6, hb6⟩
    have hb6' := hb4'.trans (hb6.mono hs4)
    have hK6 := hK.keep hb6
    have hR6 := (hR2.below hb6').more hb6'.size
    go_wp2_with fail
    refine (reads_any times hK6 HO.out hS6 rfl HN2.out hR6 hB (by omega)).mono ?_; rintro e w7 ⟨rfl, hb7⟩
    go_wp2
    go_ret
    exact ⟨rfl, hb6'.trans (hb7.mono hb6'.size)⟩
  · obtain rfl := h4 hf
    have HNF := Lib.hid hf
    clear h3 h4 hf
    go_wp2_with fail
    refine (rfree_any A n c ls w4.heap.size w4 HN.out hRc hI).mono ?_; rintro e w5 ⟨_, h5, rfl⟩
    obtain ⟨x, rfl⟩ := h5 HNF.out
    clear h5
    unfold errV
    go_wp2_with fail
    refine (is_err 6 6 (by omega) w4).mono ?_; rintro e w' ⟨rfl, rfl⟩
    go_wp2
    go_ret
    exact ⟨rfl, hb4'⟩

set_option maxHeartbeats 1000000 in
theorem canonBits_any (w : World) (A : Option Addr) (n c : Nat) (ls : List Int) (hn : ls.length = n) (hcc : n ≤ c) (hmm : c ≤ 9223372036854775807) (hR : Rd w w.heap.size A (iv ls)) (hI : Is ls) (A2 : Option Addr) (n2 c2 : Nat) (bs : List Int) (hn2 : bs.length = n2) (hcc2 : n2 ≤ c2) (hmm2 : c2 ≤ 9223372036854775807) (hR2 : Rd w w.heap.size A2 (bv bs)) (hB : Bs bs) (h : Bool) (t : Int) (ht : -9223372036854775808 ≤ t ∧ t ≤ 9223372036854775807) :
    Calls Try.prog 11 #[.agg #[.slice A n c, .slice A2 n2 c2, .bool h, .int .i64 t]] w fun e w' => e = .returned (.bool true) ∧ Below w.heap.size w w' := by
  have hb0 : Below w.heap.size w (w.alloc (.cells #[.slice A n c, .slice A2 n2 c2, .bool h, .int .i64 t] 81)) := (Below.refl _ _).alloc (Nat.le_refl _) _
  have hRa := (hR.below hb0).more hb0.size
  have hRb := (hR2.below hb0).more hb0.size
  go_enter Try.func11, Try.ntmps11
  go_wp2_with fail
  refine (bitsOf_any A A2 n c n2 c2 ls bs h t _ hn hRa hI hn2 hRb hB).mono ?_; rintro e w1 ⟨rfl, hb1⟩
  go_wp2
  go_ret
  exact ⟨rfl, hb0.trans (hb1.mono hb0.size)⟩
namespace CanonBits
set_option maxRecDepth 100000 in
theorem contract (H : Type) (enc : TypeId × Value → H) (W : World) (base : Nat) (args : Array Value) (ds gs : List (DataW H)) (before : List MemPlace)
    (hval : ∀ (j : Nat) t v, Try.f11.params[j]? = some t → args[j]? = some v → Value.okWide Try.prog W .any base t v)
    (hW : DataW.Whole enc Try.prog Try.f11.params.toList Rows.canonBitsSpec.vars false W args.toList ds gs before) :
    Calls Try.prog 11 args W fun e W' => ∃ v, e = .returned v ∧ Rows.canonBitsSpec.post enc Try.prog Try.f11 false true false false W args v W' := by
  have hW' := hW
  obtain ⟨p, q, hA0, hV, rfl, hfz, hnd⟩ := hW
  have hA : DataW.TrodAll enc Try.prog W 0 (fun _ => true) true Try.f11.params.toList args.toList ds p := hA0
  rw [Try.params11] at hA hval
  clear hA0
  obtain ⟨v0, vs0, d0, ds0, p0, q0, hargs, rfl, rfl, h0, r0⟩ := trodAll_cons hA
  obtain ⟨rfl, rfl, rfl⟩ := trodAll_nil r0
  obtain rfl : args = #[v0] := by cases args; simp_all
  obtain ⟨rfl, rfl⟩ := trodVars_none hV
  obtain ⟨l0, rfl, hl0, n0, hf0⟩ := open_str Try.underlying81 (hval 0 _ _ rfl rfl) h0
  rw [show Try.prog.cellsOf 81 = 4 by kernel_rfl] at hl0
  obtain ⟨c0_0, t0_0, rfl, hl0_0⟩ := len_cons hl0
  clear hl0
  obtain ⟨c0_1, t0_1, rfl, hl0_1⟩ := len_cons hl0_0
  clear hl0_0
  obtain ⟨c0_2, t0_2, rfl, hl0_2⟩ := len_cons hl0_1
  clear hl0_1
  obtain ⟨c0_3, t0_3, rfl, hl0_3⟩ := len_cons hl0_2
  clear hl0_2
  obtain rfl := len_nil hl0_3
  obtain ⟨y0_0, hy0_0⟩ := hf0 0 _ rfl
  replace hy0_0 : DataW.trod enc Try.prog W 0 (fun _ => true) true n0 24 [c0_0] = some y0_0 := by simpa [show Try.prog.cellsOf 24 = 1 by kernel_rfl] using hy0_0
  obtain ⟨Ax0, nx0, cx0, x0, rfl, hnx0, hcx0, hmx0, hRx0, hwx0⟩ := open_rd Try.underlying24 Try.underlying3 (by kernel_rfl) hy0_0
  obtain ⟨y0_1, hy0_1⟩ := hf0 1 _ rfl
  replace hy0_1 : DataW.trod enc Try.prog W 0 (fun _ => true) true n0 79 [c0_1] = some y0_1 := by simpa [show Try.prog.cellsOf 79 = 1 by kernel_rfl] using hy0_1
  obtain ⟨Ax1, nx1, cx1, x1, rfl, hnx1, hcx1, hmx1, hRx1, hwx1⟩ := open_rd Try.underlying79 Try.underlying5 (by kernel_rfl) hy0_1
  obtain ⟨y0_2, hy0_2⟩ := hf0 2 _ rfl
  replace hy0_2 : DataW.trod enc Try.prog W 0 (fun _ => true) true n0 4 [c0_2] = some y0_2 := by simpa [show Try.prog.cellsOf 4 = 1 by kernel_rfl] using hy0_2
  obtain ⟨x2, ex2, rfl⟩ := DataW.trod_bool Try.underlying4 hy0_2
  simp only [List.cons.injEq, and_true] at ex2
  subst ex2
  obtain ⟨y0_3, hy0_3⟩ := hf0 3 _ rfl
  replace hy0_3 : DataW.trod enc Try.prog W 0 (fun _ => true) true n0 3 [c0_3] = some y0_3 := by simpa [show Try.prog.cellsOf 3 = 1 by kernel_rfl] using hy0_3
  obtain ⟨x3, ex3, rfl, wx3⟩ := DataW.trod_int Try.underlying3 hy0_3
  simp only [List.cons.injEq, and_true] at ex3
  subst ex3
  refine (canonBits_any W Ax0 nx0 cx0 x0 hnx0 hcx0 hmx0 hRx0 (wf_is hwx0) Ax1 nx1 cx1 x1 hnx1 hcx1 hmx1 hRx1 (wf_bs hwx1) x2 x3 (wf_i wx3)).mono fun e W' ⟨he, hb⟩ => ?_
  subst he
  exact ⟨_, rfl, post_true Facts.laid hW' rfl rfl Try.underlying4 (by kernel_rfl) rfl hb⟩

set_option maxRecDepth 100000 in
theorem lifted (os : Os) (started : os.Started) (H : Type) (enc : TypeId × Value → H) :
    ReturnsInHanded {} Try.checked os 11 .any (Rows.canonBitsSpec.pre6 enc Try.prog Try.f11 Rows.canonBitsRow.domain false) (Rows.canonBitsSpec.post enc Try.prog Try.f11 false true false false) := by
  refine returnsInHanded_of_change (C := Try.checked) Facts.own started (by kernel_rfl) Try.func11
    (ChangeSpec.witness6 (enc := enc) (C := Try.checked) (os := os) false ⟨#[], #[.agg #[.slice none 0 0, .slice none 0 0, .bool false, .int .i64 0]], []⟩ 8 (by kernel_rfl) (by kernel_rfl) (by kernel_rfl) (by kernel_rfl)) ?_
  intro W base args ds gs before hval hW _ _
  exact contract H enc W base args ds gs before hval hW

theorem k_wf : Rows.canonBitsRow.wf (OpenSpec.ofChange Rows.canonBitsSpec) = true := by kernel_rfl
theorem k_inp : (Rows.canonBitsRow.inPlace == Try.prog.inPlace 11) = true := by kernel_rfl
theorem k_unf : (Rows.canonBitsRow.unfollowed == Try.prog.unfollowed 11) = true := by kernel_rfl
theorem k_rec : (Rows.canonBitsRow.recurses == Try.prog.recurses 11) = true := by kernel_rfl
theorem k_nam : (Rows.canonBitsRow.named == Try.prog.varsNamed 11) = true := by kernel_rfl
theorem k_pk : (Rows.canonBitsRow.plainKeys == Try.prog.plainKeys) = true := (congrArg (fun x => Rows.canonBitsRow.plainKeys == x) Facts.plainKeys).trans (by kernel_rfl)
theorem k_lf : (Rows.canonBitsRow.lifted == Try.prog.liftsFinal) = true := (congrArg (fun x => Rows.canonBitsRow.lifted == x) Facts.liftsFinal).trans (by kernel_rfl)
theorem k_mk : (Try.prog.make == some Rows.canonBitsRow.make) = true := (congrArg (fun x => x == some Rows.canonBitsRow.make) Facts.make).trans (by kernel_rfl)
theorem k_par : (Try.f11.params.all (Try.prog.readableRec ·)) = true := by kernel_rfl
theorem k_maps : (Rows.canonBitsRow.maps == (Try.f11.params.toList ++ Rows.canonBitsSpec.plain.varTypes Try.prog).any (Try.prog.mapsRec ·)) = true := by kernel_rfl
theorem k_ifs : (Rows.canonBitsRow.ifaces == (Try.f11.params.toList ++ Rows.canonBitsSpec.plain.varTypes Try.prog).any (Try.prog.ifacesRec ·)) = true := by kernel_rfl
theorem k_lps : (Rows.canonBitsRow.loops == (Try.f11.params.toList ++ Rows.canonBitsSpec.plain.varTypes Try.prog).any (Try.prog.loopsFrom ·)) = true := by kernel_rfl
theorem k_wk : (Rows.canonBitsRow.wideKeys == (Try.f11.params.toList ++ Rows.canonBitsSpec.plain.varTypes Try.prog ++ Try.f11.resultTypes.toList).any (Try.prog.wideKeysFrom ·)) = true := by kernel_rfl
theorem k_vl : (Rows.canonBitsRow.veiled == (Try.f11.params.toList ++ Rows.canonBitsSpec.plain.varTypes Try.prog ++ Try.f11.resultTypes.toList).any (Try.prog.veiledRec ·)) = true := by kernel_rfl
theorem closed : joinedFacts Try.prog 11 Try.f11 Rows.canonBitsSpec Rows.canonBitsRow = true :=
  Facts.and_i (Facts.and_i (Facts.and_i (Facts.and_i (Facts.and_i (Facts.and_i (Facts.and_i (Facts.and_i (Facts.and_i (Facts.and_i (Facts.and_i (Facts.and_i (Facts.and_i (Facts.and_i (Facts.and_i (Facts.and_i (Facts.and_i (Facts.and_i (Facts.and_i (Facts.and_i (Facts.and_i (Facts.and_i (Facts.and_i (Facts.and_i (Facts.and_i (Facts.and_i (Facts.and_i (Facts.and_i (Facts.and_i (Facts.and_i (Facts.and_i
    k_wf Facts.laid) Facts.mapsRowed_) k_par) rfl) rfl) Facts.stops) rfl) Facts.stopKnobs) k_inp) k_unf) k_rec) k_nam) k_maps) k_ifs) (by kernel_rfl)) k_lps) k_wk) rfl) (by kernel_rfl)) (by kernel_rfl)) (by kernel_rfl)) k_pk) rfl) Facts.stopsHeard) Facts.mayEnter) k_lf) k_mk) (by kernel_rfl)) (by kernel_rfl)) k_vl) (by kernel_rfl)
theorem named : Try.prog.funcNamed Rows.canonBitsRow.func = some 11 := by kernel_rfl

theorem proved : Rows.CanonBitsSaid :=
  OpenClaim.holds_of_wide 11 Try.f11 rfl rfl rfl rfl rfl rfl rfl ⟨rfl, rfl, rfl, rfl, rfl⟩ rfl rfl rfl rfl rfl named Try.func11 closed
    (of_decide_eq_true (by kernel_rfl)) (by unfold Func.isWrapper; first | (rw [if_pos (by decide +kernel)]; kernel_rfl) | (rw [if_neg (by decide +kernel)]; exact ⟨rfl, rfl⟩))
    (fun os started H enc _ => lifted os started H enc)
end CanonBits
#print axioms CanonBits.proved
end Go.Proofs.Ytlhappecjjbopaa
