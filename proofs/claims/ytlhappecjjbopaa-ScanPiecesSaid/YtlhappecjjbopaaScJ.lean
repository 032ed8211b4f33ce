/-
  ScanPieces: which pieces any block has. No condition.
-/
import Derived.Test.YtlhappecjjbopaaScI
import Derived.Test.YtlhappecjjbopaaFacts
import Derived.Test.YtlhappecjjbopaaArw
namespace Go.Proofs.Ytlhappecjjbopaa
open Go.ChangeShapes Go.WideShapes Go.ChangeAt Go.WideMaps Go.WideElems Go.RowKit Go.Joins
set_option linter.unusedVariables false
set_option maxRecDepth 100000

/-- a load of a whole array behind a guard that is met -/
theorem wpList_load_midG {P : Program} {ops : Array Oper} {rest : List Oper} {op : Oper} {a : Act} {w : World} {Q : Exit → Act → World → Prop} (hw : Region.wanted op (yielded ops a.tmps) = true) (ty : TypeId) (x : Operand) (ho : op.op = .load ty x)
    (b o : Nat) (hx : a.eval x = .pointer (some ⟨b, o, none⟩)) (cs : List Value) (d : TypeDesc) (hc : w.rangeAt b o cs)
    (hu : P.underlying ty = some d) (hd : d.isRow = true) (hi : (P.info? ty).map (·.size) = some cs.length)
    (h : wpList P ops Q rest (a.put op.dst (.agg cs.toArray)) w) : wpList P ops Q (op :: rest) a w := by
  unfold wpList
  rw [if_pos hw]
  exact .inl (wp_load_mid ty x ho b o hx cs d hc hu hd hi h)
set_option maxHeartbeats 8000000 in
theorem scanPieces_any (w : World) (b : List Int) (hb : b.length = 64) (hI : Is b) (ahead : Int) (hah : -9223372036854775808 ≤ ahead ∧ ahead ≤ 9223372036854775807) :
    Calls Try.prog 10 #[.agg (iv b).toArray, .int .i64 ahead] w fun e w' => e = .returned (.bool true) ∧ Below w.heap.size w w' := by
  have X := Bln.new w 70 (iv b)
  have hb0 : Below w.heap.size w (w.alloc (.cells (iv b).toArray 70)) := (Below.refl _ _).alloc (Nat.le_refl _) _
  have HB := Lib.hid hb
  have hi70 : (Try.prog.info? 70).map (·.size) = some (iv b).length := by rw [iv_len, hb]; kernel_rfl
  have HI70 := Lib.hid hi70
  clear hb hi70
  go_enter Try.func10, Try.ntmps10
  go_upto_region 1 with fail
  generalize w.alloc (.cells (iv b).toArray 70) = w0 at *
  have hs0 := hb0.size
  go_wp2_with fail
  refine (alive21_any w0).mono ?_; rintro e w1 ⟨rfl, hb1⟩
  have X1 := X.below hb1
  have hb1' := hb0.trans (hb1.mono hs0)
  have hs1 := hb1'.size
  have hr1 := X1.range 0 (iv b) (fun j v hv => by rw [Nat.zero_add]; exact hv)
  go_wp2_with (refine wpList_load_mid rfl 70 (.tmp 2) rfl _ _ rfl (iv b) _ hr1 Try.underlying70 rfl HI70.out ?_)
  refine (pieces_any b HB.out hI ahead w1).mono ?_; rintro e w2 ⟨h1, h2, hb2⟩
  have X2 := X1.below hb2
  have hb2' := hb1'.trans (hb2.mono hs1)
  have hs2 := hb2'.size
  have hr2 := X2.range 0 (iv b) (fun j v hv => by rw [Nat.zero_add]; exact hv)
  clear hr1
  by_cases hok : GoodB b ∧ DcB ahead
  · obtain ⟨v, rfl, hP⟩ := h1 hok
    obtain ⟨A1, c1, hve, _, _, hR1⟩ := own_sliceN hP
    subst hve
    have HOK := Lib.hid hok
    have HD := Lib.hid (decide_eq_true hok.2)
    clear h1 h2 hok hP
    go_wp2_with (refine wpList_load_mid rfl 70 (.tmp 2) rfl _ _ rfl (iv b) _ hr2 Try.underlying70 rfl HI70.out ?_)
    refine (check_any b HB.out w2).mono ?_; rintro e w3 ⟨h3, _, hb3⟩
    obtain rfl := h3 HOK.out.1
    have X3 := X2.below hb3
    have hb3' := hb2'.trans (hb3.mono hs2)
    have hs3 := hb3'.size
    have hr3 := X3.range 0 (iv b) (fun j v hv => by rw [Nat.zero_add]; exact hv)
    clear h3 hr2
    go_wp2_with (refine wpList_load_mid rfl 70 (.tmp 2) rfl _ _ rfl (iv b) _ hr3 Try.underlying70 rfl HI70.out ?_)
    refine (good_any b HB.out true ⟨fun _ => HOK.out.1, fun _ => rfl⟩ w3).mono ?_; rintro e w4 ⟨rfl, hb4⟩
    have X4 := X3.below hb4
    have hb4' := hb3'.trans (hb4.mono hs3)
    have hs4 := hb4'.size
    have hr4 := X4.range 0 (iv b) (fun j v hv => by rw [Nat.zero_add]; exact hv)
    have hb24 := hb3.trans (hb4.mono hb3.size)
    clear hr3
    go_wp2_with (first | (go_at_call 51; refine (rdc_any _ _).mono ?_; rintro e w' ⟨rfl, rfl⟩; rw [HD.out]) | refine wpList_load_midG (by rfl) 70 (.tmp 2) rfl _ _ rfl (iv b) _ hr4 Try.underlying70 rfl HI70.out ?_)
    refine (refPieces_any b HB.out hI HOK.out.1 ahead HOK.out.2 w4).mono ?_; rintro e w5 ⟨v5, rfl, hP5, hb5⟩
    obtain ⟨A5, c5, hve, _, _, hR5⟩ := own_sliceN hP5
    subst hve
    have hb5' := hb4'.trans (hb5.mono hs4)
    have hb25 := hb24.trans (hb5.mono hb24.size)
    have hR15 := (hR1.below hb25).more hb25.size
    have hpl : (pcs b ahead).length ≤ 1000 := by
      have h := pst_bd b 63
      show (numP false (b.getD 0 0 - ahead) 0 :: ((pst b 63).1 ++ tailP (pst b 63).2)).length ≤ 1000
      have h2 : (tailP (pst b 63).2).length ≤ 1 := by unfold tailP; split <;> simp
      rw [List.length_cons, List.length_append]; omega
    generalize hpq : pcs b ahead = ps at *
    go_wp2_with fail
    refine (same21_any A1 A5 ps.length c1 c5 ps w5 rfl hR15 hR5 (by omega)).mono ?_; rintro e w6 ⟨rfl, hb6⟩
    go_wp2
    go_ret
    exact ⟨rfl, hb5'.trans (hb6.mono hb5'.size)⟩
  · obtain rfl := h2 hok
    have HNO := Lib.hid hok
    clear h1 h2 hok
    unfold errV
    go_wp2_with (refine wpList_load_mid rfl 70 (.tmp 2) rfl _ _ rfl (iv b) _ hr2 Try.underlying70 rfl HI70.out ?_)
    refine (check_any b HB.out w2).mono ?_; rintro e w3 ⟨h3, h4, hb3⟩
    have X3 := X2.below hb3
    have hb3' := hb2'.trans (hb3.mono hs2)
    have hs3 := hb3'.size
    have hr3 := X3.range 0 (iv b) (fun j v hv => by rw [Nat.zero_add]; exact hv)
    clear hr2
    by_cases hg : GoodB b
    · obtain rfl := h3 hg
      have HG := Lib.hid hg
      have HD := Lib.hid (decide_eq_false (p := DcB ahead) (fun h => HNO.out ⟨hg, h⟩))
      clear h3 h4 hg
      go_wp2_with (refine wpList_load_mid rfl 70 (.tmp 2) rfl _ _ rfl (iv b) _ hr3 Try.underlying70 rfl HI70.out ?_)
      refine (good_any b HB.out true ⟨fun _ => HG.out, fun _ => rfl⟩ w3).mono ?_; rintro e w4 ⟨rfl, hb4⟩
      have hb4' := hb3'.trans (hb4.mono hs3)
      go_wp2_with (first | (go_at_call 51; refine (rdc_any _ _).mono ?_; rintro e w' ⟨rfl, rfl⟩; rw [HD.out]) | (go_at_call 35; refine (is_err 6 6 (by omega) _).mono ?_; rintro e w' ⟨rfl, rfl⟩))
      go_ret
      exact ⟨rfl, hb4'⟩
    · obtain rfl := h4 hg
      have HG := Lib.hid hg
      clear h3 h4 hg
      unfold errV
      go_wp2_with (refine wpList_load_mid rfl 70 (.tmp 2) rfl _ _ rfl (iv b) _ hr3 Try.underlying70 rfl HI70.out ?_)
      refine (good_any b HB.out false ⟨fun h => (by cases h), fun h => absurd h HG.out⟩ w3).mono ?_; rintro e w4 ⟨rfl, hb4⟩
      have hb4' := hb3'.trans (hb4.mono hs3)
      go_wp2_with (go_at_call 35; refine (is_err 6 6 (by omega) _).mono ?_; rintro e w' ⟨rfl, rfl⟩)
      go_ret
      exact ⟨rfl, hb4'⟩
namespace ScanPieces
set_option maxRecDepth 100000 in
theorem contract (H : Type) (enc : TypeId × Value → H) (W : World) (base : Nat) (args : Array Value) (ds gs : List (DataW H)) (before : List MemPlace)
    (hval : ∀ (j : Nat) t v, Try.f10.params[j]? = some t → args[j]? = some v → Value.okWide Try.prog W .any base t v)
    (hW : DataW.Whole enc Try.prog Try.f10.params.toList Rows.scanPiecesSpec.vars false W args.toList ds gs before) :
    Calls Try.prog 10 args W fun e W' => ∃ v, e = .returned v ∧ Rows.scanPiecesSpec.post enc Try.prog Try.f10 false true false false W args v W' := by
  have hW' := hW
  obtain ⟨p, q, hA0, hV, rfl, hfz, hnd⟩ := hW
  have hA : DataW.TrodAll enc Try.prog W 0 (fun _ => true) true Try.f10.params.toList args.toList ds p := hA0
  rw [Try.params10] at hA hval
  clear hA0
  obtain ⟨v0, vs0, d0, ds0, p0, q0, hargs, rfl, rfl, h0, r0⟩ := trodAll_cons hA
  obtain ⟨v1, vs1, d1, ds1, p1, q1, rfl, rfl, rfl, h1, r1⟩ := trodAll_cons r0
  obtain ⟨rfl, rfl, rfl⟩ := trodAll_nil r1
  obtain rfl : args = #[v0, v1] := by cases args; simp_all
  obtain ⟨rfl, rfl⟩ := trodVars_none hV
  obtain ⟨fu0, hf0⟩ := h0
  obtain ⟨cs0, rfl, _⟩ := okWide_array Try.underlying70 (hval 0 _ _ rfl rfl)
  obtain ⟨x0, ex0, hlx0, hIx0⟩ := arr_ints Try.underlying70 Try.underlying3 (by kernel_rfl) (by kernel_rfl) hf0
  simp only [Value.cells] at ex0
  obtain rfl : cs0 = _ := by rw [← Array.toArray_toList (xs := cs0), ex0]
  obtain ⟨x1, rfl, rfl, rfl, wx1⟩ := open_int Try.underlying3 (hval 1 _ _ rfl rfl) h1
  refine (scanPieces_any W x0 hlx0 hIx0 x1 (wf_i wx1)).mono fun e W' ⟨he, hb⟩ => ?_
  subst he
  exact ⟨_, rfl, post_true Facts.laid hW' rfl rfl Try.underlying4 (by kernel_rfl) rfl hb⟩

set_option maxRecDepth 100000 in
theorem lifted (os : Os) (started : os.Started) (H : Type) (enc : TypeId × Value → H) :
    ReturnsInHanded {} Try.checked os 10 .any (Rows.scanPiecesSpec.pre6 enc Try.prog Try.f10 Rows.scanPiecesRow.domain false) (Rows.scanPiecesSpec.post enc Try.prog Try.f10 false true false false) := by
  refine returnsInHanded_of_change (C := Try.checked) Facts.own started (by kernel_rfl) Try.func10
    (ChangeSpec.witness6 (enc := enc) (C := Try.checked) (os := os) false ⟨#[], #[.agg #[.int .i64 0, .int .i64 0, .int .i64 0, .int .i64 0, .int .i64 0, .int .i64 0, .int .i64 0, .int .i64 0, .int .i64 0, .int .i64 0, .int .i64 0, .int .i64 0, .int .i64 0, .int .i64 0, .int .i64 0, .int .i64 0, .int .i64 0, .int .i64 0, .int .i64 0, .int .i64 0, .int .i64 0, .int .i64 0, .int .i64 0, .int .i64 0, .int .i64 0, .int .i64 0, .int .i64 0, .int .i64 0, .int .i64 0, .int .i64 0, .int .i64 0, .int .i64 0, .int .i64 0, .int .i64 0, .int .i64 0, .int .i64 0, .int .i64 0, .int .i64 0, .int .i64 0, .int .i64 0, .int .i64 0, .int .i64 0, .int .i64 0, .int .i64 0, .int .i64 0, .int .i64 0, .int .i64 0, .int .i64 0, .int .i64 0, .int .i64 0, .int .i64 0, .int .i64 0, .int .i64 0, .int .i64 0, .int .i64 0, .int .i64 0, .int .i64 0, .int .i64 0, .int .i64 0, .int .i64 0, .int .i64 0, .int .i64 0, .int .i64 0, .int .i64 0], .int .i64 0], []⟩ 8 (by kernel_rfl) (by kernel_rfl) (by kernel_rfl) (by kernel_rfl)) ?_
  intro W base args ds gs before hval hW _ _
  exact contract H enc W base args ds gs before hval hW

theorem k_wf : Rows.scanPiecesRow.wf (OpenSpec.ofChange Rows.scanPiecesSpec) = true := by kernel_rfl
theorem k_inp : (Rows.scanPiecesRow.inPlace == Try.prog.inPlace 10) = true := by kernel_rfl
theorem k_unf : (Rows.scanPiecesRow.unfollowed == Try.prog.unfollowed 10) = true := by kernel_rfl
theorem k_rec : (Rows.scanPiecesRow.recurses == Try.prog.recurses 10) = true := by kernel_rfl
theorem k_nam : (Rows.scanPiecesRow.named == Try.prog.varsNamed 10) = true := by kernel_rfl
theorem k_pk : (Rows.scanPiecesRow.plainKeys == Try.prog.plainKeys) = true := (congrArg (fun x => Rows.scanPiecesRow.plainKeys == x) Facts.plainKeys).trans (by kernel_rfl)
theorem k_lf : (Rows.scanPiecesRow.lifted == Try.prog.liftsFinal) = true := (congrArg (fun x => Rows.scanPiecesRow.lifted == x) Facts.liftsFinal).trans (by kernel_rfl)
theorem k_mk : (Try.prog.make == some Rows.scanPiecesRow.make) = true := (congrArg (fun x => x == some Rows.scanPiecesRow.make) Facts.make).trans (by kernel_rfl)
theorem k_par : (Try.f10.params.all (Try.prog.readableRec ·)) = true := by kernel_rfl
theorem k_maps : (Rows.scanPiecesRow.maps == (Try.f10.params.toList ++ Rows.scanPiecesSpec.plain.varTypes Try.prog).any (Try.prog.mapsRec ·)) = true := by kernel_rfl
theorem k_ifs : (Rows.scanPiecesRow.ifaces == (Try.f10.params.toList ++ Rows.scanPiecesSpec.plain.varTypes Try.prog).any (Try.prog.ifacesRec ·)) = true := by kernel_rfl
theorem k_lps : (Rows.scanPiecesRow.loops == (Try.f10.params.toList ++ Rows.scanPiecesSpec.plain.varTypes Try.prog).any (Try.prog.loopsFrom ·)) = true := by kernel_rfl
theorem k_wk : (Rows.scanPiecesRow.wideKeys == (Try.f10.params.toList ++ Rows.scanPiecesSpec.plain.varTypes Try.prog ++ Try.f10.resultTypes.toList).any (Try.prog.wideKeysFrom ·)) = true := by kernel_rfl
theorem k_vl : (Rows.scanPiecesRow.veiled == (Try.f10.params.toList ++ Rows.scanPiecesSpec.plain.varTypes Try.prog ++ Try.f10.resultTypes.toList).any (Try.prog.veiledRec ·)) = true := by kernel_rfl
theorem closed : joinedFacts Try.prog 10 Try.f10 Rows.scanPiecesSpec Rows.scanPiecesRow = true :=
  Facts.and_i (Facts.and_i (Facts.and_i (Facts.and_i (Facts.and_i (Facts.and_i (Facts.and_i (Facts.and_i (Facts.and_i (Facts.and_i (Facts.and_i (Facts.and_i (Facts.and_i (Facts.and_i (Facts.and_i (Facts.and_i (Facts.and_i (Facts.and_i (Facts.and_i (Facts.and_i (Facts.and_i (Facts.and_i (Facts.and_i (Facts.and_i (Facts.and_i (Facts.and_i (Facts.and_i (Facts.and_i (Facts.and_i (Facts.and_i (Facts.and_i
    k_wf Facts.laid) Facts.mapsRowed_) k_par) rfl) rfl) Facts.stops) rfl) Facts.stopKnobs) k_inp) k_unf) k_rec) k_nam) k_maps) k_ifs) (by kernel_rfl)) k_lps) k_wk) rfl) (by kernel_rfl)) (by kernel_rfl)) (by kernel_rfl)) k_pk) rfl) Facts.stopsHeard) Facts.mayEnter) k_lf) k_mk) (by kernel_rfl)) (by kernel_rfl)) k_vl) (by kernel_rfl)
theorem named : Try.prog.funcNamed Rows.scanPiecesRow.func = some 10 := by kernel_rfl

theorem proved : Rows.ScanPiecesSaid :=
  OpenClaim.holds_of_wide 10 Try.f10 rfl rfl rfl rfl rfl rfl rfl ⟨rfl, rfl, rfl, rfl, rfl⟩ rfl rfl rfl rfl rfl named Try.func10 closed
    (of_decide_eq_true (by kernel_rfl)) (by unfold Func.isWrapper; first | (rw [if_pos (by decide +kernel)]; kernel_rfl) | (rw [if_neg (by decide +kernel)]; exact ⟨rfl, rfl⟩))
    (fun os started H enc _ => lifted os started H enc)
end ScanPieces
#print axioms ScanPieces.proved
end Go.Proofs.Ytlhappecjjbopaa
