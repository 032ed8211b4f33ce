/-
  CanonNone: what a nil book answers, and one without codes, and what a nil reader and writer come to. No condition.
  canon's All: the iterator over a book's symbols, by a contract. No condition.
-/
import Derived.RangeFuncNested
import Derived.RangeFuncBound
import Derived.RangeFuncCalls
import Derived.RangeFuncLeaves
import Derived.RangeFuncBox
import Derived.Shelf.Abstract
import Derived.OwnWalkIn
import Derived.TacticsInMore
import Derived.LoopNIn
import Derived.LoopIn
import Derived.Test.YtlhappecjjbopaaCaW
namespace Go.Proofs.Ytlhappecjjbopaa
open Go.ChangeShapes Go.WideShapes Go.ChangeAt Go.WideMaps Go.WideElems Go.RowKit Go.Joins Go.Shelf
set_option linter.unusedVariables false
set_option maxRecDepth 100000

def RetB (v : Value) (w : World) (e : Ending) (w' : World) : Prop := e = .returned v ∧ Below w.heap.size w w'
set_option maxHeartbeats 2000000 in
theorem read_nilr (p : Nat) (ls : List Int) (O : List Nat) (C : List Int) (w : World) (hB : Bk w p ls O C) (h0 : 0 < O.length) (h5 : O.length ≤ 512) :
    Calls Try.prog 63 #[.pointer (some ⟨p, 0, none⟩), .pointer none] w (RetB (.tuple #[.int .i64 0, errV 8]) w) := by
  unfold errV
  obtain ⟨A, c, y0, _⟩ := hB.ord
  generalize O.length = n at *
  have hb0 : ∀ n, Below w.heap.size w (w.drewN n) := fun n => ⟨rfl, rfl, rfl, Nat.le_refl _, fun _ _ => rfl⟩
  clear hB
  go_enter Try.func63, Try.ntmps63
  go_upto_region 3 with fail
  go_quiet (fail)
  go_wp2
  refine wp_loop_rounds 1 ?_
  rw [rounds_succ]
  go_wp2_with fail
  refine (take_nil 1 (by omega) _).mono ?_; rintro e w' ⟨rfl, rfl⟩
  unfold errV
  go_wp2
  go_ret2
  exact ⟨rfl, hb0 _⟩

/-- All: the book's pointer is boxed -/
theorem all_any (v : Option Addr) (w : World) : Calls Try.prog 46 #[.pointer v] w fun e w' => e = .returned (.func (.func 105) #[] #[.pointer (some ⟨w.heap.size, 0, none⟩)]) ∧ w' = w.alloc (.cells #[.pointer v] 63) := by
  go_enter Try.func46, Try.ntmps46
  go_wp2
  go_ret
  exact ⟨rfl, rfl⟩
set_option maxHeartbeats 1000000 in
/-- .. of a nil book: no round -/
theorem all1_nil (F : Fence) (n : Nat) (h8 : F.fn 105) (hro : F.round = none) (l Bs : Nat) (J : List Empty → World → Prop) (W : World) (hBs : W.cell? ⟨Bs, 0, none⟩ = some (.pointer none)) (h0 : J [] W) :
    CallsIn F n Try.prog 105 #[.func (.yield l) #[] #[], .pointer (some ⟨Bs, 0, none⟩)] W fun e W' => (∃ v, e = .returned v) ∧ J [] W' := by
  refine callsIn_of_wp Try.func105 rfl h8 ?_ hro
  simp only [Try.ntmps105, List.size_toArray, List.length_cons, List.length_nil, Nat.reduceAdd, Nat.reduceSub, Array.replicate_succ, Array.replicate_zero, List.push_toArray, List.append_toArray, List.nil_append, List.cons_append]
  gi_wp2
  refine bodyPost_ret (results_none rfl _ _ _) rfl ?_
  exact ⟨⟨_, rfl⟩, h0⟩
theorem all_nil_stops (F : Fence) (n : Nat) (h8 : F.fn 105) (hro : F.round = none) (Bs n₀ : Nat) (w : World) (hBs : Bs < w.heap.size) (hc : w.cell? ⟨Bs, 0, none⟩ = some (.pointer none)) (encs : Empty → Array Value) :
    SeqStopsK F n Try.prog 105 #[.pointer (some ⟨Bs, 0, none⟩)] encs (Below n₀) (fun ys => ys = []) (fun _ => False) 0 w := fun l J Jx W hW _ _ hY h0 => by
  have hc' := (hW.cell (p := ⟨Bs, 0, none⟩) hBs).trans hc
  exact (all1_nil F n h8 hro l Bs J W hc' h0).mono fun e W' ⟨he, hj⟩ => ⟨he, .inl ⟨_, rfl, hj⟩⟩

theorem canonNone_any (w : World) (A : Option Addr) (n c : Nat) (b : List Int) (hn : b.length = n) (hcc : n ≤ c) (hmm : c ≤ 9223372036854775807) (hR : Rd w w.heap.size A (bv b)) (hB : Bs b) (x : Int) (hx : -9223372036854775808 ≤ x ∧ x ≤ 9223372036854775807) :
    Calls Try.prog 13 #[.slice A n c, .int .i64 x] w (RetB (.bool true) w) := by
  have HN := Lib.hid hn
  clear hn
  refine callsIn_wide.1 (callsIn_of_wp_marks (F := Fence.wide) (n := 20) Try.func13 rfl trivial (wpIn_wide.2 ?_) rfl)
  simp only [Try.ntmps13, List.size_toArray, List.length_cons, List.length_nil, Nat.reduceAdd, Nat.reduceSub, Array.replicate_succ, Array.replicate_zero, List.push_toArray, List.append_toArray, List.nil_append, List.cons_append]
  go_wp2_with fail
  refine (example_any _).mono ?_; rintro e w1 ⟨rfl, hR1, hb1⟩
  go_wp2_with fail
  refine (newBook_any _ 8 8 exL w1 rfl hR1 ex_is).mono ?_; rintro e w2 ⟨h3, _, hb2⟩
  obtain ⟨p1, C1, rfl, hB1, hC1, hp1⟩ := h3 ex_fm
  have hb2' := hb1.trans (hb2.mono hb1.size)
  have hs2 := hb2'.size
  have hol : 0 < (ordU exL 16).length ∧ (ordU exL 16).length ≤ 512 := by decide +kernel
  have ho5 : lenL exL 5 = 2 := by decide +kernel
  have hve : Vl exL := ex_fm.2.1
  have HO5 := Lib.hid ho5
  have HVE := Lib.hid hve
  obtain ⟨LE, hLE⟩ : ∃ l, l = exL := ⟨_, rfl⟩
  rw [← hLE] at HO5 HVE
  generalize hOE : ordU exL 16 = OE at *
  rw [← hLE] at hB1
  have hf0 : Fm [] := by decide +kernel
  clear h3 hR1 hb1 hb2 hp1 hC1 ho5 hve hLE hOE
  go_wp2_with fail
  refine (newBook_any none 0 0 [] w2 rfl (.inl rfl) (fun x hx => by simp at hx)).mono ?_; rintro e w3 ⟨h4, _, hb3⟩
  obtain ⟨p2, C2, rfl, hB2, _, _⟩ := h4 hf0
  have hb3' := hb2'.trans (hb3.mono hs2)
  have hs3 := hb3'.size
  have hB1' := hB1.below hb3
  have hO0 : ordU [] 16 = [] := by decide +kernel
  rw [hO0] at hB2
  clear h4 hf0 hB1 hb3 hb2' hs2 hO0
  by_cases h100 : 100 < n
  · have d1 : decide ((100 : Int) < (n : Int)) = true := decide_eq_true (by omega)
    go_wp2
    exact ⟨_, results_tmp rfl _ _ _, rfl, hb3'⟩
  · have d1 : decide ((100 : Int) < (n : Int)) = false := decide_eq_false (by omega)
    go_wp2_with fail
    refine (length_any p1 LE OE C1 5 w3 hB1' HVE.out).mono ?_; rintro e w' ⟨rfl, rfl⟩
    rw [HO5.out]
    go_wp2_with fail
    refine (newReader_any A n c false b w' HN.out ((hR.below hb3').more hs3) hB (by omega)).mono ?_; rintro e w4 ⟨rp, Ar, cr, rfl, hx4, hrp, hAr, hb4⟩
    have hb4' := hb3'.trans (hb4.mono hs3)
    have hs4 := hb4'.size
    go_wp2_with fail
    refine (newWriter_any false w4).mono ?_; rintro e w5 ⟨rfl, _, hb5⟩
    have hb5' := hb4'.trans (hb5.mono hs4)
    have hs5 := hb5'.size
    have hx5 := hx4.below hb5
    have hB1b := (hB1'.below hb4).below hb5
    have hB2b := (hB2.below hb4).below hb5
    generalize w4.heap.size = wq at *
    clear hB1' hB2 hb3' hs3 hb4 hb4' hs4 hx4 hAr hrp hb5
    unfold errV at *
    go_wp2_with fail
    refine (read_nil _ w5).mono ?_; rintro e w' ⟨rfl, rfl⟩
    unfold errV
    go_wp2_with fail
    refine (read_none _ p2 [] C2 _ hB2b).mono ?_; rintro e w6 ⟨rfl, hb6⟩
    unfold errV
    have hx6 := hx5.below hb6
    have hB1c := hB1b.below hb6
    have hB2c := hB2b.below hb6
    have hb6' := hb5'.trans (hb6.mono hs5)
    have hs6 := hb6'.size
    clear hx5 hB1b hB2b hb5' hb6
    go_wp2_with fail
    refine (read_nilr p1 LE OE C1 w6 hB1c hol.1 hol.2).mono ?_; rintro e w7 ⟨rfl, hb7⟩
    unfold errV
    have hx7 := hx6.below hb7
    have hB1d := hB1c.below hb7
    have hB2d := hB2c.below hb7
    have hb7' := hb6'.trans (hb7.mono hs6)
    have hs7 := hb7'.size
    clear hx6 hB1c hB2c hb6' hb7
    go_wp2_with fail
    refine (all_any none _).mono ?_; rintro e w8 ⟨rfl, hw8⟩
    go_wp2_with fail
    have bS := Boxed.new w7 3 (.int .i64 0)
    have bN := Boxed.new (w7.alloc (.cells #[.int .i64 0] 3)) 63 (.pointer none)
    rw [World.size_alloc] at bN
    have c8 : w8.cell? ⟨w7.heap.size, 0, none⟩ = some (.int .i64 0) := by rw [hw8]; exact (bS.alloc _).cell
    have c9 : w8.cell? ⟨w7.heap.size + 1, 0, none⟩ = some (.pointer none) := by rw [hw8]; exact bN.cell
    clear bS bN
    have hz8 : w8.heap.size = w7.heap.size + 2 := by rw [hw8, World.size_alloc, World.size_alloc]
    have hb8 : Below w7.heap.size w7 w8 := by rw [hw8]; exact ((Below.refl _ _).alloc (Nat.le_refl _) _).alloc (by rw [World.size_alloc]; omega) _
    have hx8 := hx7.below hb8
    have hB1e := hB1d.below hb8
    have hB2e := hB2d.below hb8
    have hb8' := hb7'.trans (hb8.mono hs7)
    have hs8 := hb8'.size
    rw [← hw8]
    clear hw8
    generalize w7.heap.size = nb at *
    clear hx7 hB1d hB2d hb7' hs7 hb8
    refine (wpIn_wide (n := 20)).1 ?_
    refine wpIn_rangeFunc_ownF (F := Fence.wide) rfl (by decide) (gf := 105) (lb := #[.pointer (some ⟨nb + 1, 0, none⟩)]) rfl trivial (enters_of Try.func105 (by kernel_rfl) rfl)
      (all_nil_stops Fence.wide 19 trivial rfl (nb + 1) w8.heap.size w8 (by omega) c9 (fun x => x.elim)) belowK_t (belowK_b (Nat.le_refl _)) (Below.refl _ _) (fun x => x.elim)
      (fun _ W => Below w8.heap.size w8 W) (fun _ _ _ => False) (ownFrom_below (Nat.le_refl _) (Nat.le_refl _)) (fun _ _ _ _ _ hs _ _ => hs) (Below.refl _ _) (fun x => x.elim)
      (fun _ x => x.elim) (fun _ _ x => x.elim) ?done ?stop
    case done =>
      rintro D xs W hD rfl hI hK
      have hxW := hx8.below hI
      have hB2W := hB2e.below hI
      have hB1W := hB1e.below hI
      have cW : W.cell? ⟨nb, 0, none⟩ = some (.int .i64 0) := (hI.cell (p := ⟨nb, 0, none⟩) (by show nb < _; omega)).trans c8
      have hbW := hb8'.trans (hI.mono hs8)
      clear hx8 hB2e hB1e c8 c9 hb8'
      have i2 : decide ((2 : Int) = 2) = true := rfl
      have i8 : decide ((8 : Int) = 8) = true := rfl
      have i6 : decide ((6 : Int) = 6) = true := rfl
      go_wp2_with fail
      refine (is_err 2 2 (by decide) _).mono ?_; rintro e w' ⟨rfl, rfl⟩
      go_wp2_with fail
      refine (is_err 2 2 (by decide) _).mono ?_; rintro e w' ⟨rfl, rfl⟩
      go_wp2_with fail
      refine (at_any hxW).mono ?_; rintro e w' ⟨rfl, rfl⟩
      go_wp2_with fail
      refine (is_err 8 8 (by decide) _).mono ?_; rintro e w' ⟨rfl, rfl⟩
      go_wp2_with fail
      refine (write_nil _ _ _).mono ?_; rintro e w' ⟨rfl, rfl⟩
      unfold errV
      go_wp2_with fail
      refine (is_err 6 6 (by decide) _).mono ?_; rintro e w' ⟨rfl, rfl⟩
      go_wp2_with fail
      refine (write_bad _ p2 [] [] C2 x _ hB2W (fun y hy => by simp at hy) (.inl (fun h => by have h1 := h.2.1; have h2 := h.1; simp at h1; omega))).mono ?_; rintro e w9 ⟨rfl, rfl⟩
      unfold errV
      go_wp2_with fail
      refine (is_err 6 6 (by decide) _).mono ?_; rintro e w' ⟨rfl, rfl⟩
      go_wp2_with fail
      refine (write_bad none p1 LE OE C1 5 _ hB1W HVE.out (.inr rfl)).mono ?_; rintro e w9 ⟨rfl, rfl⟩
      unfold errV
      go_wp2_with fail
      refine (is_err 6 6 (by decide) _).mono ?_; rintro e w' ⟨rfl, rfl⟩
      go_wp2_with fail
      refine (length_nil x _).mono ?_; rintro e w9 ⟨rfl, rfl⟩
      go_wp2
      refine ⟨by simp, .inl ⟨_, _, rfl, run_takeDeferred hK, ?_⟩⟩
      exact ⟨_, results_tmp rfl _ _ _, rfl, hbW.trans (belowK_b (w := w) (Nat.le_refl _) _ D _ _ (by omega) hK rfl rfl)⟩
    case stop =>
      rintro D c' pre W hD hS h _
      exact h.elim
namespace CanonNone
set_option maxRecDepth 100000 in
theorem contract (H : Type) (enc : TypeId × Value → H) (W : World) (base : Nat) (args : Array Value) (ds gs : List (DataW H)) (before : List MemPlace)
    (hval : ∀ (j : Nat) t v, Try.f13.params[j]? = some t → args[j]? = some v → Value.okWide Try.prog W .any base t v)
    (hW : DataW.Whole enc Try.prog Try.f13.params.toList Rows.canonNoneSpec.vars false W args.toList ds gs before) :
    Calls Try.prog 13 args W fun e W' => ∃ v, e = .returned v ∧ Rows.canonNoneSpec.post enc Try.prog Try.f13 false true false false W args v W' := by
  have hW' := hW
  obtain ⟨p, q, hA0, hV, rfl, hfz, hnd⟩ := hW
  have hA : DataW.TrodAll enc Try.prog W 0 (fun _ => true) true Try.f13.params.toList args.toList ds p := hA0
  rw [Try.params13] at hA hval
  clear hA0
  obtain ⟨v0, vs0, d0, ds0, p0, q0, hargs, rfl, rfl, h0, r0⟩ := trodAll_cons hA
  obtain ⟨v1, vs1, d1, ds1, p1, q1, rfl, rfl, rfl, h1, r1⟩ := trodAll_cons r0
  obtain ⟨rfl, rfl, rfl⟩ := trodAll_nil r1
  obtain rfl : args = #[v0, v1] := by cases args; simp_all
  obtain ⟨rfl, rfl⟩ := trodVars_none hV
  obtain ⟨Ax0, nx0, cx0, rfl⟩ := okWide_slice Try.underlying79 (hval 0 _ _ rfl rfl)
  obtain ⟨fu0, hf0⟩ := h0
  obtain ⟨A', n', c', x0, ev0, hnx0, hcx0, hmx0, hRx0, hwx0⟩ := open_rd Try.underlying79 Try.underlying5 (by kernel_rfl) hf0
  injection ev0 with ea eb ec
  subst ea eb ec
  obtain ⟨x1, rfl, rfl, rfl, wx1⟩ := open_int Try.underlying3 (hval 1 _ _ rfl rfl) h1
  refine (canonNone_any W Ax0 nx0 cx0 x0 hnx0 hcx0 hmx0 hRx0 (wf_bs hwx0) x1 (wf_i wx1)).mono fun e W' ⟨he, hb⟩ => ?_
  subst he
  exact ⟨_, rfl, post_true Facts.laid hW' rfl rfl Try.underlying4 (by kernel_rfl) rfl hb⟩

set_option maxRecDepth 100000 in
theorem lifted (os : Os) (started : os.Started) (H : Type) (enc : TypeId × Value → H) :
    ReturnsInHanded {} Try.checked os 13 .any (Rows.canonNoneSpec.pre6 enc Try.prog Try.f13 Rows.canonNoneRow.domain false) (Rows.canonNoneSpec.post enc Try.prog Try.f13 false true false false) := by
  refine returnsInHanded_of_change (C := Try.checked) Facts.own started (by kernel_rfl) Try.func13
    (ChangeSpec.witness6 (enc := enc) (C := Try.checked) (os := os) false ⟨#[], #[.slice none 0 0, .int .i64 0], []⟩ 8 (by kernel_rfl) (by kernel_rfl) (by kernel_rfl) (by kernel_rfl)) ?_
  intro W base args ds gs before hval hW _ _
  exact contract H enc W base args ds gs before hval hW

theorem k_wf : Rows.canonNoneRow.wf (OpenSpec.ofChange Rows.canonNoneSpec) = true := by kernel_rfl
theorem k_inp : (Rows.canonNoneRow.inPlace == Try.prog.inPlace 13) = true := by kernel_rfl
theorem k_unf : (Rows.canonNoneRow.unfollowed == Try.prog.unfollowed 13) = true := by kernel_rfl
theorem k_rec : (Rows.canonNoneRow.recurses == Try.prog.recurses 13) = true := by kernel_rfl
theorem k_nam : (Rows.canonNoneRow.named == Try.prog.varsNamed 13) = true := by kernel_rfl
theorem k_pk : (Rows.canonNoneRow.plainKeys == Try.prog.plainKeys) = true := (congrArg (fun x => Rows.canonNoneRow.plainKeys == x) Facts.plainKeys).trans (by kernel_rfl)
theorem k_lf : (Rows.canonNoneRow.lifted == Try.prog.liftsFinal) = true := (congrArg (fun x => Rows.canonNoneRow.lifted == x) Facts.liftsFinal).trans (by kernel_rfl)
theorem k_mk : (Try.prog.make == some Rows.canonNoneRow.make) = true := (congrArg (fun x => x == some Rows.canonNoneRow.make) Facts.make).trans (by kernel_rfl)
theorem k_par : (Try.f13.params.all (Try.prog.readableRec ·)) = true := by kernel_rfl
theorem k_maps : (Rows.canonNoneRow.maps == (Try.f13.params.toList ++ Rows.canonNoneSpec.plain.varTypes Try.prog).any (Try.prog.mapsRec ·)) = true := by kernel_rfl
theorem k_ifs : (Rows.canonNoneRow.ifaces == (Try.f13.params.toList ++ Rows.canonNoneSpec.plain.varTypes Try.prog).any (Try.prog.ifacesRec ·)) = true := by kernel_rfl
theorem k_lps : (Rows.canonNoneRow.loops == (Try.f13.params.toList ++ Rows.canonNoneSpec.plain.varTypes Try.prog).any (Try.prog.loopsFrom ·)) = true := by kernel_rfl
theorem k_wk : (Rows.canonNoneRow.wideKeys == (Try.f13.params.toList ++ Rows.canonNoneSpec.plain.varTypes Try.prog ++ Try.f13.resultTypes.toList).any (Try.prog.wideKeysFrom ·)) = true := by kernel_rfl
theorem k_vl : (Rows.canonNoneRow.veiled == (Try.f13.params.toList ++ Rows.canonNoneSpec.plain.varTypes Try.prog ++ Try.f13.resultTypes.toList).any (Try.prog.veiledRec ·)) = true := by kernel_rfl
theorem closed : joinedFacts Try.prog 13 Try.f13 Rows.canonNoneSpec Rows.canonNoneRow = true :=
  Facts.and_i (Facts.and_i (Facts.and_i (Facts.and_i (Facts.and_i (Facts.and_i (Facts.and_i (Facts.and_i (Facts.and_i (Facts.and_i (Facts.and_i (Facts.and_i (Facts.and_i (Facts.and_i (Facts.and_i (Facts.and_i (Facts.and_i (Facts.and_i (Facts.and_i (Facts.and_i (Facts.and_i (Facts.and_i (Facts.and_i (Facts.and_i (Facts.and_i (Facts.and_i (Facts.and_i (Facts.and_i (Facts.and_i (Facts.and_i (Facts.and_i
    k_wf Facts.laid) Facts.mapsRowed_) k_par) rfl) rfl) Facts.stops) rfl) Facts.stopKnobs) k_inp) k_unf) k_rec) k_nam) k_maps) k_ifs) (by kernel_rfl)) k_lps) k_wk) rfl) (by kernel_rfl)) (by kernel_rfl)) (by kernel_rfl)) k_pk) rfl) Facts.stopsHeard) Facts.mayEnter) k_lf) k_mk) (by kernel_rfl)) (by kernel_rfl)) k_vl) (by kernel_rfl)
theorem named : Try.prog.funcNamed Rows.canonNoneRow.func = some 13 := by kernel_rfl

theorem proved : Rows.CanonNoneSaid :=
  OpenClaim.holds_of_wide 13 Try.f13 rfl rfl rfl rfl rfl rfl rfl ⟨rfl, rfl, rfl, rfl, rfl⟩ rfl rfl rfl rfl rfl named Try.func13 closed
    (of_decide_eq_true (by kernel_rfl)) (by unfold Func.isWrapper; first | (rw [if_pos (by decide +kernel)]; kernel_rfl) | (rw [if_neg (by decide +kernel)]; exact ⟨rfl, rfl⟩))
    (fun os started H enc _ => lifted os started H enc)
end CanonNone
#print axioms CanonNone.proved
end Go.Proofs.Ytlhappecjjbopaa
namespace Go.Proofs.Ytlhappecjjbopaa
open Go.RowKit Go.Shelf
set_option linter.unusedVariables false
set_option maxRecDepth 100000
attribute [local go_sem] Oper.semAt_some

/-- a book's symbols, and how long their codes are -/
def prs (ls : List Int) (O : List Nat) : List (Int × Int) := O.map fun s : Nat => ((s : Int), ls.getD s 0)
theorem prs_len (ls : List Int) (O : List Nat) : (prs ls O).length = O.length := by simp [prs]
theorem prs_take {ls : List Int} {O : List Nat} {k s : Nat} (h : O[k]? = some s) : (prs ls O).take (k + 1) = (prs ls O).take k ++ [((s : Int), ls.getD s 0)] := by
  rw [List.take_add_one, prs, List.getElem?_map, h]; rfl
theorem prs_at {ls : List Int} {O : List Nat} {k s : Nat} (h : O[k]? = some s) : (prs ls O)[k]? = some ((s : Int), ls.getD s 0) := by
  rw [prs, List.getElem?_map, h]; rfl
/-- what a round that goes on keeps: all that lay below n₀, and the box -/
def KpA (n₀ B : Nat) (W W' : World) : Prop := Below n₀ W W' ∧ W'.heap[B]? = W.heap[B]?
theorem KpA.trans_ {n₀ B : Nat} {X Y Z : World} (h : KpA n₀ B X Y) (k : KpA n₀ B Y Z) : KpA n₀ B X Z := ⟨h.1.trans k.1, k.2.trans h.2⟩
theorem KpA.put {n₀ B : Nat} {w : World} (hn : n₀ ≤ w.heap.size) (hB : B < w.heap.size) (W : World) (l : Nat) (o o' : Obj) (hl : w.heap.size ≤ l) (h : W.heap[l]? = some o) (h1 : o.isCells = false) (h2 : o.isWalk = false) : KpA n₀ B W (W.putObj l o') :=
  ⟨belowK_b hn W l o o' hl h h1 h2, (grownBy_putObj' W l o').block B (by have := (Array.getElem?_eq_some_iff.1 h).1; omega) (fun e => by cases e; omega)⟩
set_option maxHeartbeats 2000000 in
theorem all1_in (F : Fence) (n : Nat) (h8 : F.fn 105) (hro : F.round = none) (hn : 1 ≤ n) (l Bx n₀ B p : Nat) (ls : List Int) (O : List Nat) (C : List Int) (hO : ∀ s ∈ O, s < ls.length) (h5 : O.length ≤ 512) (h6 : ls.length ≤ 512) (J Jx : List (Int × Int) → World → Prop)
    (hY : ∀ pre x W, J pre W → pre.length < O.length → YieldAt F (n - 1) Try.prog l #[.int .i64 x.1, .int .i64 x.2] W fun e W' =>
      (e = .returned (.bool true) ∧ J (pre ++ [x]) W' ∧ KpA n₀ Bx W W') ∨ (e = .returned (.bool false) ∧ Jx (pre ++ [x]) W'))
    (W : World) (hBx : Boxed W Bx 63 (.pointer (some ⟨p, 0, none⟩))) (hK : BkS W B p ls O C) (hBn : B ≤ n₀) (h0 : J [] W) :
    CallsIn F n Try.prog 105 #[.func (.yield l) #[] #[], .pointer (some ⟨Bx, 0, none⟩)] W fun e W' => (∃ v, e = .returned v) ∧
      ((∃ ys, ys = prs ls O ∧ J ys W') ∨ (∃ pre, pre <+: prs ls O ∧ Jx pre W')) := by
  obtain ⟨w0, hk0, rfl, hbk⟩ := hK
  obtain ⟨Ao, co, y2, hRo⟩ := hk0.ord
  obtain ⟨Al, cl, y0, hRl⟩ := hk0.len
  have hpl := hk0.plt
  have hc := hBx.cell
  have e2 := (hbk.cell (p := ⟨p, 2, none⟩) hpl).trans y2
  generalize hnn : O.length = nn at *
  generalize hll : ls.length = ll at *
  have HNN := Lib.hid hnn
  have HLL := Lib.hid hll
  have HO := Lib.hid hO
  clear hnn hll hO hk0
  refine callsIn_of_wp Try.func105 rfl h8 ?_ hro
  simp only [Try.ntmps105, List.size_toArray, List.length_cons, List.length_nil, Nat.reduceAdd, Nat.reduceSub, Array.replicate_succ, Array.replicate_zero, List.push_toArray, List.append_toArray, List.nil_append, List.cons_append]
  gi_wp2
  gi_loopw [12] (fun i wr => ∃ k : Nat, k ≤ nn ∧ i = .int .i64 k ∧ J ((prs ls O).take k) wr ∧ KpA n₀ Bx W wr) (fun i _ => nn - (intOf i).toNat)
  case atStart => exact ⟨0, Nat.zero_le _, rfl, by simpa using h0, Below.refl _ _, rfl⟩
  case round =>
    obtain ⟨k, hk, rfl, hJs, hnx⟩ := hrel
    have hb0 := hbk.trans (hnx.1.mono hBn)
    by_cases hlt : k < nn
    · obtain ⟨s, hOs⟩ : ∃ s, O[k]? = some s := ⟨O[k]'(by rw [HNN.out]; exact hlt), List.getElem?_eq_getElem _⟩
      have hsl := HO.out s (List.mem_of_getElem? hOs)
      obtain ⟨bo, oo, rfl, hbo, hco⟩ := hRo.at_ (k := k) (by rw [nv_len, HNN.out]; exact hlt)
      have cO := (hb0.cell (p := ⟨bo, oo + k, none⟩) hbo).trans (hco k _ (nv_get hOs))
      obtain ⟨bl, ol, rfl, hbl, hcl⟩ := hRl.at_ (k := s) (by rw [iv_len, HLL.out]; exact hsl)
      have cL := (hb0.cell (p := ⟨bl, ol + s, none⟩) hbl).trans (hcl s _ (ivs_get (by rw [HLL.out]; exact hsl)))
      have e0 := (hb0.cell (p := ⟨p, 0, none⟩) hpl).trans y0
      have ex : wr.cell? ⟨Bx, 0, none⟩ = some (.pointer (some ⟨p, 0, none⟩)) := Boxed.cell (hnx.2.trans hBx)
      have htk := prs_take (ls := ls) hOs
      obtain ⟨v, hv⟩ : ∃ v, v = ls.getD s 0 := ⟨_, rfl⟩
      rw [← hv] at cL htk
      obtain ⟨fn, tmps, assign, body, hy, hR⟩ := hY _ ((s : Int), v) wr hJs (by rw [List.length_take, prs_len, HNN.out]; omega)
      dsimp only at hy
      have HTK := Lib.hid htk
      have hs0 : (0 : Int) ≤ (s : Int) := by omega
      have hs1 : (s : Int) < (ll : Int) := by omega
      have hk0 : (0 : Int) ≤ (k : Int) := by omega
      have hk1 : (k : Int) < (nn : Int) := by omega
      clear htk hv hOs hco hcl
      gi_wp2
      refine hR.mono ?_
      rintro e W3 (⟨rfl, hJ3, hk3⟩ | ⟨rfl, hJx3⟩)
      · gi_wp2
        go_roundw
        case rel => exact ⟨k + 1, by omega, by go_num, by rw [HTK.out]; exact hJ3, hnx.trans_ hk3⟩
        case measure => simp [intOf]; omega
      · gi_wp2
        refine bodyPost_ret (results_none rfl _ _ _) rfl ?_
        exact ⟨⟨_, rfl⟩, .inr ⟨_, by rw [← HTK.out]; exact List.take_prefix _ _, hJx3⟩⟩
    · obtain rfl : k = nn := by omega
      have htk : (prs ls O).take k = prs ls O := List.take_of_length_le (by rw [prs_len, HNN.out]; omega)
      rw [htk] at hJs
      gi_wp2
      go_end0
      exact ⟨⟨_, rfl⟩, .inl ⟨_, rfl, hJs⟩⟩
theorem all_stops (F : Fence) (n : Nat) (h8 : F.fn 105) (hro : F.round = none) (hn : 1 ≤ n) (Bx n₀ B p : Nat) (ls : List Int) (O : List Nat) (C : List Int) (hO : ∀ s ∈ O, s < ls.length) (h5 : O.length ≤ 512) (h6 : ls.length ≤ 512)
    (w : World) (hBx : Boxed w Bx 63 (.pointer (some ⟨p, 0, none⟩))) (hK : BkS w B p ls O C) (hBn : B ≤ n₀) (hn0 : n₀ ≤ w.heap.size) :
    SeqStopsK F n Try.prog 105 #[.pointer (some ⟨Bx, 0, none⟩)] (fun x : Int × Int => #[Value.int .i64 x.1, Value.int .i64 x.2]) (KpA n₀ Bx) (fun ys => ys = prs ls O) (fun pre => pre <+: prs ls O) O.length w := fun l J Jx W hW _ _ hY h0 =>
  all1_in F n h8 hro hn l Bx n₀ B p ls O C hO h5 h6 J Jx hY W ((hW.block Bx hBx.lt).trans hBx) (hK.keep (hW.mono hK.size)) hBn h0
end Go.Proofs.Ytlhappecjjbopaa
