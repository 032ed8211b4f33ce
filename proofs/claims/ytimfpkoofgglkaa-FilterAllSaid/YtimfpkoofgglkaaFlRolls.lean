/-
  FilterRolls: which rows any filtered rows come from, or what goes wrong first. No condition.
-/
import Derived.Test.YtimfpkoofgglkaaFlV
import Derived.Test.YtimfpkoofgglkaaFacts
namespace Go.Proofs.Ytimfpkoofgglkaa
open Go.ChangeShapes Go.WideShapes Go.ChangeAt Go.WideMaps Go.WideElems Go.RowKit Go.Joins
set_option linter.unusedVariables false

theorem unroll_any (A : Option Addr) (n c : Nat) (l : List Int) (s cnt p : Int) (w : World) (hn : l.length = n) (hnc : n ≤ c) (hc : c ≤ 9223372036854775807) (hR : Rd w w.heap.size A (bv l)) (hB : Bs l) (hm : n ≤ 6000) :
    Calls Try.prog 35 #[.slice A n c, .int .i64 s, .int .i64 cnt, .int .i64 p] w fun e w' => ∃ v, e = .returned (.tuple #[v, errOf (unroll l s cnt p).2]) ∧
      w'.ownsRow w.heap.size 5 1 v (unroll l s cnt p).1.length (bv (unroll l s cnt p).1) ∧ Below w.heap.size w w' := by
  unfold unroll
  by_cases h : BadU s cnt p
  · rw [if_pos h]
    refine (unroll_bad A n c s cnt p h w).mono ?_; rintro e w' ⟨rfl, rfl⟩
    exact ⟨_, rfl, World.ownsRow_nil _ _ _ _, Below.refl _ _⟩
  · rw [if_neg h]
    obtain ⟨S, rfl⟩ := Int.eq_ofNat_of_zero_le (show 0 ≤ s by unfold BadU at h; omega)
    obtain ⟨C, rfl⟩ := Int.eq_ofNat_of_zero_le (show 0 ≤ cnt by unfold BadU at h; omega)
    exact unroll_good A n c l S C p h w hn hnc hc hR hB hm
theorem runroll_any (A : Option Addr) (n c : Nat) (l : List Int) (s cnt p : Int) (w : World) (hn : l.length = n) (hnc : n ≤ c) (hc : c ≤ 9223372036854775807) (hR : Rd w w.heap.size A (bv l)) (hB : Bs l) (hm : n ≤ 5000) :
    Calls Try.prog 36 #[.slice A n c, .int .i64 s, .int .i64 cnt, .int .i64 p] w fun e w' => ∃ v, e = .returned (.tuple #[v, .int .i64 (unroll l s cnt p).2]) ∧
      w'.ownsRow w.heap.size 5 1 v (unroll l s cnt p).1.length (bv (unroll l s cnt p).1) ∧ Below w.heap.size w w' := by
  unfold unroll
  by_cases h : BadU s cnt p
  · rw [if_pos h]
    refine (runroll_bad A n c s cnt p h w).mono ?_; rintro e w' ⟨rfl, rfl⟩
    exact ⟨_, rfl, World.ownsRow_nil _ _ _ _, Below.refl _ _⟩
  · rw [if_neg h]
    obtain ⟨S, rfl⟩ := Int.eq_ofNat_of_zero_le (show 0 ≤ s by unfold BadU at h; omega)
    obtain ⟨C, rfl⟩ := Int.eq_ofNat_of_zero_le (show 0 ≤ cnt by unfold BadU at h; omega)
    exact runroll_good A n c l S C p h w hn hnc hc hR hB hm

theorem num_any (n : Int) (hn : n = 0 ∨ 1 ≤ n ∧ n ≤ 8) (w : World) : Calls Try.prog 32 #[errOf n] w fun e w' => e = .returned (.int .i64 n) ∧ w = w' := by
  rcases hn with rfl | hn
  · exact num_nil w
  · rw [errOf_pos (by omega)]; exact num_err n hn w

set_option maxHeartbeats 1000000 in
theorem unrolls_any (A : Option Addr) (n c : Nat) (l : List Int) (s cnt p : Int) (w : World) (hn : l.length = n) (hnc : n ≤ c) (hc : c ≤ 9223372036854775807) (hR : Rd w w.heap.size A (bv l)) (hB : Bs l) :
    Calls Try.prog 26 #[.slice A n c, .int .i64 s, .int .i64 cnt, .int .i64 p] w fun e w' => e = .returned (.bool true) ∧ Below w.heap.size w w' := by
  have HN := Lib.hid hn
  have hub := unroll_bs l s cnt p
  have hul := unroll_len l s cnt p
  have hue : (unroll l s cnt p).2 = 0 ∨ 1 ≤ (unroll l s cnt p).2 ∧ (unroll l s cnt p).2 ≤ 8 := by
    rcases unroll_err l s cnt p with h | ⟨h | h | h, _⟩ <;> omega
  rw [hn] at hul
  have HUN := Lib.hid (unroll_any (l := l) (s := s) (cnt := cnt) (p := p))
  have HRU := Lib.hid (runroll_any (l := l) (s := s) (cnt := cnt) (p := p))
  generalize unroll l s cnt p = T at *
  obtain ⟨o, x⟩ := T
  dsimp only at *
  clear hn
  go_enter Try.func26, Try.ntmps26
  go_wp2_with fail
  refine (alive14_any _).mono ?_; rintro e w1 ⟨rfl, hb1⟩
  have hs1 := hb1.size
  by_cases hbig : 5000 < n
  · go_wp2
    go_ret
    exact ⟨rfl, hb1⟩
  go_wp2_with fail
  refine (copy_any A n c l w1 HN.out ((hR.below hb1).more hs1) (by omega)).mono ?_; rintro e w2 ⟨g, d, rfl, hr, hb2⟩
  have hRr : Rd w2 w2.heap.size (some ⟨g, 0, none⟩) (bv l) := by have h := Rd.of_own hr; rw [bv_app] at h; exact h.pre
  have hb2' := hb1.trans (hb2.mono hs1)
  obtain ⟨g', d', hv', hcap, hdm, _, _⟩ := own_pos hr (by omega)
  injection hv' with h1 _ h2
  injection h1 with h1
  injection h1 with h1
  subst h1 h2
  go_wp2_with fail
  refine (HUN.out _ n d w2 HN.out (by omega) hdm hRr hB (by omega)).mono ?_; rintro e w3 ⟨v, rfl, hv, hb3⟩
  have hb3' := hb2'.trans (hb3.mono hb2'.size)
  have hr3 := own_keep hr hb3
  have hvb := hv.lt
  have hgl := (hr.lt g rfl).2
  obtain ⟨Av, cv, rfl, hRv⟩ := own_slice hv
  clear hr
  go_wp2_with fail
  refine (HRU.out A n c w3 HN.out hnc hc ((hR.below hb3').more hb3'.size) hB (by omega)).mono ?_; rintro e w4 ⟨y, rfl, hy, hb4⟩
  have hb4' := hb3'.trans (hb4.mono hb3'.size)
  have hr4 := own_keep hr3 hb4
  have hv4 := own_keep hv hb4
  obtain ⟨Ay, cy, rfl, hRy⟩ := own_slice hy
  go_wp2_with fail
  refine (same_is _ _ _ _ _ _ o o true (by simp) _ _ _ (hRv.below hb4) hRy hub hub rfl rfl).mono ?_; rintro e w' ⟨rfl, rfl⟩
  go_wp2_with fail
  refine (num_any x hue _).mono ?_; rintro e w' ⟨rfl, rfl⟩
  have hxx : (x == x) = true := by simp
  go_wp2_with fail
  refine (kept_any A n c g d _ l _ HN.out ((hR.below hb4').more hb4'.size) hB (by omega) hr4).mono ?_; rintro e w' ⟨rfl, rfl⟩
  have hLs := Ls.lit w4 w.heap.size [.slice Av o.length cv, .slice (some ⟨g, 0, none⟩) n d] [o.length, n] rfl hb4'.size (by
    intro q v m h1 h2
    match q, h1, h2 with
    | 0, h1, h2 => simp at h1 h2; subst h1 h2; exact ⟨by omega, _, ownsRow_le hv4 hb2'.size⟩
    | 1, h1, h2 => simp at h1 h2; subst h1 h2; rw [bv_app] at hr4; exact ⟨by omega, _, ownsRow_le (own_short hr4 (by rw [bv_len]; exact HN.out)) hs1⟩
    | q + 2, h1, h2 => simp at h1) (by
    simp only [List.pairwise_cons, List.mem_cons, List.not_mem_nil, or_false, forall_eq, false_imp_iff, imp_true_iff, and_true, List.Pairwise.nil]
    intro b hb hc
    have h1 := hvb b hb; injection hc with hc; dsimp only at hc; omega)
  clear hr3 hr4 hv hv4 hy hRy hRv hRr
  go_wp2_with fail
  refine (aparts_any _ _ _ 2 _ _ _ hLs (by omega)).mono ?_; rintro e w8 ⟨rfl, hb8⟩
  go_wp2
  go_ret
  refine ⟨rfl, hb4'.trans ?_⟩
  exact ⟨hb8.os, hb8.tape, hb8.output, Nat.le_trans (by simp) hb8.size, fun b hb => (hb8.block b hb).trans (Below.heap_alloc _ _ _ (Nat.lt_of_lt_of_le hb hb4'.size))⟩

theorem filterRolls_any (w : World) (A : Option Addr) (n c : Nat) (l : List Int) (hn : l.length = n) (hc : n ≤ c) (hm : c ≤ 9223372036854775807) (hR : Rd w w.heap.size A (bv l)) (hB : Bs l)
    (s : Int) (hs : -9223372036854775808 ≤ s ∧ s ≤ 9223372036854775807) (cnt : Int) (hcnt : -9223372036854775808 ≤ cnt ∧ cnt ≤ 9223372036854775807) (p : Int) (hp : -9223372036854775808 ≤ p ∧ p ≤ 9223372036854775807) :
    Calls Try.prog 7 #[.agg #[.slice A n c, .int .i64 s, .int .i64 cnt, .int .i64 p]] w fun e w' => e = .returned (.bool true) ∧ Below w.heap.size w w' := by
  have X := Box4.new w 48 (.slice A n c) (.int .i64 s) (.int .i64 cnt) (.int .i64 p)
  have hb0 : Below w.heap.size w (w.alloc (.cells #[.slice A n c, .int .i64 s, .int .i64 cnt, .int .i64 p] 48)) := (Below.refl _ _).alloc (Nat.le_refl _) _
  go_enter Try.func7, Try.ntmps7
  go_wp2_with fail
  generalize w.alloc (.cells #[.slice A n c, .int .i64 s, .int .i64 cnt, .int .i64 p] 48) = w0 at *
  refine (unrolls_any A n c l s cnt p w0 hn hc hm ((hR.below hb0).more hb0.size) hB).mono ?_; rintro e w1 ⟨rfl, hb1⟩
  go_wp2
  go_ret
  exact ⟨rfl, hb0.trans (hb1.mono hb0.size)⟩
namespace FilterRolls
set_option maxRecDepth 100000 in
theorem contract (H : Type) (enc : TypeId × Value → H) (W : World) (base : Nat) (args : Array Value) (ds gs : List (DataW H)) (before : List MemPlace)
    (hval : ∀ (j : Nat) t v, Try.f7.params[j]? = some t → args[j]? = some v → Value.okWide Try.prog W .any base t v)
    (hW : DataW.Whole enc Try.prog Try.f7.params.toList Rows.filterRollsSpec.vars false W args.toList ds gs before) :
    Calls Try.prog 7 args W fun e W' => ∃ v, e = .returned v ∧ Rows.filterRollsSpec.post enc Try.prog Try.f7 false true false false W args v W' := by
  have hW' := hW
  obtain ⟨p, q, hA0, hV, rfl, hfz, hnd⟩ := hW
  have hA : DataW.TrodAll enc Try.prog W 0 (fun _ => true) true Try.f7.params.toList args.toList ds p := hA0
  rw [Try.params7] at hA hval
  clear hA0
  obtain ⟨v0, vs0, d0, ds0, p0, q0, hargs, rfl, rfl, h0, r0⟩ := trodAll_cons hA
  obtain ⟨rfl, rfl, rfl⟩ := trodAll_nil r0
  obtain rfl : args = #[v0] := by cases args; simp_all
  obtain ⟨rfl, rfl⟩ := trodVars_none hV
  obtain ⟨c0_0, c0_1, c0_2, c0_3, y0_0, y0_1, y0_2, y0_3, m0, rfl, rfl, rfl, hy0_0, hy0_1, hy0_2, hy0_3⟩ := open_agg4 Try.underlying48 (by kernel_rfl) (by kernel_rfl) (hval 0 _ _ rfl rfl) h0
  obtain ⟨Ax0, nx0, cx0, x0, rfl, hnx0, hcx0, hmx0, hRx0, hwx0⟩ := open_rd Try.underlying26 Try.underlying5 (by kernel_rfl) hy0_0
  obtain ⟨x1, ex1, rfl, wx1⟩ := DataW.trod_int Try.underlying3 hy0_1
  simp only [List.cons.injEq, and_true] at ex1
  subst ex1
  obtain ⟨x2, ex2, rfl, wx2⟩ := DataW.trod_int Try.underlying3 hy0_2
  simp only [List.cons.injEq, and_true] at ex2
  subst ex2
  obtain ⟨x3, ex3, rfl, wx3⟩ := DataW.trod_int Try.underlying3 hy0_3
  simp only [List.cons.injEq, and_true] at ex3
  subst ex3
  refine (filterRolls_any W Ax0 nx0 cx0 x0 hnx0 hcx0 hmx0 hRx0 (wf_bs hwx0) x1 (wf_i wx1) x2 (wf_i wx2) x3 (wf_i wx3)).mono fun e W' ⟨he, hb⟩ => ?_
  subst he
  exact ⟨_, rfl, post_true Facts.laid hW' rfl rfl Try.underlying4 (by kernel_rfl) rfl hb⟩

set_option maxRecDepth 100000 in
theorem lifted (os : Os) (started : os.Started) (H : Type) (enc : TypeId × Value → H) :
    ReturnsInHanded {} Try.checked os 7 .any (Rows.filterRollsSpec.pre6 enc Try.prog Try.f7 Rows.filterRollsRow.domain false) (Rows.filterRollsSpec.post enc Try.prog Try.f7 false true false false) := by
  refine returnsInHanded_of_change (C := Try.checked) Facts.own started (by kernel_rfl) Try.func7
    (ChangeSpec.witness6 (enc := enc) (C := Try.checked) (os := os) false ⟨#[], #[.agg #[.slice none 0 0, .int .i64 0, .int .i64 0, .int .i64 0]], []⟩ 8 (by kernel_rfl) (by kernel_rfl) (by kernel_rfl) (by kernel_rfl)) ?_
  intro W base args ds gs before hval hW _ _
  exact contract H enc W base args ds gs before hval hW

theorem k_wf : Rows.filterRollsRow.wf (OpenSpec.ofChange Rows.filterRollsSpec) = true := by kernel_rfl
theorem k_inp : (Rows.filterRollsRow.inPlace == Try.prog.inPlace 7) = true := by kernel_rfl
theorem k_unf : (Rows.filterRollsRow.unfollowed == Try.prog.unfollowed 7) = true := by kernel_rfl
theorem k_rec : (Rows.filterRollsRow.recurses == Try.prog.recurses 7) = true := by kernel_rfl
theorem k_nam : (Rows.filterRollsRow.named == Try.prog.varsNamed 7) = true := by kernel_rfl
theorem k_pk : (Rows.filterRollsRow.plainKeys == Try.prog.plainKeys) = true := (congrArg (fun x => Rows.filterRollsRow.plainKeys == x) Facts.plainKeys).trans (by kernel_rfl)
theorem k_lf : (Rows.filterRollsRow.lifted == Try.prog.liftsFinal) = true := (congrArg (fun x => Rows.filterRollsRow.lifted == x) Facts.liftsFinal).trans (by kernel_rfl)
theorem k_mk : (Try.prog.make == some Rows.filterRollsRow.make) = true := (congrArg (fun x => x == some Rows.filterRollsRow.make) Facts.make).trans (by kernel_rfl)
theorem k_par : (Try.f7.params.all (Try.prog.readableRec ·)) = true := by kernel_rfl
theorem k_maps : (Rows.filterRollsRow.maps == (Try.f7.params.toList ++ Rows.filterRollsSpec.plain.varTypes Try.prog).any (Try.prog.mapsRec ·)) = true := by kernel_rfl
theorem k_ifs : (Rows.filterRollsRow.ifaces == (Try.f7.params.toList ++ Rows.filterRollsSpec.plain.varTypes Try.prog).any (Try.prog.ifacesRec ·)) = true := by kernel_rfl
theorem k_lps : (Rows.filterRollsRow.loops == (Try.f7.params.toList ++ Rows.filterRollsSpec.plain.varTypes Try.prog).any (Try.prog.loopsFrom ·)) = true := by kernel_rfl
theorem k_wk : (Rows.filterRollsRow.wideKeys == (Try.f7.params.toList ++ Rows.filterRollsSpec.plain.varTypes Try.prog ++ Try.f7.resultTypes.toList).any (Try.prog.wideKeysFrom ·)) = true := by kernel_rfl
theorem k_vl : (Rows.filterRollsRow.veiled == (Try.f7.params.toList ++ Rows.filterRollsSpec.plain.varTypes Try.prog ++ Try.f7.resultTypes.toList).any (Try.prog.veiledRec ·)) = true := by kernel_rfl
theorem closed : joinedFacts Try.prog 7 Try.f7 Rows.filterRollsSpec Rows.filterRollsRow = true :=
  Facts.and_i (Facts.and_i (Facts.and_i (Facts.and_i (Facts.and_i (Facts.and_i (Facts.and_i (Facts.and_i (Facts.and_i (Facts.and_i (Facts.and_i (Facts.and_i (Facts.and_i (Facts.and_i (Facts.and_i (Facts.and_i (Facts.and_i (Facts.and_i (Facts.and_i (Facts.and_i (Facts.and_i (Facts.and_i (Facts.and_i (Facts.and_i (Facts.and_i (Facts.and_i (Facts.and_i (Facts.and_i (Facts.and_i (Facts.and_i (Facts.and_i
    k_wf Facts.laid) Facts.mapsRowed_) k_par) rfl) rfl) Facts.stops) rfl) Facts.stopKnobs) k_inp) k_unf) k_rec) k_nam) k_maps) k_ifs) (by kernel_rfl)) k_lps) k_wk) rfl) (by kernel_rfl)) (by kernel_rfl)) (by kernel_rfl)) k_pk) rfl) Facts.stopsHeard) Facts.mayEnter) k_lf) k_mk) (by kernel_rfl)) (by kernel_rfl)) k_vl) (by kernel_rfl)
theorem named : Try.prog.funcNamed Rows.filterRollsRow.func = some 7 := by kernel_rfl

theorem proved : Rows.FilterRollsSaid :=
  OpenClaim.holds_of_wide 7 Try.f7 rfl rfl rfl rfl rfl rfl rfl ⟨rfl, rfl, rfl, rfl, rfl⟩ rfl rfl rfl rfl rfl named Try.func7 closed
    (of_decide_eq_true (by kernel_rfl)) (by unfold Func.isWrapper; first | (rw [if_pos (by decide +kernel)]; kernel_rfl) | (rw [if_neg (by decide +kernel)]; exact ⟨rfl, rfl⟩))
    (fun os started H enc _ => lifted os started H enc)
end FilterRolls
#print axioms FilterRolls.proved
end Go.Proofs.Ytimfpkoofgglkaa
