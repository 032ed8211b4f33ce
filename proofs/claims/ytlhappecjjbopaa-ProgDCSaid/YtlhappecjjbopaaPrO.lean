/-
  Prog: a dc's piece, and a dc that is read, by contracts. No condition beyond the ranges that each names.
-/
import Derived.Test.YtlhappecjjbopaaPrN
import Derived.Test.YtlhappecjjbopaaPrK
import Derived.Test.YtlhappecjjbopaaPrC
namespace Go.Proofs.Ytlhappecjjbopaa
open Go.RowKit
set_option linter.unusedVariables false
set_option maxRecDepth 100000

theorem pdcIn_any (n : Int) (w : World) : Calls Try.prog 130 #[.int .i64 n] w fun e w' => e = .returned (.bool (decide (DcB n))) ∧ w = w' := by
  by_cases h : DcB n
  · rw [decide_eq_true h]
    have h1 := h.1
    have h2 := h.2
    clear h
    have d1 : decide (-1024 ≤ n) = true := decide_eq_true h1
    have d2 : decide (n ≤ 1023) = true := decide_eq_true h2
    go_enter Try.func130, Try.ntmps130
    go_wp2
    go_ret
    exact ⟨ret_bool (by simp), rfl⟩
  · rw [decide_eq_false h]
    have hh : (decide (-1024 ≤ n) = false) ∨ (decide (-1024 ≤ n) = true ∧ decide (n ≤ 1023) = false) := by
      by_cases h1 : -1024 ≤ n
      · exact .inr ⟨decide_eq_true h1, decide_eq_false (fun h2 => h ⟨h1, h2⟩)⟩
      · exact .inl (decide_eq_false h1)
    clear h
    rcases hh with d1 | ⟨d1, d2⟩
    · have d3 : ¬ -1024 ≤ n := of_decide_eq_false d1
      go_enter Try.func130, Try.ntmps130
      go_wp2
      go_ret
      exact ⟨ret_bool (by simp), rfl⟩
    · have d3 : ¬ n ≤ 1023 := of_decide_eq_false d2
      go_enter Try.func130, Try.ntmps130
      go_wp2
      go_ret
      exact ⟨ret_bool (by simp), rfl⟩
/-- a band of dc's that is in form, and dc's that are -/
def DcOk (f t h l n a : Int) : Prop := Gd f t h l ∧ f = 0 ∧ DcB n ∧ DcB a
instance (f t h l n a : Int) : Decidable (DcOk f t h l n a) := by unfold DcOk; infer_instance
set_option maxHeartbeats 4000000 in
theorem ofdc_any (f t h l n a : Int) (w : World) : Calls Try.prog 129 #[.agg #[.int .i64 f, .int .i64 t, .int .i64 h, .int .i64 l], .int .i64 n, .int .i64 a] w (BoolP (decide (DcOk f t h l n a)) w) := by
  have X := Box4.new w 107 (.int .i64 f) (.int .i64 t) (.int .i64 h) (.int .i64 l)
  have hb0 : Below w.heap.size w (w.alloc (.cells #[.int .i64 f, .int .i64 t, .int .i64 h, .int .i64 l] 107)) := (Below.refl _ _).alloc (Nat.le_refl _) _
  go_enter Try.func129, Try.ntmps129
  go_upto_region 1 with fail
  generalize w.alloc (.cells #[.int .i64 f, .int .i64 t, .int .i64 h, .int .i64 l] 107) = w0 at *
  obtain ⟨_, x0, x1, x2, x3⟩ := id X
  by_cases hgd : Gd f t h l
  · have HGD := Lib.hid hgd
    go_wp2_with fail
    refine (bcheck_any f t h l .nilIface (fun hg => rfl) (fun hg => absurd hgd hg) w0).mono ?_; rintro e w1 ⟨rfl, hb1⟩
    have X1 := X.below hb1 X.lt
    have hb1' := hb0.trans (hb1.mono hb0.size)
    clear x0 x1 x2 x3 X hgd
    obtain ⟨_, x0, x1, x2, x3⟩ := id X1
    by_cases hf0 : f = 0
    · have d0 : decide (f = 0) = true := decide_eq_true hf0
      have HF0 := Lib.hid hf0
      clear hf0
      go_wp2_with fail
      refine (dc_any f t h l w1).mono ?_; rintro e w2 ⟨rfl, hb2⟩
      have hb2' := hb1'.trans (hb2.mono hb1'.size)
      clear x0 x1 x2 x3 X1
      by_cases h1 : DcB n
      · have H1 := Lib.hid h1
        have D1 := Lib.hid (decide_eq_true h1)
        clear h1
        go_wp2_with fail
        refine (pdcIn_any n w2).mono ?_; rintro e w' ⟨rfl, rfl⟩
        rw [D1.out]
        by_cases h2 : DcB a
        · have H2 := Lib.hid h2
          have D2 := Lib.hid (decide_eq_true h2)
          clear h2
          go_wp2_with fail
          refine (pdcIn_any a w2).mono ?_; rintro e w' ⟨rfl, rfl⟩
          rw [D2.out]
          go_wp2
          go_ret
          exact ⟨ret_bool (decide_eq_true ⟨HGD.out, HF0.out, H1.out, H2.out⟩).symm, hb2'⟩
        · have H2 := Lib.hid h2
          have D2 := Lib.hid (decide_eq_false h2)
          clear h2
          go_wp2_with fail
          refine (pdcIn_any a w2).mono ?_; rintro e w' ⟨rfl, rfl⟩
          rw [D2.out]
          go_wp2
          go_ret
          exact ⟨ret_bool (decide_eq_false (fun h => H2.out h.2.2.2)).symm, hb2'⟩
      · have H1 := Lib.hid h1
        have D1 := Lib.hid (decide_eq_false h1)
        clear h1
        go_wp2_with fail
        refine (pdcIn_any n w2).mono ?_; rintro e w' ⟨rfl, rfl⟩
        rw [D1.out]
        go_wp2
        go_ret
        exact ⟨ret_bool (decide_eq_false (fun h => H1.out h.2.2.1)).symm, hb2'⟩
    · have d0 : decide (f = 0) = false := decide_eq_false hf0
      have HF0 := Lib.hid hf0
      clear hf0
      go_wp2_with fail
      refine (dc_any f t h l w1).mono ?_; rintro e w2 ⟨rfl, hb2⟩
      go_wp2
      go_ret
      exact ⟨ret_bool (decide_eq_false (fun h => HF0.out h.2.1)).symm, hb1'.trans (hb2.mono hb1'.size)⟩
  · have HGD := Lib.hid hgd
    go_wp2_with fail
    refine (bcheck_any f t h l (.iface 53 (.int .i64 6)) (fun hg => absurd hg hgd) (fun hg => rfl) w0).mono ?_; rintro e w1 ⟨rfl, hb1⟩
    clear hgd
    go_wp2
    go_ret
    exact ⟨ret_bool (decide_eq_false (fun h => HGD.out h.1)).symm, hb0.trans (hb1.mono hb0.size)⟩
/-- a dc's piece -/
def dcP (n a h l : Int) : Pc := if 0 < h then (false, -1, tl n l true % 2, 1) else numP false (tl n l true - tl a l true) 0
def DcPP (f t h l n a : Int) (w : World) (e : Ending) (w' : World) : Prop :=
  (DcOk f t h l n a → e = .returned (.tuple #[.agg (pcV (dcP n a h l)).toArray, .nilIface])) ∧ (¬ DcOk f t h l n a → e = .returned (.tuple #[.agg (pcV (false, 0, 0, 0)).toArray, errV 6])) ∧ Below w.heap.size w w'
theorem pc_sets {w : World} {g : Nat} {t : TypeId} {a b c d : Value} {xs : List Value} (X : Bln w g t xs) (h4 : xs.length = 4) :
    Bln ((((w.setCell ⟨g, 0, none⟩ a).setCell ⟨g, 1, none⟩ b).setCell ⟨g, 2, none⟩ c).setCell ⟨g, 3, none⟩ d) g t [a, b, c, d] := by
  obtain ⟨x0, l0, rfl, h0⟩ := len_cons h4
  obtain ⟨x1, l1, rfl, h1⟩ := len_cons h0
  obtain ⟨x2, l2, rfl, h2⟩ := len_cons h1
  obtain ⟨x3, l3, rfl, h3⟩ := len_cons h2
  obtain rfl := len_nil h3
  exact ((((X.set 0 a).set 1 b).set 2 c).set 3 d)
set_option maxHeartbeats 8000000 in
theorem pdc_any (n a f t h l : Int) (hn : -9223372036854775808 ≤ n ∧ n ≤ 9223372036854775807) (w : World) : Calls Try.prog 89 #[.int .i64 n, .int .i64 a, .agg #[.int .i64 f, .int .i64 t, .int .i64 h, .int .i64 l]] w (DcPP f t h l n a w) := by
  have X := Box4.new w 107 (.int .i64 f) (.int .i64 t) (.int .i64 h) (.int .i64 l)
  have hb0 : Below w.heap.size w (w.alloc (.cells #[.int .i64 f, .int .i64 t, .int .i64 h, .int .i64 l] 107)) := (Below.refl _ _).alloc (Nat.le_refl _) _
  go_enter Try.func89, Try.ntmps89
  go_upto_region 1 with fail
  have hx0 := X.lt
  have hsz : (w.alloc (.cells #[.int .i64 f, .int .i64 t, .int .i64 h, .int .i64 l] 107)).heap.size = w.heap.size + 1 := by simp
  generalize w.alloc (.cells #[.int .i64 f, .int .i64 t, .int .i64 h, .int .i64 l] 107) = wz at *
  have hba : Below wz.heap.size wz (wz.alloc (.cells #[.bool false, .int .i64 0, .int .i64 0, .int .i64 0] 27)) := (Below.refl _ _).alloc (Nat.le_refl _) _
  have XR0 := Bln.new wz 27 [.bool false, .int .i64 0, .int .i64 0, .int .i64 0]
  have X0 := X.below hba X.lt
  have hb0' := hb0.trans (hba.mono (by omega))
  rw [hsz] at XR0
  generalize wz.alloc (.cells #[.bool false, .int .i64 0, .int .i64 0, .int .i64 0] 27) = w0 at *
  obtain ⟨_, x0, x1, x2, x3⟩ := id X0
  clear X hba hb0 hx0 hsz
  go_wp2_with fail
  refine (ofdc_any f t h l n a w0).mono ?_; rintro e w1 ⟨rfl, hb1⟩
  have X1 := X0.below hb1 X0.lt
  have XR := XR0.below hb1
  have hb1' := hb0'.trans (hb1.mono hb0'.size)
  clear x0 x1 x2 x3 X0 XR0
  obtain ⟨_, x0, x1, x2, x3⟩ := id X1
  by_cases hok : DcOk f t h l n a
  · have HOK := Lib.hid hok
    rw [decide_eq_true hok]
    clear hok
    have hn1 := HOK.out.2.2.1.1
    have hn2 := HOK.out.2.2.1.2
    have ha1 := HOK.out.2.2.2.1
    have ha2 := HOK.out.2.2.2.2
    have hu := tl_bd (n := n) l hn1 hn2 true
    have hv := tl_bd (n := a) l ha1 ha2 true
    have HT1 := Lib.hid (fun W : World => tell_any n l true (by omega) W)
    have HT2 := Lib.hid (fun W : World => tell_any a l true (by omega) W)
    obtain ⟨u, huq⟩ : ∃ u, u = tl n l true := ⟨_, rfl⟩
    obtain ⟨v, hvq⟩ : ∃ v, v = tl a l true := ⟨_, rfl⟩
    rw [← huq] at hu HT1
    rw [← hvq] at hv HT2
    have HU := Lib.hid huq
    have HV := Lib.hid hvq
    clear huq hvq
    by_cases hh : 0 < h
    · have dh : decide (0 < h) = true := decide_eq_true hh
      have hdp : dcP n a h l = (false, -1, u % 2, 1) := by unfold dcP; rw [if_pos hh, HU.out]
      have HDP := Lib.hid hdp
      have hbx : bits BinOp.and IntKind.i64 u 1 = u % 2 := i64_bit u
      clear hdp hh
      go_wp2_with fail
      refine (finer_any f t h l w1).mono ?_; rintro e w2 ⟨rfl, hb2⟩
      have X2 := X1.below hb2 X1.lt
      have XQ := XR.below hb2
      have hb2' := hb1'.trans (hb2.mono hb1'.size)
      clear x0 x1 x2 x3 X1 XR
      obtain ⟨_, x0, x1, x2, x3⟩ := id X2
      have r0 := XQ.cell (i := 0) rfl
      have r1 := XQ.cell (i := 1) rfl
      have r2 := XQ.cell (i := 2) rfl
      have r3 := XQ.cell (i := 3) rfl
      have g0 := XQ.fz (i := 0) (by decide)
      have g1 := XQ.fz (i := 1) (by decide)
      have g2 := XQ.fz (i := 2) (by decide)
      have g3 := XQ.fz (i := 3) (by decide)
      have XS := pc_sets (a := .bool false) (b := .int .i64 (-1)) (c := .int .i64 (u % 2)) (d := .int .i64 1) XQ rfl
      have hbe := ((((hb2'.setCell (p := ⟨w.heap.size + 1, 0, none⟩) (Nat.le_succ _) (.bool false)).setCell (p := ⟨w.heap.size + 1, 1, none⟩) (Nat.le_succ _) (.int .i64 (-1))).setCell (p := ⟨w.heap.size + 1, 2, none⟩) (Nat.le_succ _) (.int .i64 (u % 2))).setCell (p := ⟨w.heap.size + 1, 3, none⟩) (Nat.le_succ _) (.int .i64 1))
      go_wp2_with (first | (go_at_call 96; refine (HT1.out _).mono ?_; rintro e w' ⟨rfl, rfl⟩) | ((with_reducible refine bp_id ?_); exact bodyPost_ret (results_row2 (P := Try.prog) rfl _ _ (w.heap.size + 1) 27 _ (0, 0) _ rfl XS Try.underlying27 rfl (by kernel_rfl)) rfl ⟨fun _ => by rw [HDP.out]; rfl, fun h => absurd HOK.out h, hbe⟩))
    · have dh : decide (0 < h) = false := decide_eq_false hh
      have hdp : dcP n a h l = (false, (szN (u - v) : Int), exZ (u - v), (szN (u - v) : Int)) := by
        unfold dcP
        rw [if_neg hh, HU.out, HV.out]
        unfold numP
        simp
      have HDP := Lib.hid hdp
      have hsz2 := Lib.hid (fun W => size_any (u - v) W)
      have hex2 := Lib.hid (fun W => extra_any (u - v) (by omega) W)
      clear hdp hh
      go_wp2_with fail
      refine (finer_any f t h l w1).mono ?_; rintro e w2 ⟨rfl, hb2⟩
      have X2 := X1.below hb2 X1.lt
      have XQ := XR.below hb2
      have hb2' := hb1'.trans (hb2.mono hb1'.size)
      clear x0 x1 x2 x3 X1 XR
      obtain ⟨_, x0, x1, x2, x3⟩ := id X2
      have hwr : IntKind.i64.wrap (u - v) = u - v := IntWalk.i64_in _ (by omega)
      rw [HU.out, HV.out] at hwr
      go_upto_region 5 with fail
      go_quiet ((go_at_call 96; exact quiet_l (tell_any _ l true (by omega) _)))
      rw [← HU.out, ← HV.out]
      have XQ' := XQ.keep (S := fun _ => False) (Fr.drewN (Fr.refl _ w2) nq) (fun f => f)
      have hb3' : Below w.heap.size w (w2.drewN nq) := ⟨hb2'.os, hb2'.tape, hb2'.output, hb2'.size, hb2'.block⟩
      generalize w2.drewN nq = w3 at *
      have r0 := XQ'.cell (i := 0) rfl
      have r1 := XQ'.cell (i := 1) rfl
      have r2 := XQ'.cell (i := 2) rfl
      have r3 := XQ'.cell (i := 3) rfl
      have g0 := XQ'.fz (i := 0) (by decide)
      have g1 := XQ'.fz (i := 1) (by decide)
      have g2 := XQ'.fz (i := 2) (by decide)
      have g3 := XQ'.fz (i := 3) (by decide)
      generalize szN (u - v) = sz at *
      generalize exZ (u - v) = ez at *
      have XS := pc_sets (a := .bool false) (b := .int .i64 (sz : Int)) (c := .int .i64 ez) (d := .int .i64 (sz : Int)) XQ' rfl
      have hbe := ((((hb3'.setCell (p := ⟨w.heap.size + 1, 0, none⟩) (Nat.le_succ _) (.bool false)).setCell (p := ⟨w.heap.size + 1, 1, none⟩) (Nat.le_succ _) (.int .i64 (sz : Int))).setCell (p := ⟨w.heap.size + 1, 2, none⟩) (Nat.le_succ _) (.int .i64 ez)).setCell (p := ⟨w.heap.size + 1, 3, none⟩) (Nat.le_succ _) (.int .i64 (sz : Int)))
      go_wp2_with (first | (go_at_call 38; refine (hsz2.out _).mono ?_; rintro e w' ⟨rfl, rfl⟩) | (go_at_call 39; refine (hex2.out _).mono ?_; rintro e w' ⟨rfl, rfl⟩) | ((with_reducible refine bp_id ?_); exact bodyPost_ret (results_row2 (P := Try.prog) rfl _ _ (w.heap.size + 1) 27 _ (0, 0) _ rfl XS Try.underlying27 rfl (by kernel_rfl)) rfl ⟨fun _ => by rw [HDP.out]; rfl, fun h => absurd HOK.out h, hbe⟩))
  · have HOK := Lib.hid hok
    rw [decide_eq_false hok]
    clear hok
    have r0 := XR.cell (i := 0) rfl
    have r1 := XR.cell (i := 1) rfl
    have r2 := XR.cell (i := 2) rfl
    have r3 := XR.cell (i := 3) rfl
    have g0 := XR.fz (i := 0) (by decide)
    have g1 := XR.fz (i := 1) (by decide)
    have g2 := XR.fz (i := 2) (by decide)
    have g3 := XR.fz (i := 3) (by decide)
    have XS := pc_sets (a := .bool false) (b := .int .i64 0) (c := .int .i64 0) (d := .int .i64 0) XR rfl
    have hbe := ((((hb1'.setCell (p := ⟨w.heap.size + 1, 0, none⟩) (Nat.le_succ _) (.bool false)).setCell (p := ⟨w.heap.size + 1, 1, none⟩) (Nat.le_succ _) (.int .i64 0)).setCell (p := ⟨w.heap.size + 1, 2, none⟩) (Nat.le_succ _) (.int .i64 0)).setCell (p := ⟨w.heap.size + 1, 3, none⟩) (Nat.le_succ _) (.int .i64 0))
    go_wp2_with (first | ((with_reducible refine bp_id ?_); exact bodyPost_ret (results_row2 (P := Try.prog) rfl _ _ (w.heap.size + 1) 27 _ (0, 0) _ rfl XS Try.underlying27 rfl (by kernel_rfl)) rfl ⟨fun h => absurd h HOK.out, fun _ => rfl, hbe⟩))
end Go.Proofs.Ytlhappecjjbopaa
