/-
  Prog: a dc's piece, and a dc that is read, by contracts. No condition beyond the ranges that each names.
  Prog: a dc that is read, by a contract. No condition beyond the ranges that each names.
-/
import Derived.Test.YtlhappecjjbopaaPrN
import Derived.Test.YtlhappecjjbopaaPrU
import Derived.Test.YtlhappecjjbopaaPrC
namespace Go.Proofs.Ytlhappecjjbopaa
section
open Go.RowKit
set_option linter.unusedVariables false
set_option maxRecDepth 100000

theorem pdcIn_any (n : Int) (w : World) : Calls Try.prog 130 #[.int .i64 n] w fun e w' => e = .returned (.bool (decide (DcB n))) ∧ w = w' := by
  by_cases h : DcB n
  · rw [decide_eq_true h]
    have h1 := h.1
    have h2 := h.2
    clear h
    have d1 : decide (-1024 ≤ n) = true := decide_eq_true h1
    have d2 : decide (n ≤ 1023) = true := decide_eq_true h2
    go_enter Try.func130, Try.ntmps130
    go_wp2
    go_ret
    exact ⟨ret_bool (by simp), rfl⟩
  · rw [decide_eq_false h]
    have hh : (decide (-1024 ≤ n) = false) ∨ (decide (-1024 ≤ n) = true ∧ decide (n ≤ 1023) = false) := by
      by_cases h1 : -1024 ≤ n
      · exact .inr ⟨decide_eq_true h1, decide_eq_false (fun h2 => h ⟨h1, h2⟩)⟩
      · exact .inl (decide_eq_false h1)
    clear h
    rcases hh with d1 | ⟨d1, d2⟩
    · have d3 : ¬ -1024 ≤ n := of_decide_eq_false d1
      go_enter Try.func130, Try.ntmps130
      go_wp2
      go_ret
      exact ⟨ret_bool (by simp), rfl⟩
    · have d3 : ¬ n ≤ 1023 := of_decide_eq_false d2
      go_enter Try.func130, Try.ntmps130
      go_wp2
      go_ret
      exact ⟨ret_bool (by simp), rfl⟩
/-- a band of dc's that is in form, and dc's that are -/
def DcOk (f t h l n a : Int) : Prop := Gd f t h l ∧ f = 0 ∧ DcB n ∧ DcB a
instance (f t h l n a : Int) : Decidable (DcOk f t h l n a) := by unfold DcOk; infer_instance
set_option maxHeartbeats 4000000 in
theorem ofdc_any (f t h l n a : Int) (w : World) : Calls Try.prog 129 #[.agg #[.int .i64 f, .int .i64 t, .int .i64 h, .int .i64 l], .int .i64 n, .int .i64 a] w (BoolP (decide (DcOk f t h l n a)) w) := by
  have X := Box4.new w 107 (.int .i64 f) (.int .i64 t) (.int .i64 h) (.int .i64 l)
  have hb0 : Below w.heap.size w (w.alloc (.cells #[.int .i64 f, .int .i64 t, .int .i64 h, .int .i64 l] 107)) := (Below.refl _ _).alloc (Nat.le_refl _) _
  go_enter Try.func129, Try.ntmps129
  go_upto_region 1 with fail
  generalize w.alloc (.cells #[.int .i64 f, .int .i64 t, .int .i64 h, .int .i64 l] 107) = w0 at *
  obtain ⟨_, x0, x1, x2, x3⟩ := id X
  by_cases hgd : Gd f t h l
  · have HGD := Lib.hid hgd
    go_wp2_with fail
    refine (bcheck_any f t h l .nilIface (fun hg => rfl) (fun hg => absurd hgd hg) w0).mono ?_; rintro e w1 ⟨rfl, hb1⟩
    have X1 := X.below hb1 X.lt
    have hb1' := hb0.trans (hb1.mono hb0.size)
    clear x0 x1 x2 x3 X hgd
    obtain ⟨_, x0, x1, x2, x3⟩ := id X1
    by_cases hf0 : f = 0
    · have d0 : decide (f = 0) = true := decide_eq_true hf0
      have HF0 := Lib.hid hf0
      clear hf0
      go_wp2_with fail
      refine (dc_any f t h l w1).mono ?_; rintro e w2 ⟨rfl, hb2⟩
      have hb2' := hb1'.trans (hb2.mono hb1'.size)
      clear x0 x1 x2 x3 X1
      by_cases h1 : DcB n
      · have H1 := Lib.hid h1
        have D1 := Lib.hid (decide_eq_true h1)
        clear h1
        go_wp2_with fail
        refine (pdcIn_any n w2).mono ?_; rintro e w' ⟨rfl, rfl⟩
        rw [D1.out]
        by_cases h2 : DcB a
        · have H2 := Lib.hid h2
          have D2 := Lib.hid (decide_eq_true h2)
          clear h2
          go_wp2_with fail
          refine (pdcIn_any a w2).mono ?_; rintro e w' ⟨rfl, rfl⟩
          rw [D2.out]
          go_wp2
          go_ret
          exact ⟨ret_bool (decide_eq_true ⟨HGD.out, HF0.out, H1.out, H2.out⟩).symm, hb2'⟩
        · have H2 := Lib.hid h2
          have D2 := Lib.hid (decide_eq_false h2)
          clear h2
          go_wp2_with fail
          refine (pdcIn_any a w2).mono ?_; rintro e w' ⟨rfl, rfl⟩
          rw [D2.out]
          go_wp2
          go_ret
          exact ⟨ret_bool (decide_eq_false (fun h => H2.out h.2.2.2)).symm, hb2'⟩
      · have H1 := Lib.hid h1
        have D1 := Lib.hid (decide_eq_false h1)
        clear h1
        go_wp2_with fail
        refine (pdcIn_any n w2).mono ?_; rintro e w' ⟨rfl, rfl⟩
        rw [D1.out]
        go_wp2
        go_ret
        exact ⟨ret_bool (decide_eq_false (fun h => H1.out h.2.2.1)).symm, hb2'⟩
    · have d0 : decide (f = 0) = false := decide_eq_false hf0
      have HF0 := Lib.hid hf0
      clear hf0
      go_wp2_with fail
      refine (dc_any f t h l w1).mono ?_; rintro e w2 ⟨rfl, hb2⟩
      go_wp2
      go_ret
      exact ⟨ret_bool (decide_eq_false (fun h => HF0.out h.2.1)).symm, hb1'.trans (hb2.mono hb1'.size)⟩
  · have HGD := Lib.hid hgd
    go_wp2_with fail
    refine (bcheck_any f t h l (.iface 53 (.int .i64 6)) (fun hg => absurd hg hgd) (fun hg => rfl) w0).mono ?_; rintro e w1 ⟨rfl, hb1⟩
    clear hgd
    go_wp2
    go_ret
    exact ⟨ret_bool (decide_eq_false (fun h => HGD.out h.1)).symm, hb0.trans (hb1.mono hb0.size)⟩
/-- a dc's piece -/
def dcP (n a h l : Int) : Pc := if 0 < h then (false, -1, tl n l true % 2, 1) else numP false (tl n l true - tl a l true) 0
def DcPP (f t h l n a : Int) (w : World) (e : Ending) (w' : World) : Prop :=
  (DcOk f t h l n a → e = .returned (.tuple #[.agg (pcV (dcP n a h l)).toArray, .nilIface])) ∧ (¬ DcOk f t h l n a → e = .returned (.tuple #[.agg (pcV (false, 0, 0, 0)).toArray, errV 6])) ∧ Below w.heap.size w w'
theorem pc_sets {w : World} {g : Nat} {t : TypeId} {a b c d : Value} {xs : List Value} (X : Bln w g t xs) (h4 : xs.length = 4) :
    Bln ((((w.setCell ⟨g, 0, none⟩ a).setCell ⟨g, 1, none⟩ b).setCell ⟨g, 2, none⟩ c).setCell ⟨g, 3, none⟩ d) g t [a, b, c, d] := by
  obtain ⟨x0, l0, rfl, h0⟩ := len_cons h4
  obtain ⟨x1, l1, rfl, h1⟩ := len_cons h0
  obtain ⟨x2, l2, rfl, h2⟩ := len_cons h1
  obtain ⟨x3, l3, rfl, h3⟩ := len_cons h2
  obtain rfl := len_nil h3
  exact ((((X.set 0 a).set 1 b).set 2 c).set 3 d)
set_option maxHeartbeats 8000000 in
theorem pdc_any (n a f t h l : Int) (hn : -9223372036854775808 ≤ n ∧ n ≤ 9223372036854775807) (w : World) : Calls Try.prog 89 #[.int .i64 n, .int .i64 a, .agg #[.int .i64 f, .int .i64 t, .int .i64 h, .int .i64 l]] w (DcPP f t h l n a w) := by
  have X := Box4.new w 107 (.int .i64 f) (.int .i64 t) (.int .i64 h) (.int .i64 l)
  have hb0 : Below w.heap.size w (w.alloc (.cells #[.int .i64 f, .int .i64 t, .int .i64 h, .int .i64 l] 107)) := (Below.refl _ _).alloc (Nat.le_refl _) _
  go_enter Try.func89, Try.ntmps89
  go_upto_region 1 with fail
  have hx0 := X.lt
  have hsz : (w.alloc (.cells #[.int .i64 f, .int .i64 t, .int .i64 h, .int .i64 l] 107)).heap.size = w.heap.size + 1 := by simp
  generalize w.alloc (.cells #[.int .i64 f, .int .i64 t, .int .i64 h, .int .i64 l] 107) = wz at *
  have hba : Below wz.heap.size wz (wz.alloc (.cells #[.bool false, .int .i64 0, .int .i64 0, .int .i64 0] 27)) := (Below.refl _ _).alloc (Nat.le_refl _) _
  have XR0 := Bln.new wz 27 [.bool false, .int .i64 0, .int .i64 0, .int .i64 0]
  have X0 := X.below hba X.lt
  have hb0' := hb0.trans (hba.mono (by omega))
  rw [hsz] at XR0
  generalize wz.alloc (.cells #[.bool false, .int .i64 0, .int .i64 0, .int .i64 0] 27) = w0 at *
  obtain ⟨_, x0, x1, x2, x3⟩ := id X0
  clear X hba hb0 hx0 hsz
  go_wp2_with fail
  refine (ofdc_any f t h l n a w0).mono ?_; rintro e w1 ⟨rfl, hb1⟩
  have X1 := X0.below hb1 X0.lt
  have XR := XR0.below hb1
  have hb1' := hb0'.trans (hb1.mono hb0'.size)
  clear x0 x1 x2 x3 X0 XR0
  obtain ⟨_, x0, x1, x2, x3⟩ := id X1
  by_cases hok : DcOk f t h l n a
  · have HOK := Lib.hid hok
    rw [decide_eq_true hok]
    clear hok
    have hn1 := HOK.out.2.2.1.1
    have hn2 := HOK.out.2.2.1.2
    have ha1 := HOK.out.2.2.2.1
    have ha2 := HOK.out.2.2.2.2
    have hu := tl_bd (n := n) l hn1 hn2 true
    have hv := tl_bd (n := a) l ha1 ha2 true
    have HT1 := Lib.hid (fun W : World => tell_any n l true (by omega) W)
    have HT2 := Lib.hid (fun W : World => tell_any a l true (by omega) W)
    obtain ⟨u, huq⟩ : ∃ u, u = tl n l true := ⟨_, rfl⟩
    obtain ⟨v, hvq⟩ : ∃ v, v = tl a l true := ⟨_, rfl⟩
    rw [← huq] at hu HT1
    rw [← hvq] at hv HT2
    have HU := Lib.hid huq
    have HV := Lib.hid hvq
    clear huq hvq
    by_cases hh : 0 < h
    · have dh : decide (0 < h) = true := decide_eq_true hh
      have hdp : dcP n a h l = (false, -1, u % 2, 1) := by unfold dcP; rw [if_pos hh, HU.out]
      have HDP := Lib.hid hdp
      have hbx : bits BinOp.and IntKind.i64 u 1 = u % 2 := i64_bit u
      clear hdp hh
      go_wp2_with fail
      refine (finer_any f t h l w1).mono ?_; rintro e w2 ⟨rfl, hb2⟩
      have X2 := X1.below hb2 X1.lt
      have XQ := XR.below hb2
      have hb2' := hb1'.trans (hb2.mono hb1'.size)
      clear x0 x1 x2 x3 X1 XR
      obtain ⟨_, x0, x1, x2, x3⟩ := id X2
      have r0 := XQ.cell (i := 0) rfl
      have r1 := XQ.cell (i := 1) rfl
      have r2 := XQ.cell (i := 2) rfl
      have r3 := XQ.cell (i := 3) rfl
      have g0 := XQ.fz (i := 0) (by decide)
      have g1 := XQ.fz (i := 1) (by decide)
      have g2 := XQ.fz (i := 2) (by decide)
      have g3 := XQ.fz (i := 3) (by decide)
      have XS := pc_sets (a := .bool false) (b := .int .i64 (-1)) (c := .int .i64 (u % 2)) (d := .int .i64 1) XQ rfl
      have hbe := ((((hb2'.setCell (p := ⟨w.heap.size + 1, 0, none⟩) (Nat.le_succ _) (.bool false)).setCell (p := ⟨w.heap.size + 1, 1, none⟩) (Nat.le_succ _) (.int .i64 (-1))).setCell (p := ⟨w.heap.size + 1, 2, none⟩) (Nat.le_succ _) (.int .i64 (u % 2))).setCell (p := ⟨w.heap.size + 1, 3, none⟩) (Nat.le_succ _) (.int .i64 1))
      go_wp2_with (first | (go_at_call 96; refine (HT1.out _).mono ?_; rintro e w' ⟨rfl, rfl⟩) | ((with_reducible refine bp_id ?_); exact bodyPost_ret (results_row2 (P := Try.prog) rfl _ _ (w.heap.size + 1) 27 _ (0, 0) _ rfl XS Try.underlying27 rfl (by kernel_rfl)) rfl ⟨fun _ => by rw [HDP.out]; rfl, fun h => absurd HOK.out h, hbe⟩))
    · have dh : decide (0 < h) = false := decide_eq_false hh
      have hdp : dcP n a h l = (false, (szN (u - v) : Int), exZ (u - v), (szN (u - v) : Int)) := by
        unfold dcP
        rw [if_neg hh, HU.out, HV.out]
        unfold numP
        simp
      have HDP := Lib.hid hdp
      have hsz2 := Lib.hid (fun W => size_any (u - v) W)
      have hex2 := Lib.hid (fun W => extra_any (u - v) (by omega) W)
      clear hdp hh
      go_wp2_with fail
      refine (finer_any f t h l w1).mono ?_; rintro e w2 ⟨rfl, hb2⟩
      have X2 := X1.below hb2 X1.lt
      have XQ := XR.below hb2
      have hb2' := hb1'.trans (hb2.mono hb1'.size)
      clear x0 x1 x2 x3 X1 XR
      obtain ⟨_, x0, x1, x2, x3⟩ := id X2
      have hwr : IntKind.i64.wrap (u - v) = u - v := IntWalk.i64_in _ (by omega)
      rw [HU.out, HV.out] at hwr
      go_upto_region 5 with fail
      go_quiet ((go_at_call 96; exact quiet_l (tell_any _ l true (by omega) _)))
      rw [← HU.out, ← HV.out]
      have XQ' := XQ.keep (S := fun _ => False) (Fr.drewN (Fr.refl _ w2) nq) (fun f => f)
      have hb3' : Below w.heap.size w (w2.drewN nq) := ⟨hb2'.os, hb2'.tape, hb2'.output, hb2'.size, hb2'.block⟩
      generalize w2.drewN nq = w3 at *
      have r0 := XQ'.cell (i := 0) rfl
      have r1 := XQ'.cell (i := 1) rfl
      have r2 := XQ'.cell (i := 2) rfl
      have r3 := XQ'.cell (i := 3) rfl
      have g0 := XQ'.fz (i := 0) (by decide)
      have g1 := XQ'.fz (i := 1) (by decide)
      have g2 := XQ'.fz (i := 2) (by decide)
      have g3 := XQ'.fz (i := 3) (by decide)
      generalize szN (u - v) = sz at *
      generalize exZ (u - v) = ez at *
      have XS := pc_sets (a := .bool false) (b := .int .i64 (sz : Int)) (c := .int .i64 ez) (d := .int .i64 (sz : Int)) XQ' rfl
      have hbe := ((((hb3'.setCell (p := ⟨w.heap.size + 1, 0, none⟩) (Nat.le_succ _) (.bool false)).setCell (p := ⟨w.heap.size + 1, 1, none⟩) (Nat.le_succ _) (.int .i64 (sz : Int))).setCell (p := ⟨w.heap.size + 1, 2, none⟩) (Nat.le_succ _) (.int .i64 ez)).setCell (p := ⟨w.heap.size + 1, 3, none⟩) (Nat.le_succ _) (.int .i64 (sz : Int)))
      go_wp2_with (first | (go_at_call 38; refine (hsz2.out _).mono ?_; rintro e w' ⟨rfl, rfl⟩) | (go_at_call 39; refine (hex2.out _).mono ?_; rintro e w' ⟨rfl, rfl⟩) | ((with_reducible refine bp_id ?_); exact bodyPost_ret (results_row2 (P := Try.prog) rfl _ _ (w.heap.size + 1) 27 _ (0, 0) _ rfl XS Try.underlying27 rfl (by kernel_rfl)) rfl ⟨fun _ => by rw [HDP.out]; rfl, fun h => absurd HOK.out h, hbe⟩))
  · have HOK := Lib.hid hok
    rw [decide_eq_false hok]
    clear hok
    have r0 := XR.cell (i := 0) rfl
    have r1 := XR.cell (i := 1) rfl
    have r2 := XR.cell (i := 2) rfl
    have r3 := XR.cell (i := 3) rfl
    have g0 := XR.fz (i := 0) (by decide)
    have g1 := XR.fz (i := 1) (by decide)
    have g2 := XR.fz (i := 2) (by decide)
    have g3 := XR.fz (i := 3) (by decide)
    have XS := pc_sets (a := .bool false) (b := .int .i64 0) (c := .int .i64 0) (d := .int .i64 0) XR rfl
    have hbe := ((((hb1'.setCell (p := ⟨w.heap.size + 1, 0, none⟩) (Nat.le_succ _) (.bool false)).setCell (p := ⟨w.heap.size + 1, 1, none⟩) (Nat.le_succ _) (.int .i64 0)).setCell (p := ⟨w.heap.size + 1, 2, none⟩) (Nat.le_succ _) (.int .i64 0)).setCell (p := ⟨w.heap.size + 1, 3, none⟩) (Nat.le_succ _) (.int .i64 0))
    go_wp2_with (first | ((with_reducible refine bp_id ?_); exact bodyPost_ret (results_row2 (P := Try.prog) rfl _ _ (w.heap.size + 1) 27 _ (0, 0) _ rfl XS Try.underlying27 rfl (by kernel_rfl)) rfl ⟨fun h => absurd h HOK.out, fun _ => rfl, hbe⟩))
end
section
open Go.RowKit
set_option linter.unusedVariables false
set_option maxRecDepth 100000

/-- what a dc's bits come to: the dc, the bits, an error -/
noncomputable def rdD (S Z b : List Int) (n a h l : Int) : Int × Nat × Int :=
  if 0 < h then (if b.length < 1 then (0, 0, 8) else (n + hv (b.take 1) * 2 ^ l.toNat, 1, 0))
  else if (rdF S Z b).2.2 ≠ 0 then (0, 0, (rdF S Z b).2.2)
  else if 11 < (rdF S Z b).1.toNat then (0, 0, 2)
  else if b.length < (rdF S Z b).2.1 + (rdF S Z b).1.toNat then (0, 0, 8)
  else if DcB ((tl a l true + vaZ (hv ((b.drop (rdF S Z b).2.1).take (rdF S Z b).1.toNat)) (((rdF S Z b).1.toNat : Nat) : Int)) * 2 ^ l.toNat) then
    ((tl a l true + vaZ (hv ((b.drop (rdF S Z b).2.1).take (rdF S Z b).1.toNat)) (((rdF S Z b).1.toNat : Nat) : Int)) * 2 ^ l.toNat, (rdF S Z b).2.1 + (rdF S Z b).1.toNat, 0)
  else (0, 0, 2)
section
variable {S Z b : List Int} {n a h l e : Int} {s m : Nat}
theorem rdD_bad (hh : ¬ 0 < h) (hF : rdF S Z b = ((s : Int), m, e)) (he : e ≠ 0) : rdD S Z b n a h l = (0, 0, e) := by
  rw [rdD, if_neg hh, hF]; exact if_pos he
theorem rdD_big (hh : ¬ 0 < h) (hF : rdF S Z b = ((s : Int), m, 0)) (h1 : 11 < s) : rdD S Z b n a h l = (0, 0, 2) := by
  rw [rdD, if_neg hh, hF, if_neg (by simp), if_pos (by simpa using h1)]
theorem rdD_few (hh : ¬ 0 < h) (hF : rdF S Z b = ((s : Int), m, 0)) (h1 : ¬ 11 < s) (hl : b.length < m + s) : rdD S Z b n a h l = (0, 0, 8) := by
  rw [rdD, if_neg hh, hF, if_neg (by simp), if_neg (by simpa using h1), if_pos (by simpa using hl)]
theorem rdD_out (hh : ¬ 0 < h) (hF : rdF S Z b = ((s : Int), m, 0)) (h1 : ¬ 11 < s) (hl : ¬ b.length < m + s) {v : Int} (hv : (tl a l true + vaZ (hv ((b.drop m).take s)) (s : Int)) * 2 ^ l.toNat = v) (hd : ¬ DcB v) : rdD S Z b n a h l = (0, 0, 2) := by
  subst hv
  rw [rdD, if_neg hh, hF, if_neg (by simp), if_neg (by simpa using h1), if_neg (by simpa using hl)]; exact if_neg hd
theorem rdD_go (hh : ¬ 0 < h) (hF : rdF S Z b = ((s : Int), m, 0)) (h1 : ¬ 11 < s) (hl : ¬ b.length < m + s) {v : Int} (hv : (tl a l true + vaZ (hv ((b.drop m).take s)) (s : Int)) * 2 ^ l.toNat = v) (hd : DcB v) : rdD S Z b n a h l = (v, m + s, 0) := by
  subst hv
  rw [rdD, if_neg hh, hF, if_neg (by simp), if_neg (by simpa using h1), if_neg (by simpa using hl)]; exact if_pos hd
end
theorem sy_bd2 {ls : List Int} {O : List Nat} {C : List Int} (ho : Ordd ls O C) : ∀ x ∈ sy O, 0 ≤ x ∧ x ≤ 511 := by
  intro x hx
  obtain ⟨s, hs, rfl⟩ := List.mem_map.1 hx
  have := (ho.mem s hs).1
  have := ho.lls
  omega
theorem errE_nil2 : errE 0 = .nilIface := rfl
theorem errE_ne2 {n : Int} (h : n ≠ 0) : errE n = errV n := if_neg h
/-- Take of the bits' reader -/
theorem rtk_ok {w : World} {p : Nat} {A : Option Addr} {c m : Nat} {B : List Int} (x : Re w p true A c B m) (hm : B.length ≤ 68719476736) (n : Nat) (hn : n ≤ 15) (hl : ¬ 8 * B.length < m + n) :
    Calls Try.prog 111 #[.pointer (some ⟨p, 0, none⟩), .int .i64 n] w fun e w' => e = .returned (.tuple #[.int .i64 (hv (((bitsOf true B).drop m).take n)), .nilIface]) ∧ Re w' p true A c B (m + n) ∧ Fp p w w' := by
  have hnl := nxt_len true B m n (by omega)
  refine (take_any x hm n (by omega) (by omega)).mono ?_
  rintro e w' ⟨rfl, h2, h3⟩
  exact ⟨by rw [part_hv n _ hnl]; rfl, h2, h3⟩
def RdDP (R : Int × Nat × Int) (rp : Nat) (A : Option Addr) (c : Nat) (Bs : List Int) (m : Nat) (w : World) (e : Ending) (w' : World) : Prop :=
  ∃ m', e = .returned (.tuple #[.int .i64 R.1, errE R.2.2]) ∧ Re w' rp true A c Bs m' ∧ (R.2.2 = 0 → m' = m + R.2.1) ∧ Fp rp w w'
def ErrDP (w : World) (e : Ending) (w' : World) : Prop := e = .returned (.tuple #[.int .i64 0, errV 6]) ∧ Below w.heap.size w w'
theorem two_int (H : Nat) (hH : H ≤ 10) : 1 ≤ (2 : Int) ^ H ∧ (2 : Int) ^ H ≤ 1024 := by
  have h1 := two_pos H
  have h2 : 2 ^ H ≤ 2 ^ 10 := Nat.pow_le_pow_right (by omega) hH
  have h3 := two_cast H
  rw [show 2 ^ 10 = 1024 from rfl] at h2
  omega
set_option maxHeartbeats 8000000 in
theorem preadDC_err (vb vr : Value) (n a f t h l : Int) (hn : -9223372036854775808 ≤ n ∧ n ≤ 9223372036854775807) (hno : ¬ (DcOk f t h l n a ∧ (0 < h → n % 2 ^ h.toNat = 0))) (w : World) :
    Calls Try.prog 90 #[vb, vr, .int .i64 n, .int .i64 a, .agg #[.int .i64 f, .int .i64 t, .int .i64 h, .int .i64 l]] w (ErrDP w) := by
  have X := Box4.new w 107 (.int .i64 f) (.int .i64 t) (.int .i64 h) (.int .i64 l)
  have hb0 : Below w.heap.size w (w.alloc (.cells #[.int .i64 f, .int .i64 t, .int .i64 h, .int .i64 l] 107)) := (Below.refl _ _).alloc (Nat.le_refl _) _
  have HNO := Lib.hid hno
  go_enter Try.func90, Try.ntmps90
  go_upto_region 1 with fail
  generalize w.alloc (.cells #[.int .i64 f, .int .i64 t, .int .i64 h, .int .i64 l] 107) = w0 at *
  obtain ⟨_, x0, x1, x2, x3⟩ := id X
  go_wp2_with fail
  refine (ofdc_any f t h l n a w0).mono ?_; rintro e w1 ⟨rfl, hb1⟩
  have X1 := X.below hb1 X.lt
  have hb1' := hb0.trans (hb1.mono hb0.size)
  clear x0 x1 x2 x3 X
  obtain ⟨_, x0, x1, x2, x3⟩ := id X1
  by_cases hok : DcOk f t h l n a
  · have HOK := Lib.hid hok
    rw [decide_eq_true hok]
    have hh : 0 < h := Classical.byContradiction fun hh => hno ⟨hok, fun h0 => absurd h0 hh⟩
    have hmod : n % 2 ^ h.toNat ≠ 0 := fun e => hno ⟨hok, fun _ => e⟩
    have hh10 : h ≤ 10 := by have := hok.1; unfold Gd at this; omega
    obtain ⟨H, rfl⟩ := Int.eq_ofNat_of_zero_le (show 0 ≤ h by omega)
    rw [Int.toNat_natCast] at hmod
    have dh : decide (0 < (H : Int)) = true := decide_eq_true hh
    have hp := two_int H (by omega)
    have hmk : bits BinOp.and IntKind.i64 n ((2 : Int) ^ H - 1) = n % 2 ^ H := i64_mask H (by omega) n
    have dm : (n % (2 : Int) ^ H != 0) = true := by simp; exact hmod
    clear hok hno hmod
    go_wp2_with fail
    refine (finer_any f t H l w1).mono ?_; rintro e w2 ⟨rfl, hb2⟩
    have X2 := X1.below hb2 X1.lt
    have hb2' := hb1'.trans (hb2.mono hb1'.size)
    clear x0 x1 x2 x3 X1
    obtain ⟨_, x0, x1, x2, x3⟩ := id X2
    go_wp2
    go_ret2
    exact ⟨rfl, hb2'⟩
  · rw [decide_eq_false hok]
    clear hok hno
    go_wp2
    go_ret2
    exact ⟨rfl, hb1'⟩
set_option maxHeartbeats 16000000 in
theorem preadDC_any {ls : List Int} {O : List Nat} {C : List Int} {w : World} {B p1 rp : Nat} {A : Option Addr} {c m : Nat} {Bs : List Int} (hK : BkS w B p1 ls O C) (ho : Ordd ls O C) (hBr : B ≤ rp) (x : Re w rp true A c Bs m) (hm : Bs.length ≤ 68719476736)
    (n a f t h l : Int) (hok : DcOk f t h l n a) (hmod : 0 < h → n % 2 ^ h.toNat = 0) {R : Int × Nat × Int} (hR : rdD (sy O) (sz ls O) ((bitsOf true Bs).drop m) n a h l = R) :
    Calls Try.prog 90 #[.pointer (some ⟨p1, 0, none⟩), .pointer (some ⟨rp, 0, none⟩), .int .i64 n, .int .i64 a, .agg #[.int .i64 f, .int .i64 t, .int .i64 h, .int .i64 l]] w (RdDP R rp A c Bs m w) := by
  have X := Box4.new w 107 (.int .i64 f) (.int .i64 t) (.int .i64 h) (.int .i64 l)
  have hb0 : Below w.heap.size w (w.alloc (.cells #[.int .i64 f, .int .i64 t, .int .i64 h, .int .i64 l] 107)) := (Below.refl _ _).alloc (Nat.le_refl _) _
  have hrp := x.lt
  have HOK := Lib.hid hok
  have HMD := Lib.hid hmod
  have HO := Lib.hid ho
  have HR := Lib.hid hR
  have hgd := hok.1
  have hll : 0 ≤ l ∧ l ≤ 9 ∧ 0 ≤ h ∧ h ≤ 10 := by unfold Gd at hgd; omega
  obtain ⟨H, rfl⟩ := Int.eq_ofNat_of_zero_le hll.2.2.1
  obtain ⟨L, rfl⟩ := Int.eq_ofNat_of_zero_le hll.1
  have hn1 := hok.2.2.1.1
  have hn2 := hok.2.2.1.2
  have ha1 := hok.2.2.2.1
  have ha2 := hok.2.2.2.2
  have hpL := two_int L (by omega)
  have hdk := decide_eq_true hok
  have HDK := Lib.hid hdk
  clear hok hmod ho hR hgd hdk
  go_enter Try.func90, Try.ntmps90
  go_upto_region 1 with fail
  generalize w.alloc (.cells #[.int .i64 f, .int .i64 t, .int .i64 (H : Int), .int .i64 (L : Int)] 107) = w0 at *
  obtain ⟨_, x0, x1, x2, x3⟩ := id X
  go_wp2_with fail
  refine (ofdc_any f t H L n a w0).mono ?_; rintro e w1 ⟨rfl, hb1⟩
  rw [HDK.out]
  have X1 := X.below hb1 X.lt
  have hb1' := hb0.trans (hb1.mono hb0.size)
  clear x0 x1 x2 x3 X
  obtain ⟨_, x0, x1, x2, x3⟩ := id X1
  by_cases hh : 0 < H
  · have dh : decide (0 < (H : Int)) = true := decide_eq_true (by omega)
    have hp := two_int H (by omega)
    have hmk : bits BinOp.and IntKind.i64 n ((2 : Int) ^ H - 1) = n % 2 ^ H := i64_mask H (by omega) n
    have hm0 : n % (2 : Int) ^ H = 0 := by have := HMD.out (by omega); rwa [Int.toNat_natCast] at this
    have dm : (n % (2 : Int) ^ H != 0) = false := by simp; exact hm0
    clear hm0
    go_wp2_with fail
    refine (finer_any f t H L w1).mono ?_; rintro e w2 ⟨rfl, hb2⟩
    have X2 := X1.below hb2 X1.lt
    have hb2' := hb1'.trans (hb2.mono hb1'.size)
    clear x0 x1 x2 x3 X1
    obtain ⟨_, x0, x1, x2, x3⟩ := id X2
    go_wp2_with fail
    refine (finer_any f t H L w2).mono ?_; rintro e w3 ⟨rfl, hb3⟩
    have X3 := X2.below hb3 X2.lt
    have hb3' := hb2'.trans (hb3.mono hb2'.size)
    have hx3 := x.below hb3'
    clear x0 x1 x2 x3 X2
    by_cases hl : 8 * Bs.length < m + 1
    · go_wp2_with fail
      refine (take_end hx3 hm 1 (by omega) (by omega)).mono ?_; rintro e w4 ⟨rfl, hb4⟩
      have hRR : R = (0, 0, 8) := by
        rw [← HR.out]
        unfold rdD
        rw [if_pos (by omega), if_pos (by rw [List.length_drop, bitsOf_len]; omega)]
      have HRR := Lib.hid hRR
      have hb4' := hb3'.trans (hb4.mono hb3'.size)
      have hx4 := x.below hb4'
      clear hRR
      unfold errV
      go_wp2
      go_ret2
      exact ⟨m, by rw [HRR.out]; rfl, hx4, fun h => (by rw [HRR.out] at h; cases h), Fp.of_below hb4'⟩
    · have htk := rtk_ok hx3 hm 1 (by omega) hl
      have hbit : hv (((bitsOf true Bs).drop m).take 1) = 0 ∨ hv (((bitsOf true Bs).drop m).take 1) = 1 := by
        have h1 := hv_bd ((bitsOf_01 true Bs).drop m |>.take 1)
        have h2 : (((bitsOf true Bs).drop m).take 1).length ≤ 1 := List.length_take_le _ _
        have h3 : (2 : Int) ^ (((bitsOf true Bs).drop m).take 1).length ≤ 2 := by
          rcases Nat.lt_or_ge (((bitsOf true Bs).drop m).take 1).length 1 with h | h
          · rw [show (((bitsOf true Bs).drop m).take 1).length = 0 by omega]; decide
          · rw [show (((bitsOf true Bs).drop m).take 1).length = 1 by omega]; decide
        omega
      have hRR : R = (n + hv (((bitsOf true Bs).drop m).take 1) * 2 ^ L, 1, 0) := by
        rw [← HR.out]
        unfold rdD
        rw [if_pos (by omega), if_neg (by rw [List.length_drop, bitsOf_len]; omega), Int.toNat_natCast]
      have HRR := Lib.hid hRR
      have HTK := Lib.hid htk
      generalize hv (((bitsOf true Bs).drop m).take 1) = bt at *
      have hbb : bt * (2 : Int) ^ L = 0 ∨ bt * (2 : Int) ^ L = 2 ^ L := by
        rcases hbit with h | h
        · left; rw [h, Int.zero_mul]
        · right; rw [h, Int.one_mul]
      have hw1 : IntKind.i64.wrap (bt * (2 : Int) ^ L) = bt * 2 ^ L := IntWalk.i64_in _ (by omega)
      clear hRR htk
      obtain ⟨_, x0, x1, x2, x3⟩ := id X3
      go_wp2_with fail
      refine HTK.out.mono ?_; rintro e w4 ⟨rfl, hx4, hf4⟩
      have hne : w.heap.size ≠ rp := by omega
      have y3 := (hf4.cell (p := ⟨w.heap.size, 3, none⟩) X3.lt hne).trans x3
      have hf4' := (Fp.of_below (p := rp) hb3').trans hf4
      clear x0 x1 x2 x3
      go_wp2
      go_ret2
      exact ⟨m + 1, by rw [HRR.out]; rfl, hx4, fun _ => by rw [HRR.out], hf4'⟩
  · obtain rfl : H = 0 := by omega
    have dh : decide (0 < ((0 : Nat) : Int)) = false := rfl
    rw [show (((0 : Nat) : Int)) = 0 from rfl] at *
    go_wp2_with fail
    refine (finer_any f t 0 L w1).mono ?_; rintro e w2 ⟨rfl, hb2⟩
    have X2 := X1.below hb2 X1.lt
    have hb2' := hb1'.trans (hb2.mono hb1'.size)
    clear x0 x1 x2 x3 X1
    obtain ⟨_, x0, x1, x2, x3⟩ := id X2
    go_wp2_with fail
    refine (finer_any f t 0 L w2).mono ?_; rintro e w3 ⟨rfl, hb3⟩
    have X3 := X2.below hb3 X2.lt
    have hb3' := hb2'.trans (hb3.mono hb2'.size)
    have hx3 := x.below hb3'
    have hK3 := hK.keep (hb3'.mono hK.size)
    clear x0 x1 x2 x3 X2
    go_wp2_with fail
    refine (read_any hK3 HO.out hBr hx3 hm).mono ?_; rintro e w4 ⟨sym, k, er, hr, rfl, hx4, hf4⟩
    obtain ⟨b, hb⟩ : ∃ b, b = (bitsOf true Bs).drop m := ⟨_, rfl⟩
    rw [← hb] at hr HR
    have HB := Lib.hid hb
    have hB01 : B01 b := by rw [hb]; exact (bitsOf_01 _ _).drop _
    have hbl : b.length = 8 * Bs.length - m := by rw [hb, List.length_drop, bitsOf_len]
    obtain ⟨s, rfl⟩ := Int.eq_ofNat_of_zero_le (hr.sy_bd (sy_bd2 HO.out)).1
    have hs511 := (hr.sy_bd (sy_bd2 HO.out)).2
    have HF := Lib.hid (rdF_eq HO.out.zs hB01 hr)
    have hkb := hr.bd
    have hne : w.heap.size ≠ rp := by omega
    have hf4' := (Fp.of_below (p := rp) hb3').trans hf4
    have y3 := (hf4.cell (p := ⟨w.heap.size, 3, none⟩) X3.lt hne).trans X3.c3
    have hle := x.le
    clear hr hb hB01 X3
    by_cases he : er = 0
    · subst he
      rw [errE_nil2]
      by_cases h11 : 11 < s
      · have d1 : decide ((11 : Int) < (s : Int)) = true := decide_eq_true (by omega)
        have hRR : R = (0, 0, 2) := by rw [← HR.out]; exact rdD_big (by omega) HF.out h11
        have HRR := Lib.hid hRR
        clear hRR
        go_wp2
        go_ret2
        exact ⟨m + k, by rw [HRR.out]; rfl, hx4, fun h => (by rw [HRR.out] at h; cases h), hf4'⟩
      · have d1 : decide ((11 : Int) < (s : Int)) = false := decide_eq_false (by omega)
        by_cases hl : 8 * Bs.length < m + k + s
        · have hRR : R = (0, 0, 8) := by rw [← HR.out]; exact rdD_few (by omega) HF.out h11 (by omega)
          have HRR := Lib.hid hRR
          clear hRR
          go_wp2_with fail
          refine (take_end hx4 hm s (by omega) (by omega)).mono ?_; rintro e w5 ⟨rfl, hb5⟩
          have hx5 := hx4.below hb5
          have hf5 := hf4'.trans (Fp.of_below (p := rp) hb5)
          unfold errV
          go_wp2
          go_ret2
          exact ⟨m + k, by rw [HRR.out]; rfl, hx5, fun h => (by rw [HRR.out] at h; cases h), hf5⟩
        · have htk := rtk_ok hx4 hm s (by omega) hl
          have hdd : ((bitsOf true Bs).drop (m + k)).take s = (b.drop k).take s := by rw [HB.out, List.drop_drop]
          rw [hdd] at htk
          have hhv := hv_bd (((bitsOf_01 true Bs).drop (m + k)).take s)
          rw [hdd] at hhv
          have hsl : ((b.drop k).take s).length ≤ 11 := by have := List.length_take_le s (b.drop k); omega
          have hp11 : (2 : Int) ^ ((b.drop k).take s).length ≤ 2048 := by
            have h2 := Nat.pow_le_pow_right (show 0 < 2 by omega) hsl
            have h3 := two_cast ((b.drop k).take s).length
            rw [show 2 ^ 11 = 2048 from rfl] at h2
            omega
          have hva := vaN_bd (hv ((b.drop k).take s)) s (by omega)
          have hHT := Lib.hid htk
          have hta := tl_bd (n := a) (L : Int) ha1 ha2 true
          have HGO := Lib.hid (@rdD_go (sy O) (sz ls O) b n a 0 (L : Int) s k (by omega) HF.out h11 (by omega) _ rfl)
          have HOUT := Lib.hid (@rdD_out (sy O) (sz ls O) b n a 0 (L : Int) s k (by omega) HF.out h11 (by omega) _ rfl)
          rw [Int.toNat_natCast] at HGO HOUT
          generalize hv ((b.drop k).take s) = y at *
          have hval := fun W => value_any y (s : Int) (by omega) W
          have HVAL := Lib.hid hval
          obtain ⟨va, hvq⟩ : ∃ va, va = vaZ y (s : Int) := ⟨_, rfl⟩
          obtain ⟨u, huq⟩ : ∃ u, u = tl a (L : Int) true := ⟨_, rfl⟩
          rw [← hvq] at hva HVAL HGO HOUT
          rw [← huq] at hta HGO HOUT
          have HUQ := Lib.hid huq
          have hmul : -17825792 * 2 ≤ (u + va) * (2 : Int) ^ L ∧ (u + va) * (2 : Int) ^ L ≤ 17825792 * 2 := by
            generalize (2 : Int) ^ L = P at *
            have q1 : (u + va) * P ≤ 33791 * P := Int.mul_le_mul_of_nonneg_right (by omega) (by omega)
            have q2 : -33792 * P ≤ (u + va) * P := Int.mul_le_mul_of_nonneg_right (by omega) (by omega)
            omega
          have hw1 : wrap64 (u + va) = u + va := by unfold wrap64; omega
          have hw2 : wrap64 ((u + va) * (2 : Int) ^ L) = (u + va) * 2 ^ L := by unfold wrap64; omega
          obtain ⟨o, hoq⟩ : ∃ o, o = (u + va) * (2 : Int) ^ L := ⟨_, rfl⟩
          rw [← hoq] at HGO HOUT
          replace hw2 : wrap64 ((u + va) * (2 : Int) ^ L) = o := hw2.trans hoq.symm
          have HOQ := Lib.hid hoq
          clear htk hdd hhv hsl hp11 hval hvq huq hoq
          go_wp2_with fail
          refine hHT.out.mono ?_; rintro e w5 ⟨rfl, hx5, hf5⟩
          have hf5' := hf4'.trans hf5
          have z3 := (hf5.cell (p := ⟨w.heap.size, 3, none⟩) (World.block_lt_of_cell? _ _ y3) hne).trans y3
          clear y3 hx4
          go_upto_region 16 with fail
          go_quiet ((first | (go_at_call 96; exact quiet_l (tell_any _ (L : Int) true (by omega) _)) | (go_at_call 40; exact quiet_l (HVAL.out _))))
          rw [← HUQ.out, hw1, hw2]
          have hx6 := hx5.drewN nq
          have hf6 := hf5'.trans ((Fp.refl rp w5).drewN nq)
          clear z3 hw1 hw2
          generalize w5.drewN nq = w6 at *
          by_cases hd : DcB o
          · have HD := Lib.hid (decide_eq_true hd)
            have hRR : R = (o, k + s, 0) := by rw [← HR.out]; exact HGO.out hd
            have HRR := Lib.hid hRR
            clear hRR hd
            go_wp2_with (go_at_call 130; refine (pdcIn_any _ _).mono ?_; rintro e w' ⟨rfl, rfl⟩; rw [HD.out])
            go_ret2
            exact ⟨m + k + s, by rw [HRR.out]; rfl, hx6, fun _ => by rw [HRR.out]; exact Nat.add_assoc m k s, hf6⟩
          · have HD := Lib.hid (decide_eq_false hd)
            have hRR : R = (0, 0, 2) := by rw [← HR.out]; exact HOUT.out hd
            have HRR := Lib.hid hRR
            clear hRR hd
            go_wp2_with (go_at_call 130; refine (pdcIn_any _ _).mono ?_; rintro e w' ⟨rfl, rfl⟩; rw [HD.out])
            go_ret2
            exact ⟨m + k + s, by rw [HRR.out]; rfl, hx6, fun h => (by rw [HRR.out] at h; cases h), hf6⟩
    · have hne2 := errE_ne2 he
      have hRR : R = (0, 0, er) := by rw [← HR.out]; exact rdD_bad (by omega) HF.out he
      have HRR := Lib.hid hRR
      have HNE := Lib.hid hne2
      have HE := Lib.hid he
      rw [hne2]
      unfold errV
      clear hRR hne2 he
      go_wp2
      go_ret2
      exact ⟨m + k, by rw [HRR.out, HNE.out]; rfl, hx4, fun h => (by rw [HRR.out] at h; exact absurd h HE.out), hf4'⟩
end
end Go.Proofs.Ytlhappecjjbopaa
