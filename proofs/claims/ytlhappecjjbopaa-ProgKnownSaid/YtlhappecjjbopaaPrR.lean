/-
  ProgDC: which piece any dc has, and which dc any bits are, of any band. No condition.
-/
import Derived.Test.YtlhappecjjbopaaPrQ
import Derived.Test.YtlhappecjjbopaaCbA
import Derived.Test.YtlhappecjjbopaaFacts
import Derived.Test.YtlhappecjjbopaaArw
import Derived.Test.YtlhappecjjbopaaBlk
namespace Go.Proofs.Ytlhappecjjbopaa
open Go.ChangeShapes Go.WideShapes Go.ChangeAt Go.WideMaps Go.WideElems Go.RowKit Go.Joins
set_option linter.unusedVariables false
set_option maxRecDepth 100000

theorem rdD_err (S Z b : List Int) (n a h l : Int) : 0 ≤ (rdD S Z b n a h l).2.2 ∧ (rdD S Z b n a h l).2.2 ≤ 8 := by
  have he : 0 ≤ (rdF S Z b).2.2 ∧ (rdF S Z b).2.2 ≤ 8 := by
    unfold rdF
    split
    · rename_i h; exact (Classical.choose_spec h).bd.2.1
    · decide
  unfold rdD
  split
  · split <;> (dsimp only; omega)
  · split
    · exact he
    · split
      · dsimp only; omega
      · split
        · dsimp only; omega
        · split <;> (dsimp only; omega)
def RetT (w : World) (e : Ending) (w' : World) : Prop := e = .returned (.bool true) ∧ Below w.heap.size w w'
set_option maxHeartbeats 16000000 in
theorem progDC_any (w : World)
    (cn : List Int) (hcn : cn.length = 16) (hIc : Is cn) (A1 : Option Addr) (n1 c1 : Nat) (ss : List Int) (hn1 : ss.length = n1) (hcc1 : n1 ≤ c1) (hmm1 : c1 ≤ 9223372036854775807) (hR1 : Rd w w.heap.size A1 (bv ss)) (hB1 : Bs ss)
    (A : Option Addr) (nb c : Nat) (bs : List Int) (hnb : bs.length = nb) (hcc : nb ≤ c) (hmm : c ≤ 9223372036854775807) (hR : Rd w w.heap.size A (bv bs)) (hB : Bs bs)
    (A3 : Option Addr) (n3 c3 : Nat) (rows : List (List Value)) (hn3 : rows.length = n3) (hcc3 : n3 ≤ c3) (hmm3 : c3 ≤ 9223372036854775807) (hrows : ∀ r ∈ rows, r.length = 64 ∧ IvN 64 r) (hR3 : Rd w w.heap.size A3 rows.flatten)
    (f : Int) (hf : -9223372036854775808 ≤ f ∧ f ≤ 9223372036854775807) (t : Int) (ht : -9223372036854775808 ≤ t ∧ t ≤ 9223372036854775807) (h : Int) (hh : -9223372036854775808 ≤ h ∧ h ≤ 9223372036854775807) (l : Int) (hl : -9223372036854775808 ≤ l ∧ l ≤ 9223372036854775807)
    (n : Int) (hn : -9223372036854775808 ≤ n ∧ n ≤ 9223372036854775807) (a : Int) (ha : -9223372036854775808 ≤ a ∧ a ≤ 9223372036854775807) :
    Calls Try.prog 20 #[.agg ((iv cn ++ [Value.slice A1 n1 c1]) ++ ([Value.slice A nb c] ++ ([Value.slice A3 n3 c3] ++ ([Value.int .i64 f] ++ ([Value.int .i64 t] ++ ([Value.int .i64 h] ++ ([Value.int .i64 l]))))))).toArray, .int .i64 n, .int .i64 a] w (RetT w) := by
  obtain ⟨L, hL⟩ : ∃ L, L = (iv cn ++ [Value.slice A1 n1 c1]) ++ ([Value.slice A nb c] ++ ([Value.slice A3 n3 c3] ++ ([Value.int .i64 f] ++ ([Value.int .i64 t] ++ ([Value.int .i64 h] ++ ([Value.int .i64 l])))))) := ⟨_, rfl⟩
  rw [← hL]
  have hl1 : (iv cn ++ [Value.slice A1 n1 c1]).length = 17 := by rw [List.length_append, iv_len, hcn]; rfl
  have gg : ∀ k u, [Value.slice A nb c, .slice A3 n3 c3, .int .i64 f, .int .i64 t, .int .i64 h, .int .i64 l][k]? = some u → L[17 + k]? = some u := fun k u hu => by
    rw [hL, List.getElem?_append_right (by rw [hl1]; omega), hl1, show 17 + k - 17 = k by omega]; exact hu
  have G17 := Lib.hid (gg 0 _ rfl)
  have G19 := Lib.hid (gg 2 _ rfl)
  have G20 := Lib.hid (gg 3 _ rfl)
  have G21 := Lib.hid (gg 4 _ rfl)
  have G22 := Lib.hid (gg 5 _ rfl)
  have r1 : ∀ j v, (iv cn ++ [Value.slice A1 n1 c1])[j]? = some v → L[0 + j]? = some v := fun j v hv => by
    have := (List.getElem?_eq_some_iff.1 hv).1
    rw [Nat.zero_add, hL, List.getElem?_append_left this]; exact hv
  have R1 := Lib.hid r1
  have H17 := Lib.hid hl1
  have HN := Lib.hid hnb
  have HN1 := Lib.hid hn1
  have HC1 := Lib.hid hcn
  have X0 := Bln.new w 135 L
  have hb0 : Below w.heap.size w (w.alloc (.cells L.toArray 135)) := (Below.refl _ _).alloc (Nat.le_refl _) _
  clear hL r1 gg hl1 hnb hn1 hcn hrows hR3 hn3
  go_enter Try.func20, Try.ntmps20
  go_upto_region 1 with fail
  generalize w.alloc (.cells L.toArray 135) = w0 at *
  have hs0 := hb0.size
  have hgl := X0.lt
  obtain ⟨gb, hgb⟩ : ∃ g, g = w.heap.size := ⟨_, rfl⟩
  rw [← hgb] at X0 hgl ⊢
  have hgb1 : gb ≤ w.heap.size := by omega
  have hgb2 : w.heap.size ≤ gb := by omega
  clear hgb
  go_wp2_with fail
  refine (alive22_any w0).mono ?_; rintro e w1 ⟨rfl, hb1⟩
  have X1 := X0.below hb1
  have hb1' := hb0.trans (hb1.mono hs0)
  have hs1 := hb1'.size
  have hg1 : gb < w1.heap.size := X1.lt
  have k17 := X1.cell G17.out
  have k19 := X1.cell G19.out
  have k20 := X1.cell G20.out
  have k21 := X1.cell G21.out
  have k22 := X1.cell G22.out
  clear X0 hb1 hb0 hs0 hgl
  by_cases h200 : 200 < nb
  · have d1 : decide ((200 : Int) < (nb : Int)) = true := decide_eq_true (by omega)
    go_wp2
    go_ret
    exact ⟨rfl, hb1'⟩
  have d1 : decide ((200 : Int) < (nb : Int)) = false := decide_eq_false (by omega)
  go_upto_region 6 with fail
  have Y0 := Box4.new w1 33 (.int .i64 f) (.int .i64 t) (.int .i64 h) (.int .i64 l)
  have hba : Below w1.heap.size w1 (w1.alloc (.cells #[.int .i64 f, .int .i64 t, .int .i64 h, .int .i64 l] 33)) := (Below.refl _ _).alloc (Nat.le_refl _) _
  have X2 := X1.below hba
  have hb2' := hb1'.trans (hba.mono hs1)
  have hs2 := hb2'.size
  generalize w1.alloc (.cells #[.int .i64 f, .int .i64 t, .int .i64 h, .int .i64 l] 33) = w2 at *
  generalize w1.heap.size = bb at *
  have hbb := Y0.lt
  have hgb3 : gb < w2.heap.size := X2.lt
  clear X1 hb1' hba k17 k19 k20 k21 k22 d1 hs1
  obtain ⟨_, x0, x1, x2, x3⟩ := id Y0
  go_cut [8] from 32 to 46 (fun v wx => v = .bool (decide (DcOk f t h l n a)) ∧ Below w2.heap.size w2 wx)
  case first =>
    by_cases hgd : Gd f t h l
    · have HGD := Lib.hid hgd
      go_wp2_with fail
      refine (rgood_any f t h l true (fun hg => rfl) (fun hg => absurd hgd hg) w2).mono ?_; rintro e w3 ⟨rfl, hb3⟩
      clear x0 x1 x2 x3 hgd
      obtain ⟨_, x0, x1, x2, x3⟩ := Y0.below hb3 hbb
      by_cases hf0 : f = 0
      · have d0 : (f == 0) = true := by simp; exact hf0
        have HF0 := Lib.hid hf0
        clear hf0
        by_cases h1 : DcB n
        · have D1 := Lib.hid (decide_eq_true h1)
          go_wp2_with fail
          refine (rdc_any n w3).mono ?_; rintro e w' ⟨rfl, rfl⟩
          rw [D1.out]
          have H1 := Lib.hid h1
          clear h1
          by_cases h2 : DcB a
          · have D2 := Lib.hid (decide_eq_true h2)
            have H2 := Lib.hid h2
            clear h2
            go_wp2_with fail
            refine (rdc_any a w3).mono ?_; rintro e w' ⟨rfl, rfl⟩
            rw [D2.out]
            go_wp2_with fail
            go_meet
            exact ⟨by rw [decide_eq_true (show DcOk f t h l n a from ⟨HGD.out, HF0.out, H1.out, H2.out⟩)], hb3⟩
          · have D2 := Lib.hid (decide_eq_false h2)
            have H2 := Lib.hid h2
            clear h2
            go_wp2_with fail
            refine (rdc_any a w3).mono ?_; rintro e w' ⟨rfl, rfl⟩
            rw [D2.out]
            go_wp2_with fail
            go_meet
            exact ⟨by rw [decide_eq_false (show ¬ DcOk f t h l n a from fun q => H2.out q.2.2.2)], hb3⟩
        · have D1 := Lib.hid (decide_eq_false h1)
          have H1 := Lib.hid h1
          clear h1
          go_wp2_with fail
          refine (rdc_any n w3).mono ?_; rintro e w' ⟨rfl, rfl⟩
          rw [D1.out]
          go_wp2_with fail
          go_meet
          exact ⟨by rw [decide_eq_false (show ¬ DcOk f t h l n a from fun q => H1.out q.2.2.1)], hb3⟩
      · have d0 : (f == 0) = false := by simp; exact hf0
        have HF0 := Lib.hid hf0
        clear hf0
        go_wp2_with fail
        go_meet
        exact ⟨by rw [decide_eq_false (show ¬ DcOk f t h l n a from fun q => HF0.out q.2.1)], hb3⟩
    · have HGD := Lib.hid hgd
      go_wp2_with fail
      refine (rgood_any f t h l false (fun hg => absurd hg hgd) (fun _ => rfl) w2).mono ?_; rintro e w3 ⟨rfl, hb3⟩
      clear hgd
      go_wp2_with fail
      go_meet
      exact ⟨by rw [decide_eq_false (show ¬ DcOk f t h l n a from fun q => HGD.out q.1)], hb3⟩
  case rest =>
    obtain ⟨rfl, hb3⟩ := hcut
    have Y3 := Y0.below hb3 hbb
    have X3 := X2.below hb3
    have hb3' := hb2'.trans (hb3.mono hs2)
    have hs3 := hb3'.size
    clear x0 x1 x2 x3 Y0 X2
    obtain ⟨_, x0, x1, x2, x3⟩ := id Y3
    go_wp2_with fail
    refine (band_any f t h l wc).mono ?_; rintro e w4 ⟨rfl, hb4⟩
    have Y4 := Y3.below hb4 Y3.lt
    have X4 := X3.below hb4
    have hb4' := hb3'.trans (hb4.mono hs3)
    have hs4 := hb4'.size
    clear x0 x1 x2 x3 Y3 X3
    go_wp2_with fail
    refine (pdc_any n a f t h l hn w4).mono ?_; rintro e w5 ⟨hp1, hp2, hb5⟩
    have Y5 := Y4.below hb5 Y4.lt
    have X5 := X4.below hb5
    have hb5' := hb4'.trans (hb5.mono hs4)
    have hs5 := hb5'.size
    clear Y4 X4 hb3 hb4 hb5 hb3' hb4' hs3 hs4
    by_cases hok : DcOk f t h l n a
    · have HOK := Lib.hid hok
      rw [decide_eq_true hok]
      obtain rfl := hp1 hok
      clear hp1 hp2
      obtain ⟨q0, q1, q2, q3, hq⟩ : ∃ q0 q1 q2 q3, dcP n a h l = (q0, q1, q2, q3) := ⟨_, _, _, _, rfl⟩
      have HQ := Lib.hid hq
      rw [hq, show (pcV (q0, q1, q2, q3)).toArray = #[.bool q0, .int .i64 q1, .int .i64 q2, .int .i64 q3] from rfl]
      have Z0 := Box4.new w5 27 (.bool q0) (.int .i64 q1) (.int .i64 q2) (.int .i64 q3)
      have hba : Below w5.heap.size w5 (w5.alloc (.cells #[.bool q0, .int .i64 q1, .int .i64 q2, .int .i64 q3] 27)) := (Below.refl _ _).alloc (Nat.le_refl _) _
      have Y6 := Y5.below hba Y5.lt
      have X6 := X5.below hba
      have hb6' := hb5'.trans (hba.mono hs5)
      have hs6 := hb6'.size
      clear hq hok
      go_upto_region 11 with fail
      generalize w5.alloc (.cells #[.bool q0, .int .i64 q1, .int .i64 q2, .int .i64 q3] 27) = w6 at *
      generalize w5.heap.size = zb at *
      have hzb := Z0.lt
      have hgb6 : gb < w6.heap.size := X6.lt
      have hbb6 : bb < w6.heap.size := Y6.lt
      obtain ⟨_, x0, x1, x2, x3⟩ := id Y6
      clear hba X5 Y5 hb5' hs5
      have hn1' := HOK.out.2.2.1.1
      have hn2' := HOK.out.2.2.1.2
      have ha1' := HOK.out.2.2.2.1
      have ha2' := HOK.out.2.2.2.2
      have hu := tl_bd (n := n) l hn1' hn2' true
      have hv := tl_bd (n := a) l ha1' ha2' true
      obtain ⟨u, huq⟩ : ∃ u, u = tl n l true := ⟨_, rfl⟩
      obtain ⟨v, hvq⟩ : ∃ v, v = tl a l true := ⟨_, rfl⟩
      have hwr : IntKind.i64.wrap (u - v) = u - v := IntWalk.i64_in _ (by omega)
      rw [huq, hvq] at hwr
      rw [← huq] at hu
      rw [← hvq] at hv
      have HU := Lib.hid huq
      have HV := Lib.hid hvq
      clear huq hvq
      go_quiet ((go_at_call 91; exact quiet_l (rtell_any _ l true (by omega) _)))
      rw [← HU.out, ← HV.out]
      have hb7 : Below w6.heap.size w6 (w6.drewN nq) := ⟨rfl, rfl, rfl, Nat.le_refl _, fun _ _ => rfl⟩
      have Y7 := Y6.below hb7 Y6.lt
      have X7 := X6.below hb7
      have Z7 := Z0.below hb7 hzb
      have hb7' := hb6'.trans (hb7.mono hs6)
      have hs7 := hb7'.size
      have hzb7 := Z7.lt
      have hgb7 : gb < (w6.drewN nq).heap.size := hgb6
      have hbb7 : bb < (w6.drewN nq).heap.size := hbb6
      clear x0 x1 x2 x3 Y6 X6 Z0 hb7 hb6' hs6 hzb hwr
      generalize w6.drewN nq = w7 at *
      have HSZ := Lib.hid (fun W => rsize_any (u - v) W)
      have HEX := Lib.hid (fun W => rextra_any (u - v) W)
      obtain ⟨szq, hszq⟩ : ∃ szq, szq = szN (u - v) := ⟨_, rfl⟩
      obtain ⟨ezq, hezq⟩ : ∃ ezq, ezq = exZ (u - v) := ⟨_, rfl⟩
      rw [← hszq] at HSZ
      rw [← hezq] at HEX
      have HSQ := Lib.hid hszq
      have HEQ := Lib.hid hezq
      have Wn := Bln.new w7 27 [.bool false, .int .i64 (szq : Int), .int .i64 ezq, .int .i64 (szq : Int)]
      have hbw : Below w7.heap.size w7 (w7.alloc (.cells #[.bool false, .int .i64 (szq : Int), .int .i64 ezq, .int .i64 (szq : Int)] 27)) := (Below.refl _ _).alloc (Nat.le_refl _) _
      have Y8 := Y7.below hbw hbb7
      clear hszq hezq
      go_upto_region 13 with (first | (go_at_call 41; refine (HSZ.out _).mono ?_; rintro e w' ⟨rfl, rfl⟩) | (go_at_call 42; refine (HEX.out _).mono ?_; rintro e w' ⟨rfl, rfl⟩))
      generalize w7.alloc (.cells #[.bool false, .int .i64 (szq : Int), .int .i64 ezq, .int .i64 (szq : Int)] 27) = w8 at *
      have hwb : w7.heap.size < w8.heap.size := Wn.lt
      obtain ⟨_, x0, x1, x2, x3⟩ := id Y8
      go_upto_if 97 with fail
      go_cut [14] from 88 to 105 (fun p wx => ∃ wb, p = .pointer (some ⟨wb, 0, none⟩) ∧ Box4 wx wb (.bool q0) (.int .i64 q1) (.int .i64 q2) (.int .i64 q3) ∧ Below w7.heap.size w7 wx)
      case first =>
        by_cases hh0 : 0 < h
        · have dh : decide (0 < h) = true := decide_eq_true hh0
          have hq := HQ.out
          unfold dcP at hq
          rw [if_pos hh0, ← HU.out] at hq
          simp only [Prod.mk.injEq] at hq
          obtain ⟨rfl, rfl, rfl, rfl⟩ := hq
          have r0 := Wn.cell (i := 0) rfl
          have r1 := Wn.cell (i := 1) rfl
          have r2 := Wn.cell (i := 2) rfl
          have r3 := Wn.cell (i := 3) rfl
          have g0 := Wn.fz (i := 0) (show 0 < 4 by decide)
          have g1 := Wn.fz (i := 1) (show 1 < 4 by decide)
          have g2 := Wn.fz (i := 2) (show 2 < 4 by decide)
          have g3 := Wn.fz (i := 3) (show 3 < 4 by decide)
          have WS := pc_sets (a := .bool false) (b := .int .i64 (-1)) (c := .int .i64 0) (d := .int .i64 1) Wn rfl
          have hbe := ((((hbw.setCell (p := ⟨w7.heap.size, 0, none⟩) (Nat.le_refl _) (.bool false)).setCell (p := ⟨w7.heap.size, 1, none⟩) (Nat.le_refl _) (.int .i64 (-1))).setCell (p := ⟨w7.heap.size, 2, none⟩) (Nat.le_refl _) (.int .i64 0)).setCell (p := ⟨w7.heap.size, 3, none⟩) (Nat.le_refl _) (.int .i64 1))
          go_upto_region 15 with fail
          clear x0 x1 x2 x3 r0 r1 r2 r3 g0 g1 g2 g3
          generalize (((w8.setCell ⟨w7.heap.size, 0, none⟩ (.bool false)).setCell ⟨w7.heap.size, 1, none⟩ (.int .i64 (-1))).setCell ⟨w7.heap.size, 2, none⟩ (.int .i64 0)).setCell ⟨w7.heap.size, 3, none⟩ (.int .i64 1) = w9 at *
          obtain ⟨_, x0, x1, x2, x3⟩ := Y7.below hbe hbb7
          go_wp2_with fail
          refine (rtell_any n l true (by omega) w9).mono ?_; rintro e w' ⟨rfl, rfl⟩
          rw [← HU.out]
          by_cases hpar : u % 2 = 0
          · have ht0 : u.tmod 2 = 0 := Int.tmod_eq_zero_of_dvd (Int.dvd_of_emod_eq_zero hpar)
            have dt : (u.tmod 2 != 0) = false := by simp; exact ht0
            have WF : Box4 w9 w7.heap.size (.bool false) (.int .i64 (-1)) (.int .i64 (u % 2)) (.int .i64 1) := by
              rw [hpar]
              exact ⟨WS.lt, WS.cell (i := 0) rfl, WS.cell (i := 1) rfl, WS.cell (i := 2) rfl, WS.cell (i := 3) rfl⟩
            clear hpar ht0
            go_wp2_with fail
            go_meet
            exact ⟨_, rfl, WF, hbe⟩
          · have ht0 : u.tmod 2 ≠ 0 := fun e => hpar (Int.emod_eq_zero_of_dvd (Int.dvd_of_tmod_eq_zero e))
            have dt : (u.tmod 2 != 0) = true := by simp; exact ht0
            have h1 : u % 2 = 1 := by omega
            have W2 := WS.set 2 (.int .i64 1)
            have WF : Box4 (w9.setCell ⟨w7.heap.size, 2, none⟩ (.int .i64 1)) w7.heap.size (.bool false) (.int .i64 (-1)) (.int .i64 (u % 2)) (.int .i64 1) := by
              rw [h1]
              exact ⟨W2.lt, W2.cell (i := 0) rfl, W2.cell (i := 1) rfl, W2.cell (i := 2) rfl, W2.cell (i := 3) rfl⟩
            have hbf := hbe.setCell (p := ⟨w7.heap.size, 2, none⟩) (Nat.le_refl _) (.int .i64 1)
            have s2 := WS.cell (i := 2) rfl
            have t2 := WS.fz (i := 2) (show 2 < 4 by decide)
            clear hpar ht0 h1
            go_wp2_with fail
            go_meet
            exact ⟨_, rfl, WF, hbf⟩
        · have dh : decide (0 < h) = false := decide_eq_false hh0
          have hq := HQ.out
          unfold dcP at hq
          rw [if_neg hh0, ← HU.out, ← HV.out] at hq
          unfold numP at hq
          simp only [Prod.mk.injEq] at hq
          obtain ⟨rfl, hq1, rfl, rfl⟩ := hq
          have hq1' : ((szN (u - v) : Nat) : Int) = q1 := by rw [← hq1]; simp
          subst hq1'
          have WF : Box4 w8 w7.heap.size (.bool false) (.int .i64 ((szN (u - v) : Nat) : Int)) (.int .i64 (exZ (u - v))) (.int .i64 ((szN (u - v) : Nat) : Int)) := by
            rw [← HSQ.out, ← HEQ.out]
            exact ⟨Wn.lt, Wn.cell (i := 0) rfl, Wn.cell (i := 1) rfl, Wn.cell (i := 2) rfl, Wn.cell (i := 3) rfl⟩
          clear hq1
          go_wp2_with fail
          go_meet
          exact ⟨_, rfl, WF, hbw⟩
      case rest =>
        obtain ⟨wb, rfl, Wb, hb8⟩ := hcut
        have Y8 := Y7.below hb8 hbb7
        have X8 := X7.below hb8
        have Z8 := Z7.below hb8 hzb7
        have hb8' := hb7'.trans (hb8.mono hs7)
        have hs8 := hb8'.size
        obtain ⟨_, z0, z1, z2, z3⟩ := id Z8
        obtain ⟨_, y0, y1, y2, y3⟩ := id Wb
        have hgb8 := X8.lt
        have hbb8 := Y8.lt
        have hr1 : wc.rangeAt gb 0 (iv cn ++ [Value.slice A1 n1 c1]) := X8.range 0 _ R1.out
        clear Y7 X7 Z7 hb7' hs7 hb8 x0 x1 x2 x3
        obtain ⟨_, x0, x1, x2, x3⟩ := id Y8
        go_wp2_with (refine wpList_load_mid rfl 86 (.tmp 114) rfl _ _ rfl (iv cn ++ [Value.slice A1 n1 c1]) _ hr1 Try.underlying86 rfl (by rw [H17.out]; kernel_rfl) ?_)
        refine (refTable_any A1 n1 c1 cn ss wc HC1.out hIc HN1.out ((hR1.below hb8').more hs8) hB1 (by omega)).mono ?_; rintro e w9 ⟨h1a, h1b, hb9⟩
        have Y9 := Y8.below hb9 hbb8
        have X9 := X8.below hb9
        have hb9' := hb8'.trans (hb9.mono hs8)
        have hs9 := hb9'.size
        clear x0 x1 x2 x3 y0 y1 y2 y3 z0 z1 z2 z3 Z8 Wb hr1 X8 Y8
        by_cases hk : TabOk cn ss
        · obtain ⟨At, ct, rfl, hcs⟩ := h1a hk
          have HK := Lib.hid hk
          rw [HN1.out]
          have hcs' := hcs.cs
          have hr1 : w9.rangeAt gb 0 (iv cn ++ [Value.slice A1 n1 c1]) := X9.range 0 _ R1.out
          clear h1a h1b hk hcs
          go_wp2_with (refine wpList_load_mid rfl 86 (.tmp 122) rfl _ _ rfl (iv cn ++ [Value.slice A1 n1 c1]) _ hr1 Try.underlying86 rfl (by rw [H17.out]; kernel_rfl) ?_)
          have hn1b : n1 ≤ 1000 := by have := nodupI_le HK.out.2.2.1 hB1; rw [HN1.out] at this; omega
          refine (newTable_any A1 n1 c1 cn ss w9 HC1.out hIc HN1.out ((hR1.below hb9').more hs9) hB1 (by omega)).mono ?_; rintro e w10 ⟨h3, _, hb10⟩
          obtain ⟨p1, ls, O, C, rfl, hBk, hO, hV, hsy, hsz, hzr⟩ := h3 HK.out
          have Y10 := Y9.below hb10 Y9.lt
          have X10 := X9.below hb10
          have hb10' := hb9'.trans (hb10.mono hs9)
          have hs10 := hb10'.size
          have hcs10 := (hcs'.keep (hb10.mono hcs'.size))
          have hcs10s := hcs10.size
          rw [← hsy, ← hsz] at hcs10
          have hK10 := BkS.of hBk.bk
          have HO := Lib.hid hO
          have hol : (sz ls O).length = n1 := by
            have : (sy O).length = n1 := by rw [hsy, HN1.out]
            rw [← this]; simp [sz, sy]
          have HOL := Lib.hid hol
          have k17 := X10.cell G17.out
          have hgb10 := X10.lt
          have hbb10 := Y10.lt
          clear h3 hr1 X9 Y9 hBk hO hV hsy hsz hzr hol hcs' hb10
          go_wp2_with fail
          refine (newReader_any A nb c true bs w10 HN.out ((hR.below hb10').more hs10) hB (by omega)).mono ?_; rintro e w11 ⟨rp, Ar, cr, rfl, hx11, hrp, hAr, hb11⟩
          have Y11 := Y10.below hb11 Y10.lt
          have X11 := X10.below hb11
          have hb11' := hb10'.trans (hb11.mono hs10)
          have hs11 := hb11'.size
          have hcs11 := hcs10.keep (hb11.mono hcs10.size)
          have hK11 := hK10.keep hb11
          clear X10 Y10 hcs10 hK10 hb11 k17
          obtain ⟨_, x0, x1, x2, x3⟩ := id Y11
          go_wp2_with fail
          refine (band_any f t h l w11).mono ?_; rintro e w12 ⟨rfl, hb12⟩
          have Y12 := Y11.below hb12 Y11.lt
          have X12 := X11.below hb12
          have hb12' := hb11'.trans (hb12.mono hs11)
          have hs12 := hb12'.size
          have hcs12 := hcs11.keep (hb12.mono hcs11.size)
          have hK12 := hK11.keep (hb12.mono hK11.size)
          have hx12 := hx11.below hb12
          clear X11 Y11 hcs11 hK11 hb12 hx11 x0 x1 x2 x3
          have hpm : bs.length ≤ 68719476736 := by rw [HN.out]; omega
          by_cases hmod : 0 < h → n % 2 ^ h.toNat = 0
          · have HMD := Lib.hid hmod
            obtain ⟨R, hRq⟩ : ∃ R, R = rdD (sy O) (sz ls O) (bitsOf true bs) n a h l := ⟨_, rfl⟩
            have HRQ := Lib.hid hRq
            have hRe := rdD_err (sy O) (sz ls O) (bitsOf true bs) n a h l
            rw [← hRq] at hRe
            clear hmod hRq
            go_wp2_with fail
            refine (preadDC_any (R := R) hK12 HO.out (by omega) hx12 hpm n a f t h l HOK.out HMD.out (by rw [List.drop_zero]; exact HRQ.out.symm)).mono ?_; rintro e w13 ⟨m', rfl, hx13, hm', hf13⟩
            have hb13 : Below w10.heap.size w12 w13 := hf13.below hrp (by have := hrp; have := hx12.lt; omega)
            have hb13' := hb12'.trans (hb13.mono (by omega))
            have hs13 := hb13'.size
            have X13 := X12.keep hf13 (by omega)
            have Y13 : Box4 w13 bb (.int .i64 f) (.int .i64 t) (.int .i64 h) (.int .i64 l) := by
              have hbr : bb ≠ rp := by omega
              exact ⟨Nat.lt_of_lt_of_le Y12.lt hf13.size, (hf13.cell (p := ⟨bb, 0, none⟩) Y12.lt hbr).trans Y12.c0, (hf13.cell (p := ⟨bb, 1, none⟩) Y12.lt hbr).trans Y12.c1, (hf13.cell (p := ⟨bb, 2, none⟩) Y12.lt hbr).trans Y12.c2, (hf13.cell (p := ⟨bb, 3, none⟩) Y12.lt hbr).trans Y12.c3⟩
            have hcs13 := hcs12.keep (hb13.mono (by have := hcs10s; omega))
            obtain ⟨_, x0, x1, x2, x3⟩ := id Y13
            have hgb13 := X13.lt
            have hbb13 := Y13.lt
            have k17 := X13.cell G17.out
            have hR13 := (hR.below hb13').more hs13
            have hgh : 0 ≤ h ∧ h ≤ 10 := by have := HOK.out.1; unfold Gd at this; omega
            clear X12 Y12 hcs12 hK12 hf13 hb13
            obtain ⟨ev, hev⟩ : ∃ ev, ev = errE R.2.2 := ⟨_, rfl⟩
            rw [← hev]
            have HEV := Lib.hid hev
            clear hev
            go_upto_region 27 with fail
            go_cut [153] from 142 to 152 (fun v wx => v = .bool false ∧ wx = w13)
            case first =>
              by_cases hh0 : 0 < h
              · have dh : decide (0 < h) = true := decide_eq_true hh0
                have hm0 := HMD.out hh0
                obtain ⟨H, rfl⟩ := Int.eq_ofNat_of_zero_le hgh.1
                rw [Int.toNat_natCast] at hm0
                have hp2 := two_int H (by omega)
                have htm : n.tmod (2 ^ H) = 0 := Int.tmod_eq_zero_of_dvd (Int.dvd_of_emod_eq_zero hm0)
                have dtm : (n.tmod (2 ^ H) != 0) = false := by simp; exact htm
                have hpn : ((2 : Int) ^ H == 0) = false := by simp; omega
                have hpm1 : ((2 : Int) ^ H == -1) = false := by simp; omega
                clear hm0 htm
                go_wp2_with fail
                go_meet
                exact ⟨rfl, rfl⟩
              · have dh : decide (0 < h) = false := decide_eq_false hh0
                go_wp2_with fail
                go_meet
                exact ⟨rfl, rfl⟩
            case rest =>
              obtain ⟨rfl, hwc⟩ := hcut
              subst hwc
              go_upto_region 29 with fail
              have hQK : ∀ W W' : World, (Below wc.heap.size wc W ∧ W.cell? ⟨gb, 17, none⟩ = some (.slice A nb c) ∧ W.cell? ⟨bb, 0, none⟩ = some (.int .i64 f) ∧ W.cell? ⟨bb, 1, none⟩ = some (.int .i64 t) ∧ W.cell? ⟨bb, 2, none⟩ = some (.int .i64 h) ∧ W.cell? ⟨bb, 3, none⟩ = some (.int .i64 l)) → Below W.heap.size W W' → (Below wc.heap.size wc W' ∧ W'.cell? ⟨gb, 17, none⟩ = some (.slice A nb c) ∧ W'.cell? ⟨bb, 0, none⟩ = some (.int .i64 f) ∧ W'.cell? ⟨bb, 1, none⟩ = some (.int .i64 t) ∧ W'.cell? ⟨bb, 2, none⟩ = some (.int .i64 h) ∧ W'.cell? ⟨bb, 3, none⟩ = some (.int .i64 l)) := fun W W' h hb => by
                have h2 := h.1.trans (hb.mono h.1.size)
                exact ⟨h2, (h2.cell (p := ⟨gb, 17, none⟩) hgb13).trans k17, (h2.cell (p := ⟨bb, 0, none⟩) hbb13).trans x0, (h2.cell (p := ⟨bb, 1, none⟩) hbb13).trans x1, (h2.cell (p := ⟨bb, 2, none⟩) hbb13).trans x2, (h2.cell (p := ⟨bb, 3, none⟩) hbb13).trans x3⟩
              have hQR : ∀ W : World, (Below wc.heap.size wc W ∧ W.cell? ⟨gb, 17, none⟩ = some (.slice A nb c) ∧ W.cell? ⟨bb, 0, none⟩ = some (.int .i64 f) ∧ W.cell? ⟨bb, 1, none⟩ = some (.int .i64 t) ∧ W.cell? ⟨bb, 2, none⟩ = some (.int .i64 h) ∧ W.cell? ⟨bb, 3, none⟩ = some (.int .i64 l)) → Rd W W.heap.size A (bv bs) := fun W h => (hR13.below h.1).more h.1.size
              have hbl : (bitsOf true bs).length = 8 * nb := by rw [bitsOf_len, HN.out]
              have hRR : ∀ (W : World) (A' : Option Addr) (c' : Nat), (Below wc.heap.size wc W ∧ W.cell? ⟨gb, 17, none⟩ = some (.slice A nb c) ∧ W.cell? ⟨bb, 0, none⟩ = some (.int .i64 f) ∧ W.cell? ⟨bb, 1, none⟩ = some (.int .i64 t) ∧ W.cell? ⟨bb, 2, none⟩ = some (.int .i64 h) ∧ W.cell? ⟨bb, 3, none⟩ = some (.int .i64 l)) → Rd W W.heap.size A' (iv (bitsOf true bs)) → (∀ q, A' = some q → q.block < W.heap.size) → (8 * nb ≤ c' ∧ c' ≤ 9223372036854775807) →
                  Calls Try.prog 92 #[.slice At n1 ct, .slice A' (8 * nb) c', .int .i64 n, .int .i64 a, .agg #[.int .i64 f, .int .i64 t, .int .i64 h, .int .i64 l]] W (RrdP R W) := fun W A' c' hS hRb hAb hcb => by
                have := rreadDC_any (c1 := ct) (c := c') (hcs13.keep (hS.1.mono hcs13.size)) HO.out.zs HOL.out (by omega) (sy_bd2 HO.out) (bitsOf_01 true bs) hRb hAb (by rw [hbl]; omega) n a f t h l HOK.out HRQ.out.symm
                rwa [hbl] at this
              have HQK := Lib.hid hQK
              have HQR := Lib.hid hQR
              have HRR := Lib.hid hRR
              have HBN := Lib.hid (Below.refl wc.heap.size wc)
              have hx13' := hx13
              go_cut [21, 22, 23] from 161 to 171 (fun v k b wx => v = .int .i64 R.1 ∧ k = .int .i64 (R.2.1 : Nat) ∧ b = .int .i64 R.2.2 ∧ Below wc.heap.size wc wx)
              case first =>
                clear hQK hQR hRR hR13 hx13 hx13' hm'
                go_region_held3 (fun w' => Below wc.heap.size wc w' ∧ w'.cell? ⟨gb, 17, none⟩ = some (.slice A nb c) ∧ w'.cell? ⟨bb, 0, none⟩ = some (.int .i64 f) ∧ w'.cell? ⟨bb, 1, none⟩ = some (.int .i64 t) ∧ w'.cell? ⟨bb, 2, none⟩ = some (.int .i64 h) ∧ w'.cell? ⟨bb, 3, none⟩ = some (.int .i64 l))
                  (first | exact ⟨HBN.out, k17, x0, x1, x2, x3⟩ | exact ⟨Below.drew HBN.out, k17, x0, x1, x2, x3⟩ | assumption | go_keep)
                  (first | (go_at_call 86; refine (rbits_any A nb c bs true _ HN.out (HQR.out _ (by assumption)) hB (by omega)).mono ?_; rintro e wq ⟨vq, rfl, hoq, hbq⟩; obtain ⟨Aq, cq, hvq, hcq1, hcq2, hRq⟩ := own_sliceN hoq; subst hvq; have hltq := hoq.lt; have hq := HQK.out _ _ (by assumption) hbq) | (go_at_call 92; refine (HRR.out _ Aq cq (by assumption) hRq (fun q hq2 => (hltq q.block (by rw [hq2]; rfl)).2) ⟨hcq1, hcq2⟩).mono ?_; rintro e wr ⟨rfl, hbr⟩; have hq3 := HQK.out _ _ (by assumption) hbr))
                all_goals go_wp2_with fail
                all_goals go_meet
                all_goals exact ⟨rfl, rfl, rfl, hq3.1⟩
              case rest =>
                obtain ⟨rfl, rfl, rfl, hbz⟩ := hcut
                have hxz := hx13.below hbz
                have hbz' := hb13'.trans (hbz.mono hs13)
                rw [HEV.out]
                clear hQK hQR hRR k17 x0 x1 x2 x3 hx13 hx13' hbz
                by_cases hbad : R.2.2 = 0
                · have e1 : m' = R.2.1 := by have := hm' hbad; omega
                  have d2 : (R.2.2 != 0) = false := by simp; exact hbad
                  have d3 : (R.2.2 == 0) = true := by simp; exact hbad
                  clear hbad
                  go_wp2_with (first | (go_at_call 87; refine (num_E _ (by first | exact ⟨hRe.1, hRe.2⟩ | decide) _).mono ?_; rintro e w' ⟨rfl, rfl⟩) | (go_at_call 64; refine (at_any hxz).mono ?_; rintro e w' ⟨rfl, rfl⟩; rw [e1]))
                  go_ret
                  exact ⟨rfl, hbz'⟩
                · have d2 : (R.2.2 != 0) = true := by simp; exact hbad
                  have d3 : (R.2.2 == 0) = false := by simp; exact hbad
                  clear hbad
                  go_wp2_with (go_at_call 87; refine (num_E _ (by first | exact ⟨hRe.1, hRe.2⟩ | decide) _).mono ?_; rintro e w' ⟨rfl, rfl⟩)
                  go_ret
                  exact ⟨rfl, hbz'⟩
          · have HMD := Lib.hid hmod
            go_wp2_with fail
            refine (preadDC_err _ _ n a f t h l hn (fun q => hmod q.2) w12).mono ?_; rintro e w13 ⟨rfl, hb13⟩
            have hh0 : 0 < h := Classical.byContradiction fun q => hmod fun q2 => absurd q2 q
            have hm0 : n % 2 ^ h.toNat ≠ 0 := fun e => hmod fun _ => e
            have hgh : h ≤ 10 := by have := HOK.out.1; unfold Gd at this; omega
            have hb13' := hb12'.trans (hb13.mono hs12)
            obtain ⟨_, x0, x1, x2, x3⟩ := Y12.below hb13 Y12.lt
            obtain ⟨H, rfl⟩ := Int.eq_ofNat_of_zero_le (show 0 ≤ h by omega)
            rw [Int.toNat_natCast] at hm0
            have hp2 := two_int H (by omega)
            have htm : n.tmod (2 ^ H) ≠ 0 := fun e => hm0 (Int.emod_eq_zero_of_dvd (Int.dvd_of_tmod_eq_zero e))
            have dtm : (n.tmod (2 ^ H) != 0) = true := by simp; exact htm
            have dh : decide (0 < (H : Int)) = true := decide_eq_true hh0
            have hpn : ((2 : Int) ^ H == 0) = false := by simp; omega
            have hpm1 : ((2 : Int) ^ H == -1) = false := by simp; omega
            unfold errV
            clear hmod hm0 htm
            go_wp2_with fail
            refine (is_err 6 6 (by omega) _).mono ?_; rintro e w' ⟨rfl, rfl⟩
            go_wp2
            go_ret
            exact ⟨rfl, hb13'⟩
        · obtain rfl := h1b hk
          clear h1a h1b hk
          go_wp2
          go_ret
          exact ⟨rfl, hb9'⟩
    · have HOK := Lib.hid hok
      rw [decide_eq_false hok]
      obtain rfl := hp2 hok
      clear hok hp1 hp2
      unfold errV
      rw [show (pcV (false, 0, 0, 0)).toArray = #[.bool false, .int .i64 0, .int .i64 0, .int .i64 0] from rfl]
      have Z0 := Box4.new w5 27 (.bool false) (.int .i64 0) (.int .i64 0) (.int .i64 0)
      have hba : Below w5.heap.size w5 (w5.alloc (.cells #[.bool false, .int .i64 0, .int .i64 0, .int .i64 0] 27)) := (Below.refl _ _).alloc (Nat.le_refl _) _
      have Y6 := Y5.below hba Y5.lt
      have X6 := X5.below hba
      have hb6' := hb5'.trans (hba.mono hs5)
      have hs6 := hb6'.size
      go_upto_region 9 with fail
      generalize w5.alloc (.cells #[.bool false, .int .i64 0, .int .i64 0, .int .i64 0] 27) = w6 at *
      generalize w5.heap.size = zb at *
      have hzb := Z0.lt
      have hgb6 : gb < w6.heap.size := X6.lt
      have hbb6 : bb < w6.heap.size := Y6.lt
      have k17 := X6.cell G17.out
      obtain ⟨_, x0, x1, x2, x3⟩ := id Y6
      clear hba X5 Y5 hb5' hs5
      have hR6 := (hR.below hb6').more hs6
      have hQK : ∀ W W' : World, (Below w6.heap.size w6 W ∧ W.cell? ⟨gb, 17, none⟩ = some (.slice A nb c) ∧ W.cell? ⟨bb, 0, none⟩ = some (.int .i64 f) ∧ W.cell? ⟨bb, 1, none⟩ = some (.int .i64 t) ∧ W.cell? ⟨bb, 2, none⟩ = some (.int .i64 h) ∧ W.cell? ⟨bb, 3, none⟩ = some (.int .i64 l)) → Below W.heap.size W W' → (Below w6.heap.size w6 W' ∧ W'.cell? ⟨gb, 17, none⟩ = some (.slice A nb c) ∧ W'.cell? ⟨bb, 0, none⟩ = some (.int .i64 f) ∧ W'.cell? ⟨bb, 1, none⟩ = some (.int .i64 t) ∧ W'.cell? ⟨bb, 2, none⟩ = some (.int .i64 h) ∧ W'.cell? ⟨bb, 3, none⟩ = some (.int .i64 l)) := fun W W' h hb => by
        have h2 := h.1.trans (hb.mono h.1.size)
        exact ⟨h2, (h2.cell (p := ⟨gb, 17, none⟩) hgb6).trans k17, (h2.cell (p := ⟨bb, 0, none⟩) hbb6).trans x0, (h2.cell (p := ⟨bb, 1, none⟩) hbb6).trans x1, (h2.cell (p := ⟨bb, 2, none⟩) hbb6).trans x2, (h2.cell (p := ⟨bb, 3, none⟩) hbb6).trans x3⟩
      have hQR : ∀ W : World, (Below w6.heap.size w6 W ∧ W.cell? ⟨gb, 17, none⟩ = some (.slice A nb c) ∧ W.cell? ⟨bb, 0, none⟩ = some (.int .i64 f) ∧ W.cell? ⟨bb, 1, none⟩ = some (.int .i64 t) ∧ W.cell? ⟨bb, 2, none⟩ = some (.int .i64 h) ∧ W.cell? ⟨bb, 3, none⟩ = some (.int .i64 l)) → Rd W W.heap.size A (bv bs) := fun W h => (hR6.below h.1).more h.1.size
      have HQK := Lib.hid hQK
      have HQR := Lib.hid hQR
      have hno : ¬ (DcOk f t h l n a ∧ (0 < h → n % 2 ^ h.toNat = 0)) := fun q => HOK.out q.1
      have HNO := Lib.hid hno
      have hbN : Below w6.heap.size w6 w6 := Below.refl _ _
      have HBN := Lib.hid hbN
      go_cut [11, 12] from 57 to 67 (fun v e wx => e = .iface 53 (.int .i64 6) ∧ Below w6.heap.size w6 wx)
      case first =>
        clear hQK hQR hno hbN hR6
        go_region_held3 (fun w' => Below w6.heap.size w6 w' ∧ w'.cell? ⟨gb, 17, none⟩ = some (.slice A nb c) ∧ w'.cell? ⟨bb, 0, none⟩ = some (.int .i64 f) ∧ w'.cell? ⟨bb, 1, none⟩ = some (.int .i64 t) ∧ w'.cell? ⟨bb, 2, none⟩ = some (.int .i64 h) ∧ w'.cell? ⟨bb, 3, none⟩ = some (.int .i64 l))
          (first | exact ⟨HBN.out, k17, x0, x1, x2, x3⟩ | exact ⟨Below.drew HBN.out, k17, x0, x1, x2, x3⟩ | assumption | go_keep)
          (first | (go_at_call 61; refine (newReader_any A nb c true bs _ HN.out (HQR.out _ (by assumption)) hB (by omega)).mono ?_; rintro e w7 ⟨rp, Ar, cr, rfl, hx7, hrp, hAr, hb7⟩; have hq := HQK.out _ _ (by assumption) hb7) | (go_at_call 70; refine (band_any f t h l _).mono ?_; rintro e w8 ⟨rfl, hb8⟩; have hq2 := HQK.out _ _ (by assumption) hb8) | (go_at_call 90; refine (preadDC_err _ _ n a f t h l hn HNO.out _).mono ?_; rintro e w9 ⟨rfl, hb9⟩; have hq3 := HQK.out _ _ (by assumption) hb9))
        all_goals go_wp2_with fail
        all_goals go_meet
        all_goals exact ⟨rfl, hq3.1⟩
      case rest =>
        obtain ⟨rfl, hb7⟩ := hcut
        have hb7' := hb6'.trans (hb7.mono hs6)
        obtain ⟨_, z0, z1, z2, z3⟩ := Z0.below hb7 hzb
        clear hQK hQR hR6 k17 x0 x1 x2 x3
        go_wp2_with fail
        refine (is_err 6 6 (by omega) _).mono ?_; rintro e w' ⟨rfl, rfl⟩
        go_wp2_with fail
        refine (is_err 6 6 (by omega) _).mono ?_; rintro e w' ⟨rfl, rfl⟩
        go_wp2
        go_ret
        exact ⟨rfl, hb7'⟩
namespace ProgDC
set_option maxRecDepth 100000 in
theorem contract (H : Type) (enc : TypeId × Value → H) (W : World) (base : Nat) (args : Array Value) (ds gs : List (DataW H)) (before : List MemPlace)
    (hval : ∀ (j : Nat) t v, Try.f20.params[j]? = some t → args[j]? = some v → Value.okWide Try.prog W .any base t v)
    (hW : DataW.Whole enc Try.prog Try.f20.params.toList Rows.progDCSpec.vars false W args.toList ds gs before) :
    Calls Try.prog 20 args W fun e W' => ∃ v, e = .returned v ∧ Rows.progDCSpec.post enc Try.prog Try.f20 false true false false W args v W' := by
  have hW' := hW
  obtain ⟨p, q, hA0, hV, rfl, hfz, hnd⟩ := hW
  have hA : DataW.TrodAll enc Try.prog W 0 (fun _ => true) true Try.f20.params.toList args.toList ds p := hA0
  rw [Try.params20] at hA hval
  clear hA0
  obtain ⟨v0, vs0, d0, ds0, p0, q0, hargs, rfl, rfl, h0, r0⟩ := trodAll_cons hA
  obtain ⟨v1, vs1, d1, ds1, p1, q1, rfl, rfl, rfl, h1, r1⟩ := trodAll_cons r0
  obtain ⟨v2, vs2, d2, ds2, p2, q2, rfl, rfl, rfl, h2, r2⟩ := trodAll_cons r1
  obtain ⟨rfl, rfl, rfl⟩ := trodAll_nil r2
  obtain rfl : args = #[v0, v1, v2] := by cases args; simp_all
  obtain ⟨rfl, rfl⟩ := trodVars_none hV
  obtain ⟨l0, rfl, hl0, n0, hf0⟩ := open_str Try.underlying135 (hval 0 _ _ rfl rfl) h0
  rw [show Try.prog.cellsOf 135 = 23 by kernel_rfl] at hl0
  obtain ⟨y0_0, hy0_0⟩ := hf0 0 _ rfl
  replace hy0_0 : DataW.trod enc Try.prog W 0 (fun _ => true) true n0 86 ((l0.drop 0).take 17) = some y0_0 := by have h : DataW.trod enc Try.prog W 0 (fun _ => true) true n0 86 ((l0.drop 0).take (Try.prog.cellsOf 86)) = some y0_0 := hy0_0; rw [show Try.prog.cellsOf 86 = 17 by kernel_rfl] at h; exact h
  obtain ⟨l0_0, q0_0⟩ : ∃ z, (l0.drop 0).take 17 = z := ⟨_, rfl⟩
  rw [q0_0] at hy0_0
  obtain ⟨hl0_0, n0_0, hf0_0⟩ := sub_str Try.underlying86 hy0_0
  rw [show Try.prog.cellsOf 86 = 17 by kernel_rfl] at hl0_0
  obtain ⟨y0_0_0, hy0_0_0⟩ := hf0_0 0 _ rfl
  replace hy0_0_0 : DataW.trod enc Try.prog W 0 (fun _ => true) true n0_0 84 ((l0_0.drop 0).take 16) = some y0_0_0 := by have h : DataW.trod enc Try.prog W 0 (fun _ => true) true n0_0 84 ((l0_0.drop 0).take (Try.prog.cellsOf 84)) = some y0_0_0 := hy0_0_0; rw [show Try.prog.cellsOf 84 = 16 by kernel_rfl] at h; exact h
  obtain ⟨x0, ex0, hlx0, hIx0⟩ := arr_ints Try.underlying84 Try.underlying3 (by kernel_rfl) (by kernel_rfl) hy0_0_0
  obtain ⟨y0_0_1, hy0_0_1⟩ := hf0_0 1 _ rfl
  replace hy0_0_1 : DataW.trod enc Try.prog W 0 (fun _ => true) true n0_0 79 ((l0_0.drop 16).take 1) = some y0_0_1 := by have h : DataW.trod enc Try.prog W 0 (fun _ => true) true n0_0 79 ((l0_0.drop 16).take (Try.prog.cellsOf 79)) = some y0_0_1 := hy0_0_1; rw [show Try.prog.cellsOf 79 = 1 by kernel_rfl] at h; exact h
  obtain ⟨vx1, ex1⟩ := take_one (l := l0_0) (o := 16) (by omega)
  rw [ex1] at hy0_0_1
  obtain ⟨Ax1, nx1, cx1, x1, rfl, hnx1, hcx1, hmx1, hRx1, hwx1⟩ := open_rd Try.underlying79 Try.underlying5 (by kernel_rfl) hy0_0_1
  have e0_0 := show l0_0 = _ from parts_cons ex0 (parts_cons ex1 (parts_nil hl0_0))
  obtain ⟨y0_1, hy0_1⟩ := hf0 1 _ rfl
  replace hy0_1 : DataW.trod enc Try.prog W 0 (fun _ => true) true n0 79 ((l0.drop 17).take 1) = some y0_1 := by have h : DataW.trod enc Try.prog W 0 (fun _ => true) true n0 79 ((l0.drop 17).take (Try.prog.cellsOf 79)) = some y0_1 := hy0_1; rw [show Try.prog.cellsOf 79 = 1 by kernel_rfl] at h; exact h
  obtain ⟨vx2, ex2⟩ := take_one (l := l0) (o := 17) (by omega)
  rw [ex2] at hy0_1
  obtain ⟨Ax2, nx2, cx2, x2, rfl, hnx2, hcx2, hmx2, hRx2, hwx2⟩ := open_rd Try.underlying79 Try.underlying5 (by kernel_rfl) hy0_1
  obtain ⟨y0_2, hy0_2⟩ := hf0 2 _ rfl
  replace hy0_2 : DataW.trod enc Try.prog W 0 (fun _ => true) true n0 105 ((l0.drop 18).take 1) = some y0_2 := by have h : DataW.trod enc Try.prog W 0 (fun _ => true) true n0 105 ((l0.drop 18).take (Try.prog.cellsOf 105)) = some y0_2 := hy0_2; rw [show Try.prog.cellsOf 105 = 1 by kernel_rfl] at h; exact h
  obtain ⟨vx3, ex3⟩ := take_one (l := l0) (o := 18) (by omega)
  rw [ex3] at hy0_2
  obtain ⟨Ax3, nx3, cx3, x3, rfl, hnx3, hcx3, hmx3, hQx3, hRx3⟩ := open_rows (m := 64) (Q := IvN 64) Try.underlying105 (by kernel_rfl) (by omega) (fun _ _ _ hl hy => blk_ivn hl hy) hy0_2
  obtain ⟨y0_3, hy0_3⟩ := hf0 3 _ rfl
  replace hy0_3 : DataW.trod enc Try.prog W 0 (fun _ => true) true n0 33 ((l0.drop 19).take 4) = some y0_3 := by have h : DataW.trod enc Try.prog W 0 (fun _ => true) true n0 33 ((l0.drop 19).take (Try.prog.cellsOf 33)) = some y0_3 := hy0_3; rw [show Try.prog.cellsOf 33 = 4 by kernel_rfl] at h; exact h
  obtain ⟨l0_3, q0_3⟩ : ∃ z, (l0.drop 19).take 4 = z := ⟨_, rfl⟩
  rw [q0_3] at hy0_3
  obtain ⟨hl0_3, n0_3, hf0_3⟩ := sub_str Try.underlying33 hy0_3
  rw [show Try.prog.cellsOf 33 = 4 by kernel_rfl] at hl0_3
  obtain ⟨y0_3_0, hy0_3_0⟩ := hf0_3 0 _ rfl
  replace hy0_3_0 : DataW.trod enc Try.prog W 0 (fun _ => true) true n0_3 3 ((l0_3.drop 0).take 1) = some y0_3_0 := by have h : DataW.trod enc Try.prog W 0 (fun _ => true) true n0_3 3 ((l0_3.drop 0).take (Try.prog.cellsOf 3)) = some y0_3_0 := hy0_3_0; rw [show Try.prog.cellsOf 3 = 1 by kernel_rfl] at h; exact h
  obtain ⟨x4, ex4, _, wx4⟩ := DataW.trod_int Try.underlying3 hy0_3_0
  obtain ⟨y0_3_1, hy0_3_1⟩ := hf0_3 1 _ rfl
  replace hy0_3_1 : DataW.trod enc Try.prog W 0 (fun _ => true) true n0_3 3 ((l0_3.drop 1).take 1) = some y0_3_1 := by have h : DataW.trod enc Try.prog W 0 (fun _ => true) true n0_3 3 ((l0_3.drop 1).take (Try.prog.cellsOf 3)) = some y0_3_1 := hy0_3_1; rw [show Try.prog.cellsOf 3 = 1 by kernel_rfl] at h; exact h
  obtain ⟨x5, ex5, _, wx5⟩ := DataW.trod_int Try.underlying3 hy0_3_1
  obtain ⟨y0_3_2, hy0_3_2⟩ := hf0_3 2 _ rfl
  replace hy0_3_2 : DataW.trod enc Try.prog W 0 (fun _ => true) true n0_3 3 ((l0_3.drop 2).take 1) = some y0_3_2 := by have h : DataW.trod enc Try.prog W 0 (fun _ => true) true n0_3 3 ((l0_3.drop 2).take (Try.prog.cellsOf 3)) = some y0_3_2 := hy0_3_2; rw [show Try.prog.cellsOf 3 = 1 by kernel_rfl] at h; exact h
  obtain ⟨x6, ex6, _, wx6⟩ := DataW.trod_int Try.underlying3 hy0_3_2
  obtain ⟨y0_3_3, hy0_3_3⟩ := hf0_3 3 _ rfl
  replace hy0_3_3 : DataW.trod enc Try.prog W 0 (fun _ => true) true n0_3 3 ((l0_3.drop 3).take 1) = some y0_3_3 := by have h : DataW.trod enc Try.prog W 0 (fun _ => true) true n0_3 3 ((l0_3.drop 3).take (Try.prog.cellsOf 3)) = some y0_3_3 := hy0_3_3; rw [show Try.prog.cellsOf 3 = 1 by kernel_rfl] at h; exact h
  obtain ⟨x7, ex7, _, wx7⟩ := DataW.trod_int Try.underlying3 hy0_3_3
  have e0_3 := show l0_3 = _ from parts_cons ex4 (parts_cons ex5 (parts_cons ex6 (parts_cons ex7 (parts_nil hl0_3))))
  have e0 := show l0 = _ from parts_cons (q0_0.trans e0_0) (parts_cons ex2 (parts_cons ex3 (parts_cons (q0_3.trans e0_3) (parts_nil hl0))))
  rw [e0] at hW' ⊢
  obtain ⟨x8, rfl, rfl, rfl, wx8⟩ := open_int Try.underlying3 (hval 1 _ _ rfl rfl) h1
  obtain ⟨x9, rfl, rfl, rfl, wx9⟩ := open_int Try.underlying3 (hval 2 _ _ rfl rfl) h2
  refine (progDC_any W x0 hlx0 hIx0 Ax1 nx1 cx1 x1 hnx1 hcx1 hmx1 hRx1 (wf_bs hwx1) Ax2 nx2 cx2 x2 hnx2 hcx2 hmx2 hRx2 (wf_bs hwx2) Ax3 nx3 cx3 x3 hnx3 hcx3 hmx3 hQx3 hRx3 x4 (wf_i wx4) x5 (wf_i wx5) x6 (wf_i wx6) x7 (wf_i wx7) x8 (wf_i wx8) x9 (wf_i wx9)).mono fun e W' ⟨he, hb⟩ => ?_
  subst he
  exact ⟨_, rfl, post_true Facts.laid hW' rfl rfl Try.underlying4 (by kernel_rfl) rfl hb⟩

set_option maxRecDepth 100000 in
theorem lifted (os : Os) (started : os.Started) (H : Type) (enc : TypeId × Value → H) :
    ReturnsInHanded {} Try.checked os 20 .any (Rows.progDCSpec.pre6 enc Try.prog Try.f20 Rows.progDCRow.domain false) (Rows.progDCSpec.post enc Try.prog Try.f20 false true false false) := by
  refine returnsInHanded_of_change (C := Try.checked) Facts.own started (by kernel_rfl) Try.func20
    (ChangeSpec.witness6 (enc := enc) (C := Try.checked) (os := os) false ⟨#[], #[.agg #[.int .i64 0, .int .i64 0, .int .i64 0, .int .i64 0, .int .i64 0, .int .i64 0, .int .i64 0, .int .i64 0, .int .i64 0, .int .i64 0, .int .i64 0, .int .i64 0, .int .i64 0, .int .i64 0, .int .i64 0, .int .i64 0, .slice none 0 0, .slice none 0 0, .slice none 0 0, .int .i64 0, .int .i64 0, .int .i64 0, .int .i64 0], .int .i64 0, .int .i64 0], []⟩ 8 (by kernel_rfl) (by kernel_rfl) (by kernel_rfl) (by kernel_rfl)) ?_
  intro W base args ds gs before hval hW _ _
  exact contract H enc W base args ds gs before hval hW

theorem k_wf : Rows.progDCRow.wf (OpenSpec.ofChange Rows.progDCSpec) = true := by kernel_rfl
theorem k_inp : (Rows.progDCRow.inPlace == Try.prog.inPlace 20) = true := by kernel_rfl
theorem k_unf : (Rows.progDCRow.unfollowed == Try.prog.unfollowed 20) = true := by kernel_rfl
theorem k_rec : (Rows.progDCRow.recurses == Try.prog.recurses 20) = true := by kernel_rfl
theorem k_nam : (Rows.progDCRow.named == Try.prog.varsNamed 20) = true := by kernel_rfl
theorem k_pk : (Rows.progDCRow.plainKeys == Try.prog.plainKeys) = true := (congrArg (fun x => Rows.progDCRow.plainKeys == x) Facts.plainKeys).trans (by kernel_rfl)
theorem k_lf : (Rows.progDCRow.lifted == Try.prog.liftsFinal) = true := (congrArg (fun x => Rows.progDCRow.lifted == x) Facts.liftsFinal).trans (by kernel_rfl)
theorem k_mk : (Try.prog.make == some Rows.progDCRow.make) = true := (congrArg (fun x => x == some Rows.progDCRow.make) Facts.make).trans (by kernel_rfl)
theorem k_par : (Try.f20.params.all (Try.prog.readableRec ·)) = true := by kernel_rfl
theorem k_maps : (Rows.progDCRow.maps == (Try.f20.params.toList ++ Rows.progDCSpec.plain.varTypes Try.prog).any (Try.prog.mapsRec ·)) = true := by kernel_rfl
theorem k_ifs : (Rows.progDCRow.ifaces == (Try.f20.params.toList ++ Rows.progDCSpec.plain.varTypes Try.prog).any (Try.prog.ifacesRec ·)) = true := by kernel_rfl
theorem k_lps : (Rows.progDCRow.loops == (Try.f20.params.toList ++ Rows.progDCSpec.plain.varTypes Try.prog).any (Try.prog.loopsFrom ·)) = true := by kernel_rfl
theorem k_wk : (Rows.progDCRow.wideKeys == (Try.f20.params.toList ++ Rows.progDCSpec.plain.varTypes Try.prog ++ Try.f20.resultTypes.toList).any (Try.prog.wideKeysFrom ·)) = true := by kernel_rfl
theorem k_vl : (Rows.progDCRow.veiled == (Try.f20.params.toList ++ Rows.progDCSpec.plain.varTypes Try.prog ++ Try.f20.resultTypes.toList).any (Try.prog.veiledRec ·)) = true := by kernel_rfl
theorem closed : joinedFacts Try.prog 20 Try.f20 Rows.progDCSpec Rows.progDCRow = true :=
  Facts.and_i (Facts.and_i (Facts.and_i (Facts.and_i (Facts.and_i (Facts.and_i (Facts.and_i (Facts.and_i (Facts.and_i (Facts.and_i (Facts.and_i (Facts.and_i (Facts.and_i (Facts.and_i (Facts.and_i (Facts.and_i (Facts.and_i (Facts.and_i (Facts.and_i (Facts.and_i (Facts.and_i (Facts.and_i (Facts.and_i (Facts.and_i (Facts.and_i (Facts.and_i (Facts.and_i (Facts.and_i (Facts.and_i (Facts.and_i (Facts.and_i
    k_wf Facts.laid) Facts.mapsRowed_) k_par) rfl) rfl) Facts.stops) rfl) Facts.stopKnobs) k_inp) k_unf) k_rec) k_nam) k_maps) k_ifs) (by kernel_rfl)) k_lps) k_wk) rfl) (by kernel_rfl)) (by kernel_rfl)) (by kernel_rfl)) k_pk) rfl) Facts.stopsHeard) Facts.mayEnter) k_lf) k_mk) (by kernel_rfl)) (by kernel_rfl)) k_vl) (by kernel_rfl)
theorem named : Try.prog.funcNamed Rows.progDCRow.func = some 20 := by kernel_rfl

theorem proved : Rows.ProgDCSaid :=
  OpenClaim.holds_of_wide 20 Try.f20 rfl rfl rfl rfl rfl rfl rfl ⟨rfl, rfl, rfl, rfl, rfl⟩ rfl rfl rfl rfl rfl named Try.func20 closed
    (of_decide_eq_true (by kernel_rfl)) (by unfold Func.isWrapper; first | (rw [if_pos (by decide +kernel)]; kernel_rfl) | (rw [if_neg (by decide +kernel)]; exact ⟨rfl, rfl⟩))
    (fun os started H enc _ => lifted os started H enc)
end ProgDC
#print axioms ProgDC.proved
end Go.Proofs.Ytlhappecjjbopaa
