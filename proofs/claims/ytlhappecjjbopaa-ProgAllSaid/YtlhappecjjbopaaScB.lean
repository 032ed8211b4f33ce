/-
  ScanNumbers: sizes, extra bits and values are what the document says. No condition.
-/
import Derived.Test.YtlhappecjjbopaaScA
import Derived.Test.YtlhappecjjbopaaFacts
namespace Go.Proofs.Ytlhappecjjbopaa
open Go.ChangeShapes Go.WideShapes Go.ChangeAt Go.WideMaps Go.WideElems Go.RowKit Go.Joins
set_option linter.unusedVariables false

set_option maxRecDepth 100000 in
theorem rsize_any (n : Int) (w : World) : Calls Try.prog 41 #[.int .i64 n] w fun e w' => e = .returned (.int .i64 (szN n)) ∧ w = w' := by
  by_cases h : n < -32767 ∨ 32767 < n
  · have hs : szN n = 0 := by unfold szN; exact if_pos h
    rw [hs]
    rcases h with h | h
    · go_enter Try.func41, Try.ntmps41
      go_wp2
      go_ret
      exact ⟨ret_int (by simp), rfl⟩
    · have h2 : ¬ n < -32767 := by omega
      go_enter Try.func41, Try.ntmps41
      go_wp2
      go_ret
      exact ⟨ret_int (by simp), rfl⟩
  · have hs : szN n = bl n.natAbs := by unfold szN; exact if_neg h
    rw [hs]
    have hmb := bl_bd (x := n.natAbs) (s := 15) (by omega)
    have h1 : -32767 ≤ n := by omega
    have h2 : n ≤ 32767 := by omega
    clear h hs
    by_cases h0 : n < 0
    · obtain ⟨m, hm⟩ := Int.eq_ofNat_of_zero_le (show 0 ≤ -n by omega)
      have hn : n.natAbs = m := by omega
      rw [hn] at hmb ⊢
      obtain rfl : n = -(m : Int) := by omega
      clear hm hn
      go_enter Try.func41, Try.ntmps41
      go_wp2_with fail
      go_loop [0, 3] (fun x k => ∃ y j : Nat, y ≤ 32767 ∧ x = .int .i64 y ∧ k = .int .i64 j ∧ j + bl y = bl m) (fun x _ => (intOf x).toNat)
      case atStart => exact ⟨m, 0, by omega, by go_num, rfl, by omega⟩
      case round =>
        obtain ⟨y, j, hy, rfl, rfl, hj⟩ := hrel
        by_cases hy0 : y = 0
        · subst hy0
          go_wp2
          go_ret
          exact ⟨ret_int (by rw [← hj]; simp [bl]), rfl⟩
        · have hh := bl_half hy0
          have hbj : j ≤ 15 := by omega
          have HJ := Lib.hid hj
          have HH := Lib.hid hh
          clear hj hh
          go_wp2
          go_round
          case rel => exact ⟨y / 2, j + 1, by omega, by go_num, by go_num, by rw [← HJ.out, HH.out]; omega⟩
          case measure => simp [intOf]; omega
    · obtain ⟨m, rfl⟩ := Int.eq_ofNat_of_zero_le (show 0 ≤ n by omega)
      rw [Int.natAbs_natCast] at hmb ⊢
      go_enter Try.func41, Try.ntmps41
      go_wp2_with fail
      go_loop [0, 3] (fun x k => ∃ y j : Nat, y ≤ 32767 ∧ x = .int .i64 y ∧ k = .int .i64 j ∧ j + bl y = bl m) (fun x _ => (intOf x).toNat)
      case atStart => exact ⟨m, 0, by omega, rfl, rfl, by omega⟩
      case round =>
        obtain ⟨y, j, hy, rfl, rfl, hj⟩ := hrel
        by_cases hy0 : y = 0
        · subst hy0
          go_wp2
          go_ret
          exact ⟨ret_int (by rw [← hj]; simp [bl]), rfl⟩
        · have hh := bl_half hy0
          have hbj : j ≤ 15 := by omega
          have HJ := Lib.hid hj
          have HH := Lib.hid hh
          clear hj hh
          go_wp2
          go_round
          case rel => exact ⟨y / 2, j + 1, by omega, by go_num, by go_num, by rw [← HJ.out, HH.out]; omega⟩
          case measure => simp [intOf]; omega

theorem power21_any (n : Nat) (hn : n ≤ 60) (w : World) : Calls Try.prog 102 #[.int .i64 n] w fun e w' => e = .returned (.int .i64 (2 ^ n)) ∧ w = w' := by
  go_enter Try.func102, Try.ntmps102
  go_wp2_with fail
  go_loop [3, 4] (fun x i => ∃ k : Nat, k ≤ n ∧ i = .int .i64 k ∧ x = .int .i64 (2 ^ k : Nat)) (fun _ i => n - (intOf i).toNat)
  case atStart => exact ⟨0, Nat.zero_le _, rfl, rfl⟩
  case round =>
    obtain ⟨k, hk, rfl, rfl⟩ := hrel
    have hle : 2 ^ k ≤ 2 ^ 60 := Nat.pow_le_pow_right (by omega) (show k ≤ 60 by omega)
    rw [show 2 ^ 60 = 1152921504606846976 from rfl] at hle
    have hpos : 1 ≤ 2 ^ k := Nat.one_le_two_pow
    have hs : 2 ^ (k + 1) = 2 * 2 ^ k := by rw [Nat.pow_succ, Nat.mul_comm]
    have HS := Lib.hid hs
    clear hs
    generalize hP : 2 ^ k = P at *
    have HP := Lib.hid hP
    clear hP
    by_cases hlt : k < n
    · go_wp2
      go_round
      case rel => exact ⟨k + 1, by omega, by go_num, by rw [HS.out]; go_num⟩
      case measure => simp [intOf]; omega
    · go_wp2
      go_ret
      exact ⟨ret_int (by obtain rfl : k = n := by omega
                         rw [← HP.out]; simp), rfl⟩

theorem rextra_any (n : Int) (w : World) : Calls Try.prog 42 #[.int .i64 n] w fun e w' => e = .returned (.int .i64 (exZ n)) ∧ w = w' := by
  have hsb := szN_bd n
  have hp := pow_le15 (s := szN n) (by omega)
  by_cases h1 : n < -32767
  · have he : exZ n = 0 := by unfold exZ; exact if_pos (.inl h1)
    rw [he]
    clear hp hsb
    go_enter Try.func42, Try.ntmps42
    go_wp2
    go_ret
    exact ⟨rfl, rfl⟩
  by_cases h2 : 32767 < n
  · have he : exZ n = 0 := by unfold exZ; exact if_pos (.inr h2)
    rw [he]
    clear hp hsb
    go_enter Try.func42, Try.ntmps42
    go_wp2
    go_ret
    exact ⟨rfl, rfl⟩
  by_cases h0 : n < 0
  · have he : exZ n = n + 2 ^ szN n - 1 := by unfold exZ; rw [if_neg (by omega), if_pos h0]
    rw [he]
    clear he
    generalize hse : szN n = s at *
    have HS := Lib.hid hse
    clear hse
    go_enter Try.func42, Try.ntmps42
    go_wp2_with fail
    refine (rsize_any n _).mono ?_; rintro e w' ⟨rfl, rfl⟩
    rw [HS.out]
    go_wp2_with fail
    refine (power21_any s (by omega) _).mono ?_; rintro e w' ⟨rfl, rfl⟩
    go_wp2
    go_ret
    exact ⟨rfl, rfl⟩
  · have he : exZ n = n := by unfold exZ; rw [if_neg (by omega), if_neg h0]
    rw [he]
    clear hp hsb he
    go_enter Try.func42, Try.ntmps42
    go_wp2
    go_ret
    exact ⟨rfl, rfl⟩

/-- a number of just t + 1 bits, and its opposite -/
theorem ex_pos {t m : Nat} (ht : t + 1 ≤ 15) (h1 : 2 ^ t ≤ m) (h2 : m < 2 ^ (t + 1)) : exZ (m : Int) = m ∧ exZ (-(m : Int)) = 2 ^ (t + 1) - 1 - m := by
  have hm : m ≤ 32767 := by
    have : 2 ^ (t + 1) ≤ 2 ^ 15 := Nat.pow_le_pow_right (by omega) ht
    omega
  have hp := Nat.one_le_two_pow (n := t)
  constructor
  · unfold exZ; rw [if_neg (by omega), if_neg (by omega)]
  · unfold exZ; rw [if_neg (by omega), if_pos (by omega)]
    have hs : szN (-(m : Int)) = t + 1 := by
      unfold szN; rw [if_neg (by omega), show (-(m : Int)).natAbs = m by omega]
      exact bl_of h1 h2
    rw [hs]; omega

theorem rvalue_any (e s : Int) (w : World) : Calls Try.prog 43 #[.int .i64 e, .int .i64 s] w fun e' w' => e' = .returned (.int .i64 (vaZ e s)) ∧ w = w' := by
  by_cases h1 : s < 1
  · have hv : vaZ e s = 0 := by unfold vaZ; rw [if_pos (by omega)]
    rw [hv]
    clear hv
    go_enter Try.func43, Try.ntmps43
    go_wp2
    go_ret
    exact ⟨rfl, rfl⟩
  by_cases h2 : 15 < s
  · have hv : vaZ e s = 0 := by unfold vaZ; rw [if_pos (by omega)]
    rw [hv]
    clear hv
    go_enter Try.func43, Try.ntmps43
    go_wp2
    go_ret
    exact ⟨rfl, rfl⟩
  obtain ⟨S, rfl⟩ := Int.eq_ofNat_of_zero_le (show 0 ≤ s by omega)
  obtain ⟨t, rfl⟩ : ∃ t, S = t + 1 := ⟨S - 1, by omega⟩
  have hexp : ∀ m : Nat, 2 ^ t ≤ m → m < 2 ^ (t + 1) → exZ (m : Int) = m ∧ exZ (-(m : Int)) = 2 ^ (t + 1) - 1 - m := fun m a b => ex_pos (by omega) a b
  have hpp : 2 ^ (t + 1) = 2 * 2 ^ t := by rw [Nat.pow_succ, Nat.mul_comm]
  have hv : vaZ e (t + 1 : Nat) = if e < 0 ∨ ((2 ^ (t + 1) : Nat) : Int) ≤ e then 0 else if e < ((2 ^ t : Nat) : Int) then e - ((2 ^ (t + 1) : Nat) : Int) + 1 else e := by
    unfold vaZ
    have e1 : ((2 ^ (t + 1) : Nat) : Int) = (2 : Int) ^ (t + 1) := by simp
    have e2 : ((2 ^ t : Nat) : Int) = (2 : Int) ^ t := by simp
    rw [e1, e2]
    simp only [Int.toNat_natCast, Nat.add_sub_cancel]
    by_cases hc : e < 0 ∨ (2 : Int) ^ (t + 1) ≤ e
    · rw [if_pos hc, if_pos (by omega)]
    · rw [if_neg hc, if_neg (by omega)]
  have hP15 : 2 ^ t ≤ 16384 := Nat.le_trans (Nat.pow_le_pow_right (by omega) (show t ≤ 14 by omega)) (by decide)
  have hP1 := Nat.one_le_two_pow (n := t)
  have c1 : ((2 : Int) ^ t) = ((2 ^ t : Nat) : Int) := by simp
  have c2 : ((2 : Int) ^ (t + 1)) = ((2 ^ (t + 1) : Nat) : Int) := by simp
  have HV := Lib.hid hv
  have HE := Lib.hid hexp
  have HC2 := Lib.hid c2
  have HC1 := Lib.hid c1
  clear hv hexp c1 c2
  have hd1 : decide ((t : Int) + 1 < 1) = false := by simp; omega
  have hd2 : decide (15 < (t : Int) + 1) = false := by simp; omega
  go_enter Try.func43, Try.ntmps43
  go_wp2_with fail
  refine (power21_any t (by omega) _).mono ?_; rintro e w' ⟨rfl, rfl⟩
  rw [HC1.out]
  generalize hPe : 2 ^ t = P at *
  generalize hQe : 2 ^ (t + 1) = Q at *
  have HP := Lib.hid hPe
  have HQ := Lib.hid hQe
  clear hPe hQe
  go_wp2_with fail
  go_loop [5] (fun i => ∃ m : Nat, P ≤ m ∧ m ≤ Q ∧ i = .int .i64 m ∧ (∀ j : Nat, P ≤ j → j < m → (j : Int) ≠ e ∧ (Q : Int) - 1 - j ≠ e)) (fun i => Q - (intOf i).toNat)
  case atStart => exact ⟨P, by omega, by omega, rfl, fun j h1 h2 => by omega⟩
  case round =>
    obtain ⟨m, hm1, hm2, rfl, hnot⟩ := hrel
    have HX := Lib.hid hnot
    clear hnot
    have h15 : (t : Int) + 1 = ((t + 1 : Nat) : Int) := by omega
    have H15 := Lib.hid h15
    clear h15
    by_cases hlt : m < Q
    · obtain ⟨e1, e2⟩ := HE.out m hm1 hlt
      rw [HC2.out] at e2
      have E1 := Lib.hid e1
      have E2 := Lib.hid e2
      clear e1 e2
      by_cases hc1 : (m : Int) = e
      · have hb1 : ((m : Int) == e) = true := by simpa using hc1
        have HB := Lib.hid hc1
        clear hc1
        go_wp2_with fail
        rw [H15.out]
        refine (power21_any (t + 1) (by omega) _).mono ?_; rintro e w' ⟨rfl, rfl⟩
        rw [HC2.out]
        go_wp2_with fail
        refine (rextra_any _ _).mono ?_; rintro e w' ⟨rfl, rfl⟩
        rw [E1.out]
        go_wp2
        go_ret
        refine ⟨ret_int ?_, rfl⟩
        rw [HV.out, HB.out.symm, if_neg (by omega), if_neg (by omega)]
      · have hb1 : ((m : Int) == e) = false := by simpa using hc1
        have HB := Lib.hid hc1
        clear hc1
        by_cases hc2 : (Q : Int) - 1 - m = e
        · have hb2 : ((Q : Int) - 1 - m == e) = true := by simpa using hc2
          have HB2 := Lib.hid hc2
          clear hc2
          go_wp2_with fail
          rw [H15.out]
          refine (power21_any (t + 1) (by omega) _).mono ?_; rintro e w' ⟨rfl, rfl⟩
          rw [HC2.out]
          go_wp2_with fail
          refine (rextra_any _ _).mono ?_; rintro e w' ⟨rfl, rfl⟩
          rw [E1.out]
          go_wp2_with fail
          refine (rextra_any _ _).mono ?_; rintro e w' ⟨rfl, rfl⟩
          rw [E2.out]
          go_wp2
          go_ret
          refine ⟨ret_int ?_, rfl⟩
          rw [HV.out, HB2.out.symm, if_neg (by omega), if_pos (by omega)]
          omega
        · have hb2 : ((Q : Int) - 1 - m == e) = false := by simpa using hc2
          have HB2 := Lib.hid hc2
          clear hc2
          go_wp2_with fail
          rw [H15.out]
          refine (power21_any (t + 1) (by omega) _).mono ?_; rintro e w' ⟨rfl, rfl⟩
          rw [HC2.out]
          go_wp2_with fail
          refine (rextra_any _ _).mono ?_; rintro e w' ⟨rfl, rfl⟩
          rw [E1.out]
          go_wp2_with fail
          refine (rextra_any _ _).mono ?_; rintro e w' ⟨rfl, rfl⟩
          rw [E2.out]
          go_wp2
          go_round
          case rel =>
            refine ⟨m + 1, by omega, by omega, by go_num, fun j hj1 hj2 => ?_⟩
            by_cases hjm : j < m
            · exact HX.out j hj1 hjm
            · obtain rfl : j = m := by omega
              exact ⟨HB.out, HB2.out⟩
          case measure => simp [intOf]; omega
    · go_wp2_with fail
      rw [H15.out]
      refine (power21_any (t + 1) (by omega) _).mono ?_; rintro e w' ⟨rfl, rfl⟩
      rw [HC2.out]
      go_wp2
      go_ret
      refine ⟨ret_int ?_, rfl⟩
      rw [HV.out]
      have hx := HX.out
      by_cases hc : e < 0 ∨ (Q : Int) ≤ e
      · rw [if_pos hc]
      · by_cases hc2 : e < P
        · have := (hx (Q - 1 - e.toNat) (by omega) (by omega)).2
          omega
        · have := (hx e.toNat (by omega) (by omega)).1
          omega

theorem va_ex {n : Int} (h1 : -32767 ≤ n) (h2 : n ≤ 32767) (h0 : n ≠ 0) : vaZ (exZ n) (szN n) = n := by
  have hs : 0 < szN n := by
    rcases Nat.eq_zero_or_pos (szN n) with h | h
    · exact absurd ((szN_zero h1 h2).1 h) h0
    · exact h
  have hb := szN_bd n
  obtain ⟨t, ht⟩ : ∃ t, szN n = t + 1 := ⟨szN n - 1, by omega⟩
  have hlt : n.natAbs < 2 ^ (t + 1) := by rw [← ht]; exact szN_lt h1 h2
  have hle : 2 ^ t ≤ n.natAbs := by
    have := bl_le (x := n.natAbs) (by omega)
    unfold szN at ht; rw [if_neg (by omega)] at ht
    rw [ht, Nat.add_sub_cancel] at this
    exact this
  rw [ht]
  have hpp : 2 ^ (t + 1) = 2 * 2 ^ t := by rw [Nat.pow_succ, Nat.mul_comm]
  have c1 : ((2 : Int) ^ t) = ((2 ^ t : Nat) : Int) := by simp
  have c2 : ((2 : Int) ^ (t + 1)) = ((2 ^ (t + 1) : Nat) : Int) := by simp
  have hv : ∀ e : Int, vaZ e (t + 1 : Nat) = if e < 0 ∨ ((2 ^ (t + 1) : Nat) : Int) ≤ e then 0 else if e < ((2 ^ t : Nat) : Int) then e - ((2 ^ (t + 1) : Nat) : Int) + 1 else e := by
    intro e
    unfold vaZ
    rw [← c1, ← c2]
    simp only [Int.toNat_natCast, Nat.add_sub_cancel]
    by_cases hc : e < 0 ∨ (2 : Int) ^ (t + 1) ≤ e
    · rw [if_pos hc, if_pos (by omega)]
    · rw [if_neg hc, if_neg (by omega)]
  rw [hv]
  by_cases hn : n < 0
  · have he : exZ n = n + ((2 ^ (t + 1) : Nat) : Int) - 1 := by unfold exZ; rw [if_neg (by omega), if_pos hn, ht, c2]
    rw [he, if_neg (by omega), if_pos (by omega)]; omega
  · have he : exZ n = n := by unfold exZ; rw [if_neg (by omega), if_neg hn]
    rw [he, if_neg (by omega), if_neg (by omega)]

theorem exZ_bd (n : Int) : -65536 ≤ exZ n ∧ exZ n ≤ 65536 := by
  have hp := pow_le15 (s := szN n) (by have := szN_bd n; omega)
  unfold exZ; split
  · omega
  · split <;> omega
theorem vaZ_bd (e s : Int) : -65536 ≤ vaZ e s ∧ vaZ e s ≤ 65536 := by
  unfold vaZ
  split
  · omega
  · have hp := pow_le15 (s := s.toNat) (by omega)
    split <;> omega

theorem scanNumbers_any (w : World) (n : Int) (hn : -9223372036854775808 ≤ n ∧ n ≤ 9223372036854775807) (e : Int) (he : -9223372036854775808 ≤ e ∧ e ≤ 9223372036854775807) (s : Int) (hs : -9223372036854775808 ≤ s ∧ s ≤ 9223372036854775807) :
    Calls Try.prog 8 #[.int .i64 n, .int .i64 e, .int .i64 s] w fun e w' => e = .returned (.bool true) ∧ Below w.heap.size w w' := by
  have f1 : ((szN (-5) : Nat) : Int) = 3 := by decide
  have f2 : exZ (-5) = 2 := by decide
  have f3 : vaZ 2 3 = -5 := by decide
  have F1 := Lib.hid f1
  have F2 := Lib.hid f2
  have F3 := Lib.hid f3
  clear f1 f2 f3
  have hva := @va_ex n
  have HVA := Lib.hid hva
  clear hva
  have hx := exZ_bd n
  have hv := vaZ_bd e s
  have hz := szN_bd n
  go_enter Try.func8, Try.ntmps8
  go_wp2_with fail
  refine (size_any _ _).mono ?_; rintro e w' ⟨rfl, rfl⟩
  rw [F1.out]
  go_wp2_with fail
  refine (extra_any _ (by omega) _).mono ?_; rintro e w' ⟨rfl, rfl⟩
  rw [F2.out]
  go_wp2_with fail
  refine (value_any _ _ (by omega) _).mono ?_; rintro e w' ⟨rfl, rfl⟩
  rw [F3.out]
  go_wp2_with fail
  refine (size_any _ _).mono ?_; rintro e w' ⟨rfl, rfl⟩
  go_wp2_with fail
  refine (rsize_any _ _).mono ?_; rintro e w' ⟨rfl, rfl⟩
  go_wp2_with fail
  refine (extra_any _ hn _).mono ?_; rintro e w' ⟨rfl, rfl⟩
  go_wp2_with fail
  refine (rextra_any _ _).mono ?_; rintro e w' ⟨rfl, rfl⟩
  go_wp2_with fail
  refine (value_any _ _ he _).mono ?_; rintro e w' ⟨rfl, rfl⟩
  go_wp2_with fail
  refine (rvalue_any _ _ _).mono ?_; rintro e w' ⟨rfl, rfl⟩
  by_cases h1 : n < -32767
  · go_wp2
    go_ret
    exact ⟨rfl, Below.refl _ _⟩
  by_cases h2 : 32767 < n
  · go_wp2
    go_ret
    exact ⟨rfl, Below.refl _ _⟩
  by_cases h3 : n = 0
  · subst h3
    go_wp2
    go_ret
    exact ⟨rfl, Below.refl _ _⟩
  · have hb : (n == 0) = false := by simpa using h3
    have H3 := Lib.hid h3
    clear h3
    go_wp2_with fail
    refine (extra_any _ hn _).mono ?_; rintro e w' ⟨rfl, rfl⟩
    go_wp2_with fail
    refine (size_any _ _).mono ?_; rintro e w' ⟨rfl, rfl⟩
    go_wp2_with fail
    refine (value_any _ _ (by omega) _).mono ?_; rintro e w' ⟨rfl, rfl⟩
    rw [HVA.out (by omega) (by omega) H3.out]
    go_wp2
    go_ret
    exact ⟨rfl, Below.refl _ _⟩
namespace ScanNumbers
set_option maxRecDepth 100000 in
theorem contract (H : Type) (enc : TypeId × Value → H) (W : World) (base : Nat) (args : Array Value) (ds gs : List (DataW H)) (before : List MemPlace)
    (hval : ∀ (j : Nat) t v, Try.f8.params[j]? = some t → args[j]? = some v → Value.okWide Try.prog W .any base t v)
    (hW : DataW.Whole enc Try.prog Try.f8.params.toList Rows.scanNumbersSpec.vars false W args.toList ds gs before) :
    Calls Try.prog 8 args W fun e W' => ∃ v, e = .returned v ∧ Rows.scanNumbersSpec.post enc Try.prog Try.f8 false true false false W args v W' := by
  have hW' := hW
  obtain ⟨p, q, hA0, hV, rfl, hfz, hnd⟩ := hW
  have hA : DataW.TrodAll enc Try.prog W 0 (fun _ => true) true Try.f8.params.toList args.toList ds p := hA0
  rw [Try.params8] at hA hval
  clear hA0
  obtain ⟨v0, vs0, d0, ds0, p0, q0, hargs, rfl, rfl, h0, r0⟩ := trodAll_cons hA
  obtain ⟨v1, vs1, d1, ds1, p1, q1, rfl, rfl, rfl, h1, r1⟩ := trodAll_cons r0
  obtain ⟨v2, vs2, d2, ds2, p2, q2, rfl, rfl, rfl, h2, r2⟩ := trodAll_cons r1
  obtain ⟨rfl, rfl, rfl⟩ := trodAll_nil r2
  obtain rfl : args = #[v0, v1, v2] := by cases args; simp_all
  obtain ⟨rfl, rfl⟩ := trodVars_none hV
  obtain ⟨x0, rfl, rfl, rfl, wx0⟩ := open_int Try.underlying3 (hval 0 _ _ rfl rfl) h0
  obtain ⟨x1, rfl, rfl, rfl, wx1⟩ := open_int Try.underlying3 (hval 1 _ _ rfl rfl) h1
  obtain ⟨x2, rfl, rfl, rfl, wx2⟩ := open_int Try.underlying3 (hval 2 _ _ rfl rfl) h2
  refine (scanNumbers_any W x0 (wf_i wx0) x1 (wf_i wx1) x2 (wf_i wx2)).mono fun e W' ⟨he, hb⟩ => ?_
  subst he
  exact ⟨_, rfl, post_true Facts.laid hW' rfl rfl Try.underlying4 (by kernel_rfl) rfl hb⟩

set_option maxRecDepth 100000 in
theorem lifted (os : Os) (started : os.Started) (H : Type) (enc : TypeId × Value → H) :
    ReturnsInHanded {} Try.checked os 8 .any (Rows.scanNumbersSpec.pre6 enc Try.prog Try.f8 Rows.scanNumbersRow.domain false) (Rows.scanNumbersSpec.post enc Try.prog Try.f8 false true false false) := by
  refine returnsInHanded_of_change (C := Try.checked) Facts.own started (by kernel_rfl) Try.func8
    (ChangeSpec.witness6 (enc := enc) (C := Try.checked) (os := os) false ⟨#[], #[.int .i64 0, .int .i64 0, .int .i64 0], []⟩ 8 (by kernel_rfl) (by kernel_rfl) (by kernel_rfl) (by kernel_rfl)) ?_
  intro W base args ds gs before hval hW _ _
  exact contract H enc W base args ds gs before hval hW

theorem k_wf : Rows.scanNumbersRow.wf (OpenSpec.ofChange Rows.scanNumbersSpec) = true := by kernel_rfl
theorem k_inp : (Rows.scanNumbersRow.inPlace == Try.prog.inPlace 8) = true := by kernel_rfl
theorem k_unf : (Rows.scanNumbersRow.unfollowed == Try.prog.unfollowed 8) = true := by kernel_rfl
theorem k_rec : (Rows.scanNumbersRow.recurses == Try.prog.recurses 8) = true := by kernel_rfl
theorem k_nam : (Rows.scanNumbersRow.named == Try.prog.varsNamed 8) = true := by kernel_rfl
theorem k_pk : (Rows.scanNumbersRow.plainKeys == Try.prog.plainKeys) = true := (congrArg (fun x => Rows.scanNumbersRow.plainKeys == x) Facts.plainKeys).trans (by kernel_rfl)
theorem k_lf : (Rows.scanNumbersRow.lifted == Try.prog.liftsFinal) = true := (congrArg (fun x => Rows.scanNumbersRow.lifted == x) Facts.liftsFinal).trans (by kernel_rfl)
theorem k_mk : (Try.prog.make == some Rows.scanNumbersRow.make) = true := (congrArg (fun x => x == some Rows.scanNumbersRow.make) Facts.make).trans (by kernel_rfl)
theorem k_par : (Try.f8.params.all (Try.prog.readableRec ·)) = true := by kernel_rfl
theorem k_maps : (Rows.scanNumbersRow.maps == (Try.f8.params.toList ++ Rows.scanNumbersSpec.plain.varTypes Try.prog).any (Try.prog.mapsRec ·)) = true := by kernel_rfl
theorem k_ifs : (Rows.scanNumbersRow.ifaces == (Try.f8.params.toList ++ Rows.scanNumbersSpec.plain.varTypes Try.prog).any (Try.prog.ifacesRec ·)) = true := by kernel_rfl
theorem k_lps : (Rows.scanNumbersRow.loops == (Try.f8.params.toList ++ Rows.scanNumbersSpec.plain.varTypes Try.prog).any (Try.prog.loopsFrom ·)) = true := by kernel_rfl
theorem k_wk : (Rows.scanNumbersRow.wideKeys == (Try.f8.params.toList ++ Rows.scanNumbersSpec.plain.varTypes Try.prog ++ Try.f8.resultTypes.toList).any (Try.prog.wideKeysFrom ·)) = true := by kernel_rfl
theorem k_vl : (Rows.scanNumbersRow.veiled == (Try.f8.params.toList ++ Rows.scanNumbersSpec.plain.varTypes Try.prog ++ Try.f8.resultTypes.toList).any (Try.prog.veiledRec ·)) = true := by kernel_rfl
theorem closed : joinedFacts Try.prog 8 Try.f8 Rows.scanNumbersSpec Rows.scanNumbersRow = true :=
  Facts.and_i (Facts.and_i (Facts.and_i (Facts.and_i (Facts.and_i (Facts.and_i (Facts.and_i (Facts.and_i (Facts.and_i (Facts.and_i (Facts.and_i (Facts.and_i (Facts.and_i (Facts.and_i (Facts.and_i (Facts.and_i (Facts.and_i (Facts.and_i (Facts.and_i (Facts.and_i (Facts.and_i (Facts.and_i (Facts.and_i (Facts.and_i (Facts.and_i (Facts.and_i (Facts.and_i (Facts.and_i (Facts.and_i (Facts.and_i (Facts.and_i
    k_wf Facts.laid) Facts.mapsRowed_) k_par) rfl) rfl) Facts.stops) rfl) Facts.stopKnobs) k_inp) k_unf) k_rec) k_nam) k_maps) k_ifs) (by kernel_rfl)) k_lps) k_wk) rfl) (by kernel_rfl)) (by kernel_rfl)) (by kernel_rfl)) k_pk) rfl) Facts.stopsHeard) Facts.mayEnter) k_lf) k_mk) (by kernel_rfl)) (by kernel_rfl)) k_vl) (by kernel_rfl)
theorem named : Try.prog.funcNamed Rows.scanNumbersRow.func = some 8 := by kernel_rfl

theorem proved : Rows.ScanNumbersSaid :=
  OpenClaim.holds_of_wide 8 Try.f8 rfl rfl rfl rfl rfl rfl rfl ⟨rfl, rfl, rfl, rfl, rfl⟩ rfl rfl rfl rfl rfl named Try.func8 closed
    (of_decide_eq_true (by kernel_rfl)) (by unfold Func.isWrapper; first | (rw [if_pos (by decide +kernel)]; kernel_rfl) | (rw [if_neg (by decide +kernel)]; exact ⟨rfl, rfl⟩))
    (fun os started H enc _ => lifted os started H enc)
end ScanNumbers
#print axioms ScanNumbers.proved
end Go.Proofs.Ytlhappecjjbopaa
