/-
  Sample: widening and narrowing, by contracts. No condition.
-/
import Derived.Test.YtkmgojoojboidaaSaA
namespace Go.Proofs.Ytkmgojoojboidaa
open Go.RowKit
set_option linter.unusedVariables false

theorem widen_ok1 (n : Int) (h0 : 0 ≤ n) (h1 : n ≤ 1) (w : World) :
    Calls Try.prog 22 #[.int .i64 n, .int .i64 1] w fun e w' => e = .returned (.tuple #[.int .i64 (n * 65535), .nilIface]) ∧ Below w.heap.size w w' := by
  have hq : (n / 2 != 0) = false := by rw [bne_eq_false_iff_eq]; omega
  have hn : decide (n < 0) = false := by simp; omega
  skip
  go_enter Try.func22, Try.ntmps22
  go_wp2_with fail
  refine (deep_is _ true (by decide) _).mono ?_; rintro e w1 ⟨rfl, hb1⟩
  go_wp2_with fail
  refine (step_any 1 (by decide) _).mono ?_; rintro e w' ⟨rfl, rfl⟩
  have hs : stepD 1 = 65535 := by decide
  rw [hs]
  clear hs
  go_wp2
  go_ret2
  exact ⟨rfl, hb1⟩
theorem widen_range1 (n : Int) (hb : -9223372036854775808 ≤ n ∧ n ≤ 9223372036854775807) (h : n < 0 ∨ 1 < n) (w : World) :
    Calls Try.prog 22 #[.int .i64 n, .int .i64 1] w fun e w' => e = .returned (.tuple #[.int .i64 0, errV 7]) ∧ Below w.heap.size w w' := by
  by_cases h1 : n < 0
  · go_enter Try.func22, Try.ntmps22
    go_wp2_with fail
    refine (deep_is _ true (by decide) _).mono ?_; rintro e w1 ⟨rfl, hb1⟩
    go_wp2
    go_ret2
    exact ⟨rfl, hb1⟩
  · have hq : (n / 2 != 0) = true := by rw [bne_iff_ne]; omega
    have hn : decide (n < 0) = false := by simp; omega
    clear h
    go_enter Try.func22, Try.ntmps22
    go_wp2_with fail
    refine (deep_is _ true (by decide) _).mono ?_; rintro e w1 ⟨rfl, hb1⟩
    go_wp2
    go_ret2
    exact ⟨rfl, hb1⟩
theorem narrow_yes1 (n : Int) (h0 : 0 ≤ n) (h1 : n ≤ 65535) (h2 : n % 65535 = 0) (w : World) :
    Calls Try.prog 26 #[.int .i64 n, .int .i64 1] w fun e w' => e = .returned (.tuple #[.int .i64 (n / 65535), .bool true]) ∧ Below w.heap.size w w' := by
  have hq : (n % 65535 != 0) = false := by rw [bne_eq_false_iff_eq]; omega
  have ha : decide (n < 0) = false := by simp; omega
  have hc : decide (65535 < n) = false := by simp; omega
  clear h2
  skip
  go_enter Try.func26, Try.ntmps26
  go_wp2_with fail
  refine (deep_is _ true (by decide) _).mono ?_; rintro e w1 ⟨rfl, hb1⟩
  go_wp2_with fail
  refine (step_any 1 (by decide) _).mono ?_; rintro e w' ⟨rfl, rfl⟩
  have hs : stepD 1 = 65535 := by decide
  rw [hs]
  go_wp2_with fail
  refine (step_any 1 (by decide) _).mono ?_; rintro e w' ⟨rfl, rfl⟩
  rw [hs]
  clear hs
  go_wp2
  go_ret2
  exact ⟨rfl, hb1⟩
theorem narrow_no1 (n : Int) (hb : -9223372036854775808 ≤ n ∧ n ≤ 9223372036854775807) (h : ¬ (0 ≤ n ∧ n ≤ 65535 ∧ n % 65535 = 0)) (w : World) :
    Calls Try.prog 26 #[.int .i64 n, .int .i64 1] w fun e w' => e = .returned (.tuple #[.int .i64 0, .bool false]) ∧ Below w.heap.size w w' := by
  by_cases h1 : n < 0
  · go_enter Try.func26, Try.ntmps26
    go_wp2_with fail
    refine (deep_is _ true (by decide) _).mono ?_; rintro e w1 ⟨rfl, hb1⟩
    go_wp2
    go_ret2
    exact ⟨rfl, hb1⟩
  by_cases h2 : 65535 < n
  · go_enter Try.func26, Try.ntmps26
    go_wp2_with fail
    refine (deep_is _ true (by decide) _).mono ?_; rintro e w1 ⟨rfl, hb1⟩
    go_wp2
    go_ret2
    exact ⟨rfl, hb1⟩
  skip

  have hq : (n % 65535 != 0) = true := by rw [bne_iff_ne]; omega
  have ha : decide (n < 0) = false := by simp; omega
  have hc : decide (65535 < n) = false := by simp; omega
  clear h
  go_enter Try.func26, Try.ntmps26
  go_wp2_with fail
  refine (deep_is _ true (by decide) _).mono ?_; rintro e w1 ⟨rfl, hb1⟩
  go_wp2_with fail
  refine (step_any 1 (by decide) _).mono ?_; rintro e w' ⟨rfl, rfl⟩
  have hs : stepD 1 = 65535 := by decide
  rw [hs]
  clear hs
  go_wp2
  go_ret2
  exact ⟨rfl, hb1⟩

set_option maxHeartbeats 400000 in
theorem rnarrow1 (n : Int) (w : World) :
    Calls Try.prog 27 #[.int .i64 n, .int .i64 1] w fun e w' => e = .returned (.int .i64 (narr n 1)) ∧ w = w' := by
  have ht : topD 1 = 1 := by decide
  have hyes : ∀ k : Nat, k ≤ 1 → (k : Int) * 65535 = n → narr n 1 = k := by
    intro k hk he
    unfold narr
    rw [show stepD 1 = 65535 from by decide, if_pos ⟨by decide, by omega, by omega, by omega⟩]
    omega
  have hno : (∀ k : Nat, k ≤ 1 → (k : Int) * 65535 ≠ n) → narr n 1 = -1 := by
    intro hk
    unfold narr
    rw [show stepD 1 = 65535 from by decide]
    split
    · rename_i hc
      exact absurd (show ((n / 65535).toNat : Int) * 65535 = n by omega) (hk (n / 65535).toNat (by omega))
    · rfl
  have HY := Lib.hid hyes
  have HN := Lib.hid hno
  clear hyes hno
  go_enter Try.func27, Try.ntmps27
  go_wp2_with fail
  refine (rdeep_is _ true (by decide) _).mono ?_; rintro e w' ⟨rfl, rfl⟩
  go_wp2_with fail
  go_loop [5] (fun i => ∃ k : Nat, k ≤ 1 + 1 ∧ i = .int .i64 k ∧ ∀ j : Nat, j < k → (j : Int) * 65535 ≠ n) (fun i => 1 + 1 - (intOf i).toNat)
  case atStart => exact ⟨0, Nat.zero_le _, rfl, fun j hj => by omega⟩
  case round =>
    obtain ⟨k, hk, rfl, hnot⟩ := hrel
    have HX := Lib.hid hnot
    clear hnot
    by_cases hlt : k ≤ 1
    · by_cases he : (k : Int) * 65535 = n
      · have hb : ((k : Int) * 65535 == n) = true := by simpa using he
        have HE := Lib.hid he
        clear he
        go_wp2_with fail
        refine (top_any 1 (by decide) _).mono ?_; rintro e w' ⟨rfl, rfl⟩
        rw [ht]
        go_wp2_with fail
        refine (top_any 1 (by decide) _).mono ?_; rintro e w' ⟨rfl, rfl⟩
        rw [ht]
        go_wp2
        go_ret
        exact ⟨ret_int (HY.out k hlt HE.out).symm, rfl⟩
      · have hb : ((k : Int) * 65535 == n) = false := by simpa using he
        have HE := Lib.hid he
        clear he
        go_wp2_with fail
        refine (top_any 1 (by decide) _).mono ?_; rintro e w' ⟨rfl, rfl⟩
        rw [ht]
        go_wp2_with fail
        refine (top_any 1 (by decide) _).mono ?_; rintro e w' ⟨rfl, rfl⟩
        rw [ht]
        go_wp2
        go_round
        case rel =>
          refine ⟨k + 1, by omega, by go_num, fun j hj => ?_⟩
          by_cases hjk : j < k
          · exact HX.out j hjk
          · obtain rfl : j = k := by omega
            exact HE.out
        case measure => simp [intOf]; omega
    · go_wp2_with fail
      refine (top_any 1 (by decide) _).mono ?_; rintro e w' ⟨rfl, rfl⟩
      rw [ht]
      go_wp2
      go_ret
      exact ⟨ret_int (HN.out (fun j hj => HX.out j (by omega))).symm, rfl⟩

theorem widen_ok2 (n : Int) (h0 : 0 ≤ n) (h1 : n ≤ 3) (w : World) :
    Calls Try.prog 22 #[.int .i64 n, .int .i64 2] w fun e w' => e = .returned (.tuple #[.int .i64 (n * 21845), .nilIface]) ∧ Below w.heap.size w w' := by
  have hq : (n / 4 != 0) = false := by rw [bne_eq_false_iff_eq]; omega
  have hn : decide (n < 0) = false := by simp; omega
  skip
  go_enter Try.func22, Try.ntmps22
  go_wp2_with fail
  refine (deep_is _ true (by decide) _).mono ?_; rintro e w1 ⟨rfl, hb1⟩
  go_wp2_with fail
  refine (step_any 2 (by decide) _).mono ?_; rintro e w' ⟨rfl, rfl⟩
  have hs : stepD 2 = 21845 := by decide
  rw [hs]
  clear hs
  go_wp2
  go_ret2
  exact ⟨rfl, hb1⟩
theorem widen_range2 (n : Int) (hb : -9223372036854775808 ≤ n ∧ n ≤ 9223372036854775807) (h : n < 0 ∨ 3 < n) (w : World) :
    Calls Try.prog 22 #[.int .i64 n, .int .i64 2] w fun e w' => e = .returned (.tuple #[.int .i64 0, errV 7]) ∧ Below w.heap.size w w' := by
  by_cases h1 : n < 0
  · go_enter Try.func22, Try.ntmps22
    go_wp2_with fail
    refine (deep_is _ true (by decide) _).mono ?_; rintro e w1 ⟨rfl, hb1⟩
    go_wp2
    go_ret2
    exact ⟨rfl, hb1⟩
  · have hq : (n / 4 != 0) = true := by rw [bne_iff_ne]; omega
    have hn : decide (n < 0) = false := by simp; omega
    clear h
    go_enter Try.func22, Try.ntmps22
    go_wp2_with fail
    refine (deep_is _ true (by decide) _).mono ?_; rintro e w1 ⟨rfl, hb1⟩
    go_wp2
    go_ret2
    exact ⟨rfl, hb1⟩
theorem narrow_yes2 (n : Int) (h0 : 0 ≤ n) (h1 : n ≤ 65535) (h2 : n % 21845 = 0) (w : World) :
    Calls Try.prog 26 #[.int .i64 n, .int .i64 2] w fun e w' => e = .returned (.tuple #[.int .i64 (n / 21845), .bool true]) ∧ Below w.heap.size w w' := by
  have hq : (n % 21845 != 0) = false := by rw [bne_eq_false_iff_eq]; omega
  have ha : decide (n < 0) = false := by simp; omega
  have hc : decide (65535 < n) = false := by simp; omega
  clear h2
  skip
  go_enter Try.func26, Try.ntmps26
  go_wp2_with fail
  refine (deep_is _ true (by decide) _).mono ?_; rintro e w1 ⟨rfl, hb1⟩
  go_wp2_with fail
  refine (step_any 2 (by decide) _).mono ?_; rintro e w' ⟨rfl, rfl⟩
  have hs : stepD 2 = 21845 := by decide
  rw [hs]
  go_wp2_with fail
  refine (step_any 2 (by decide) _).mono ?_; rintro e w' ⟨rfl, rfl⟩
  rw [hs]
  clear hs
  go_wp2
  go_ret2
  exact ⟨rfl, hb1⟩
theorem narrow_no2 (n : Int) (hb : -9223372036854775808 ≤ n ∧ n ≤ 9223372036854775807) (h : ¬ (0 ≤ n ∧ n ≤ 65535 ∧ n % 21845 = 0)) (w : World) :
    Calls Try.prog 26 #[.int .i64 n, .int .i64 2] w fun e w' => e = .returned (.tuple #[.int .i64 0, .bool false]) ∧ Below w.heap.size w w' := by
  by_cases h1 : n < 0
  · go_enter Try.func26, Try.ntmps26
    go_wp2_with fail
    refine (deep_is _ true (by decide) _).mono ?_; rintro e w1 ⟨rfl, hb1⟩
    go_wp2
    go_ret2
    exact ⟨rfl, hb1⟩
  by_cases h2 : 65535 < n
  · go_enter Try.func26, Try.ntmps26
    go_wp2_with fail
    refine (deep_is _ true (by decide) _).mono ?_; rintro e w1 ⟨rfl, hb1⟩
    go_wp2
    go_ret2
    exact ⟨rfl, hb1⟩
  skip

  have hq : (n % 21845 != 0) = true := by rw [bne_iff_ne]; omega
  have ha : decide (n < 0) = false := by simp; omega
  have hc : decide (65535 < n) = false := by simp; omega
  clear h
  go_enter Try.func26, Try.ntmps26
  go_wp2_with fail
  refine (deep_is _ true (by decide) _).mono ?_; rintro e w1 ⟨rfl, hb1⟩
  go_wp2_with fail
  refine (step_any 2 (by decide) _).mono ?_; rintro e w' ⟨rfl, rfl⟩
  have hs : stepD 2 = 21845 := by decide
  rw [hs]
  clear hs
  go_wp2
  go_ret2
  exact ⟨rfl, hb1⟩

set_option maxHeartbeats 400000 in
theorem rnarrow2 (n : Int) (w : World) :
    Calls Try.prog 27 #[.int .i64 n, .int .i64 2] w fun e w' => e = .returned (.int .i64 (narr n 2)) ∧ w = w' := by
  have ht : topD 2 = 3 := by decide
  have hyes : ∀ k : Nat, k ≤ 3 → (k : Int) * 21845 = n → narr n 2 = k := by
    intro k hk he
    unfold narr
    rw [show stepD 2 = 21845 from by decide, if_pos ⟨by decide, by omega, by omega, by omega⟩]
    omega
  have hno : (∀ k : Nat, k ≤ 3 → (k : Int) * 21845 ≠ n) → narr n 2 = -1 := by
    intro hk
    unfold narr
    rw [show stepD 2 = 21845 from by decide]
    split
    · rename_i hc
      exact absurd (show ((n / 21845).toNat : Int) * 21845 = n by omega) (hk (n / 21845).toNat (by omega))
    · rfl
  have HY := Lib.hid hyes
  have HN := Lib.hid hno
  clear hyes hno
  go_enter Try.func27, Try.ntmps27
  go_wp2_with fail
  refine (rdeep_is _ true (by decide) _).mono ?_; rintro e w' ⟨rfl, rfl⟩
  go_wp2_with fail
  go_loop [5] (fun i => ∃ k : Nat, k ≤ 3 + 1 ∧ i = .int .i64 k ∧ ∀ j : Nat, j < k → (j : Int) * 21845 ≠ n) (fun i => 3 + 1 - (intOf i).toNat)
  case atStart => exact ⟨0, Nat.zero_le _, rfl, fun j hj => by omega⟩
  case round =>
    obtain ⟨k, hk, rfl, hnot⟩ := hrel
    have HX := Lib.hid hnot
    clear hnot
    by_cases hlt : k ≤ 3
    · by_cases he : (k : Int) * 21845 = n
      · have hb : ((k : Int) * 21845 == n) = true := by simpa using he
        have HE := Lib.hid he
        clear he
        go_wp2_with fail
        refine (top_any 2 (by decide) _).mono ?_; rintro e w' ⟨rfl, rfl⟩
        rw [ht]
        go_wp2_with fail
        refine (top_any 2 (by decide) _).mono ?_; rintro e w' ⟨rfl, rfl⟩
        rw [ht]
        go_wp2
        go_ret
        exact ⟨ret_int (HY.out k hlt HE.out).symm, rfl⟩
      · have hb : ((k : Int) * 21845 == n) = false := by simpa using he
        have HE := Lib.hid he
        clear he
        go_wp2_with fail
        refine (top_any 2 (by decide) _).mono ?_; rintro e w' ⟨rfl, rfl⟩
        rw [ht]
        go_wp2_with fail
        refine (top_any 2 (by decide) _).mono ?_; rintro e w' ⟨rfl, rfl⟩
        rw [ht]
        go_wp2
        go_round
        case rel =>
          refine ⟨k + 1, by omega, by go_num, fun j hj => ?_⟩
          by_cases hjk : j < k
          · exact HX.out j hjk
          · obtain rfl : j = k := by omega
            exact HE.out
        case measure => simp [intOf]; omega
    · go_wp2_with fail
      refine (top_any 2 (by decide) _).mono ?_; rintro e w' ⟨rfl, rfl⟩
      rw [ht]
      go_wp2
      go_ret
      exact ⟨ret_int (HN.out (fun j hj => HX.out j (by omega))).symm, rfl⟩

theorem widen_ok4 (n : Int) (h0 : 0 ≤ n) (h1 : n ≤ 15) (w : World) :
    Calls Try.prog 22 #[.int .i64 n, .int .i64 4] w fun e w' => e = .returned (.tuple #[.int .i64 (n * 4369), .nilIface]) ∧ Below w.heap.size w w' := by
  have hq : (n / 16 != 0) = false := by rw [bne_eq_false_iff_eq]; omega
  have hn : decide (n < 0) = false := by simp; omega
  skip
  go_enter Try.func22, Try.ntmps22
  go_wp2_with fail
  refine (deep_is _ true (by decide) _).mono ?_; rintro e w1 ⟨rfl, hb1⟩
  go_wp2_with fail
  refine (step_any 4 (by decide) _).mono ?_; rintro e w' ⟨rfl, rfl⟩
  have hs : stepD 4 = 4369 := by decide
  rw [hs]
  clear hs
  go_wp2
  go_ret2
  exact ⟨rfl, hb1⟩
theorem widen_range4 (n : Int) (hb : -9223372036854775808 ≤ n ∧ n ≤ 9223372036854775807) (h : n < 0 ∨ 15 < n) (w : World) :
    Calls Try.prog 22 #[.int .i64 n, .int .i64 4] w fun e w' => e = .returned (.tuple #[.int .i64 0, errV 7]) ∧ Below w.heap.size w w' := by
  by_cases h1 : n < 0
  · go_enter Try.func22, Try.ntmps22
    go_wp2_with fail
    refine (deep_is _ true (by decide) _).mono ?_; rintro e w1 ⟨rfl, hb1⟩
    go_wp2
    go_ret2
    exact ⟨rfl, hb1⟩
  · have hq : (n / 16 != 0) = true := by rw [bne_iff_ne]; omega
    have hn : decide (n < 0) = false := by simp; omega
    clear h
    go_enter Try.func22, Try.ntmps22
    go_wp2_with fail
    refine (deep_is _ true (by decide) _).mono ?_; rintro e w1 ⟨rfl, hb1⟩
    go_wp2
    go_ret2
    exact ⟨rfl, hb1⟩
theorem narrow_yes4 (n : Int) (h0 : 0 ≤ n) (h1 : n ≤ 65535) (h2 : n % 4369 = 0) (w : World) :
    Calls Try.prog 26 #[.int .i64 n, .int .i64 4] w fun e w' => e = .returned (.tuple #[.int .i64 (n / 4369), .bool true]) ∧ Below w.heap.size w w' := by
  have hq : (n % 4369 != 0) = false := by rw [bne_eq_false_iff_eq]; omega
  have ha : decide (n < 0) = false := by simp; omega
  have hc : decide (65535 < n) = false := by simp; omega
  clear h2
  skip
  go_enter Try.func26, Try.ntmps26
  go_wp2_with fail
  refine (deep_is _ true (by decide) _).mono ?_; rintro e w1 ⟨rfl, hb1⟩
  go_wp2_with fail
  refine (step_any 4 (by decide) _).mono ?_; rintro e w' ⟨rfl, rfl⟩
  have hs : stepD 4 = 4369 := by decide
  rw [hs]
  go_wp2_with fail
  refine (step_any 4 (by decide) _).mono ?_; rintro e w' ⟨rfl, rfl⟩
  rw [hs]
  clear hs
  go_wp2
  go_ret2
  exact ⟨rfl, hb1⟩
theorem narrow_no4 (n : Int) (hb : -9223372036854775808 ≤ n ∧ n ≤ 9223372036854775807) (h : ¬ (0 ≤ n ∧ n ≤ 65535 ∧ n % 4369 = 0)) (w : World) :
    Calls Try.prog 26 #[.int .i64 n, .int .i64 4] w fun e w' => e = .returned (.tuple #[.int .i64 0, .bool false]) ∧ Below w.heap.size w w' := by
  by_cases h1 : n < 0
  · go_enter Try.func26, Try.ntmps26
    go_wp2_with fail
    refine (deep_is _ true (by decide) _).mono ?_; rintro e w1 ⟨rfl, hb1⟩
    go_wp2
    go_ret2
    exact ⟨rfl, hb1⟩
  by_cases h2 : 65535 < n
  · go_enter Try.func26, Try.ntmps26
    go_wp2_with fail
    refine (deep_is _ true (by decide) _).mono ?_; rintro e w1 ⟨rfl, hb1⟩
    go_wp2
    go_ret2
    exact ⟨rfl, hb1⟩
  skip

  have hq : (n % 4369 != 0) = true := by rw [bne_iff_ne]; omega
  have ha : decide (n < 0) = false := by simp; omega
  have hc : decide (65535 < n) = false := by simp; omega
  clear h
  go_enter Try.func26, Try.ntmps26
  go_wp2_with fail
  refine (deep_is _ true (by decide) _).mono ?_; rintro e w1 ⟨rfl, hb1⟩
  go_wp2_with fail
  refine (step_any 4 (by decide) _).mono ?_; rintro e w' ⟨rfl, rfl⟩
  have hs : stepD 4 = 4369 := by decide
  rw [hs]
  clear hs
  go_wp2
  go_ret2
  exact ⟨rfl, hb1⟩

set_option maxHeartbeats 400000 in
theorem rnarrow4 (n : Int) (w : World) :
    Calls Try.prog 27 #[.int .i64 n, .int .i64 4] w fun e w' => e = .returned (.int .i64 (narr n 4)) ∧ w = w' := by
  have ht : topD 4 = 15 := by decide
  have hyes : ∀ k : Nat, k ≤ 15 → (k : Int) * 4369 = n → narr n 4 = k := by
    intro k hk he
    unfold narr
    rw [show stepD 4 = 4369 from by decide, if_pos ⟨by decide, by omega, by omega, by omega⟩]
    omega
  have hno : (∀ k : Nat, k ≤ 15 → (k : Int) * 4369 ≠ n) → narr n 4 = -1 := by
    intro hk
    unfold narr
    rw [show stepD 4 = 4369 from by decide]
    split
    · rename_i hc
      exact absurd (show ((n / 4369).toNat : Int) * 4369 = n by omega) (hk (n / 4369).toNat (by omega))
    · rfl
  have HY := Lib.hid hyes
  have HN := Lib.hid hno
  clear hyes hno
  go_enter Try.func27, Try.ntmps27
  go_wp2_with fail
  refine (rdeep_is _ true (by decide) _).mono ?_; rintro e w' ⟨rfl, rfl⟩
  go_wp2_with fail
  go_loop [5] (fun i => ∃ k : Nat, k ≤ 15 + 1 ∧ i = .int .i64 k ∧ ∀ j : Nat, j < k → (j : Int) * 4369 ≠ n) (fun i => 15 + 1 - (intOf i).toNat)
  case atStart => exact ⟨0, Nat.zero_le _, rfl, fun j hj => by omega⟩
  case round =>
    obtain ⟨k, hk, rfl, hnot⟩ := hrel
    have HX := Lib.hid hnot
    clear hnot
    by_cases hlt : k ≤ 15
    · by_cases he : (k : Int) * 4369 = n
      · have hb : ((k : Int) * 4369 == n) = true := by simpa using he
        have HE := Lib.hid he
        clear he
        go_wp2_with fail
        refine (top_any 4 (by decide) _).mono ?_; rintro e w' ⟨rfl, rfl⟩
        rw [ht]
        go_wp2_with fail
        refine (top_any 4 (by decide) _).mono ?_; rintro e w' ⟨rfl, rfl⟩
        rw [ht]
        go_wp2
        go_ret
        exact ⟨ret_int (HY.out k hlt HE.out).symm, rfl⟩
      · have hb : ((k : Int) * 4369 == n) = false := by simpa using he
        have HE := Lib.hid he
        clear he
        go_wp2_with fail
        refine (top_any 4 (by decide) _).mono ?_; rintro e w' ⟨rfl, rfl⟩
        rw [ht]
        go_wp2_with fail
        refine (top_any 4 (by decide) _).mono ?_; rintro e w' ⟨rfl, rfl⟩
        rw [ht]
        go_wp2
        go_round
        case rel =>
          refine ⟨k + 1, by omega, by go_num, fun j hj => ?_⟩
          by_cases hjk : j < k
          · exact HX.out j hjk
          · obtain rfl : j = k := by omega
            exact HE.out
        case measure => simp [intOf]; omega
    · go_wp2_with fail
      refine (top_any 4 (by decide) _).mono ?_; rintro e w' ⟨rfl, rfl⟩
      rw [ht]
      go_wp2
      go_ret
      exact ⟨ret_int (HN.out (fun j hj => HX.out j (by omega))).symm, rfl⟩

theorem widen_ok8 (n : Int) (h0 : 0 ≤ n) (h1 : n ≤ 255) (w : World) :
    Calls Try.prog 22 #[.int .i64 n, .int .i64 8] w fun e w' => e = .returned (.tuple #[.int .i64 (n * 257), .nilIface]) ∧ Below w.heap.size w w' := by
  have hq : (n / 256 != 0) = false := by rw [bne_eq_false_iff_eq]; omega
  have hn : decide (n < 0) = false := by simp; omega
  skip
  go_enter Try.func22, Try.ntmps22
  go_wp2_with fail
  refine (deep_is _ true (by decide) _).mono ?_; rintro e w1 ⟨rfl, hb1⟩
  go_wp2_with fail
  refine (step_any 8 (by decide) _).mono ?_; rintro e w' ⟨rfl, rfl⟩
  have hs : stepD 8 = 257 := by decide
  rw [hs]
  clear hs
  go_wp2
  go_ret2
  exact ⟨rfl, hb1⟩
theorem widen_range8 (n : Int) (hb : -9223372036854775808 ≤ n ∧ n ≤ 9223372036854775807) (h : n < 0 ∨ 255 < n) (w : World) :
    Calls Try.prog 22 #[.int .i64 n, .int .i64 8] w fun e w' => e = .returned (.tuple #[.int .i64 0, errV 7]) ∧ Below w.heap.size w w' := by
  by_cases h1 : n < 0
  · go_enter Try.func22, Try.ntmps22
    go_wp2_with fail
    refine (deep_is _ true (by decide) _).mono ?_; rintro e w1 ⟨rfl, hb1⟩
    go_wp2
    go_ret2
    exact ⟨rfl, hb1⟩
  · have hq : (n / 256 != 0) = true := by rw [bne_iff_ne]; omega
    have hn : decide (n < 0) = false := by simp; omega
    clear h
    go_enter Try.func22, Try.ntmps22
    go_wp2_with fail
    refine (deep_is _ true (by decide) _).mono ?_; rintro e w1 ⟨rfl, hb1⟩
    go_wp2
    go_ret2
    exact ⟨rfl, hb1⟩
theorem narrow_yes8 (n : Int) (h0 : 0 ≤ n) (h1 : n ≤ 65535) (h2 : n % 257 = 0) (w : World) :
    Calls Try.prog 26 #[.int .i64 n, .int .i64 8] w fun e w' => e = .returned (.tuple #[.int .i64 (n / 257), .bool true]) ∧ Below w.heap.size w w' := by
  have hq : (n % 257 != 0) = false := by rw [bne_eq_false_iff_eq]; omega
  have ha : decide (n < 0) = false := by simp; omega
  have hc : decide (65535 < n) = false := by simp; omega
  clear h2
  skip
  go_enter Try.func26, Try.ntmps26
  go_wp2_with fail
  refine (deep_is _ true (by decide) _).mono ?_; rintro e w1 ⟨rfl, hb1⟩
  go_wp2_with fail
  refine (step_any 8 (by decide) _).mono ?_; rintro e w' ⟨rfl, rfl⟩
  have hs : stepD 8 = 257 := by decide
  rw [hs]
  go_wp2_with fail
  refine (step_any 8 (by decide) _).mono ?_; rintro e w' ⟨rfl, rfl⟩
  rw [hs]
  clear hs
  go_wp2
  go_ret2
  exact ⟨rfl, hb1⟩
theorem narrow_no8 (n : Int) (hb : -9223372036854775808 ≤ n ∧ n ≤ 9223372036854775807) (h : ¬ (0 ≤ n ∧ n ≤ 65535 ∧ n % 257 = 0)) (w : World) :
    Calls Try.prog 26 #[.int .i64 n, .int .i64 8] w fun e w' => e = .returned (.tuple #[.int .i64 0, .bool false]) ∧ Below w.heap.size w w' := by
  by_cases h1 : n < 0
  · go_enter Try.func26, Try.ntmps26
    go_wp2_with fail
    refine (deep_is _ true (by decide) _).mono ?_; rintro e w1 ⟨rfl, hb1⟩
    go_wp2
    go_ret2
    exact ⟨rfl, hb1⟩
  by_cases h2 : 65535 < n
  · go_enter Try.func26, Try.ntmps26
    go_wp2_with fail
    refine (deep_is _ true (by decide) _).mono ?_; rintro e w1 ⟨rfl, hb1⟩
    go_wp2
    go_ret2
    exact ⟨rfl, hb1⟩
  skip

  have hq : (n % 257 != 0) = true := by rw [bne_iff_ne]; omega
  have ha : decide (n < 0) = false := by simp; omega
  have hc : decide (65535 < n) = false := by simp; omega
  clear h
  go_enter Try.func26, Try.ntmps26
  go_wp2_with fail
  refine (deep_is _ true (by decide) _).mono ?_; rintro e w1 ⟨rfl, hb1⟩
  go_wp2_with fail
  refine (step_any 8 (by decide) _).mono ?_; rintro e w' ⟨rfl, rfl⟩
  have hs : stepD 8 = 257 := by decide
  rw [hs]
  clear hs
  go_wp2
  go_ret2
  exact ⟨rfl, hb1⟩

set_option maxHeartbeats 400000 in
theorem rnarrow8 (n : Int) (w : World) :
    Calls Try.prog 27 #[.int .i64 n, .int .i64 8] w fun e w' => e = .returned (.int .i64 (narr n 8)) ∧ w = w' := by
  have ht : topD 8 = 255 := by decide
  have hyes : ∀ k : Nat, k ≤ 255 → (k : Int) * 257 = n → narr n 8 = k := by
    intro k hk he
    unfold narr
    rw [show stepD 8 = 257 from by decide, if_pos ⟨by decide, by omega, by omega, by omega⟩]
    omega
  have hno : (∀ k : Nat, k ≤ 255 → (k : Int) * 257 ≠ n) → narr n 8 = -1 := by
    intro hk
    unfold narr
    rw [show stepD 8 = 257 from by decide]
    split
    · rename_i hc
      exact absurd (show ((n / 257).toNat : Int) * 257 = n by omega) (hk (n / 257).toNat (by omega))
    · rfl
  have HY := Lib.hid hyes
  have HN := Lib.hid hno
  clear hyes hno
  go_enter Try.func27, Try.ntmps27
  go_wp2_with fail
  refine (rdeep_is _ true (by decide) _).mono ?_; rintro e w' ⟨rfl, rfl⟩
  go_wp2_with fail
  go_loop [5] (fun i => ∃ k : Nat, k ≤ 255 + 1 ∧ i = .int .i64 k ∧ ∀ j : Nat, j < k → (j : Int) * 257 ≠ n) (fun i => 255 + 1 - (intOf i).toNat)
  case atStart => exact ⟨0, Nat.zero_le _, rfl, fun j hj => by omega⟩
  case round =>
    obtain ⟨k, hk, rfl, hnot⟩ := hrel
    have HX := Lib.hid hnot
    clear hnot
    by_cases hlt : k ≤ 255
    · by_cases he : (k : Int) * 257 = n
      · have hb : ((k : Int) * 257 == n) = true := by simpa using he
        have HE := Lib.hid he
        clear he
        go_wp2_with fail
        refine (top_any 8 (by decide) _).mono ?_; rintro e w' ⟨rfl, rfl⟩
        rw [ht]
        go_wp2_with fail
        refine (top_any 8 (by decide) _).mono ?_; rintro e w' ⟨rfl, rfl⟩
        rw [ht]
        go_wp2
        go_ret
        exact ⟨ret_int (HY.out k hlt HE.out).symm, rfl⟩
      · have hb : ((k : Int) * 257 == n) = false := by simpa using he
        have HE := Lib.hid he
        clear he
        go_wp2_with fail
        refine (top_any 8 (by decide) _).mono ?_; rintro e w' ⟨rfl, rfl⟩
        rw [ht]
        go_wp2_with fail
        refine (top_any 8 (by decide) _).mono ?_; rintro e w' ⟨rfl, rfl⟩
        rw [ht]
        go_wp2
        go_round
        case rel =>
          refine ⟨k + 1, by omega, by go_num, fun j hj => ?_⟩
          by_cases hjk : j < k
          · exact HX.out j hjk
          · obtain rfl : j = k := by omega
            exact HE.out
        case measure => simp [intOf]; omega
    · go_wp2_with fail
      refine (top_any 8 (by decide) _).mono ?_; rintro e w' ⟨rfl, rfl⟩
      rw [ht]
      go_wp2
      go_ret
      exact ⟨ret_int (HN.out (fun j hj => HX.out j (by omega))).symm, rfl⟩

theorem widen_ok16 (n : Int) (h0 : 0 ≤ n) (h1 : n ≤ 65535) (w : World) :
    Calls Try.prog 22 #[.int .i64 n, .int .i64 16] w fun e w' => e = .returned (.tuple #[.int .i64 (n * 1), .nilIface]) ∧ Below w.heap.size w w' := by
  have hq : (n / 65536 != 0) = false := by rw [bne_eq_false_iff_eq]; omega
  have hn : decide (n < 0) = false := by simp; omega
  rw [Int.mul_one]
  go_enter Try.func22, Try.ntmps22
  go_wp2_with fail
  refine (deep_is _ true (by decide) _).mono ?_; rintro e w1 ⟨rfl, hb1⟩
  go_wp2_with fail
  refine (step_any 16 (by decide) _).mono ?_; rintro e w' ⟨rfl, rfl⟩
  have hs : stepD 16 = 1 := by decide
  rw [hs]
  clear hs
  go_wp2
  go_ret2
  exact ⟨rfl, hb1⟩
theorem widen_range16 (n : Int) (hb : -9223372036854775808 ≤ n ∧ n ≤ 9223372036854775807) (h : n < 0 ∨ 65535 < n) (w : World) :
    Calls Try.prog 22 #[.int .i64 n, .int .i64 16] w fun e w' => e = .returned (.tuple #[.int .i64 0, errV 7]) ∧ Below w.heap.size w w' := by
  by_cases h1 : n < 0
  · go_enter Try.func22, Try.ntmps22
    go_wp2_with fail
    refine (deep_is _ true (by decide) _).mono ?_; rintro e w1 ⟨rfl, hb1⟩
    go_wp2
    go_ret2
    exact ⟨rfl, hb1⟩
  · have hq : (n / 65536 != 0) = true := by rw [bne_iff_ne]; omega
    have hn : decide (n < 0) = false := by simp; omega
    clear h
    go_enter Try.func22, Try.ntmps22
    go_wp2_with fail
    refine (deep_is _ true (by decide) _).mono ?_; rintro e w1 ⟨rfl, hb1⟩
    go_wp2
    go_ret2
    exact ⟨rfl, hb1⟩
theorem narrow_yes16 (n : Int) (h0 : 0 ≤ n) (h1 : n ≤ 65535) (h2 : n % 1 = 0) (w : World) :
    Calls Try.prog 26 #[.int .i64 n, .int .i64 16] w fun e w' => e = .returned (.tuple #[.int .i64 (n / 1), .bool true]) ∧ Below w.heap.size w w' := by
  have hq : (n % 1 != 0) = false := by rw [bne_eq_false_iff_eq]; omega
  have ha : decide (n < 0) = false := by simp; omega
  have hc : decide (65535 < n) = false := by simp; omega
  clear h2
  rw [Int.ediv_one]
  go_enter Try.func26, Try.ntmps26
  go_wp2_with fail
  refine (deep_is _ true (by decide) _).mono ?_; rintro e w1 ⟨rfl, hb1⟩
  go_wp2_with fail
  refine (step_any 16 (by decide) _).mono ?_; rintro e w' ⟨rfl, rfl⟩
  have hs : stepD 16 = 1 := by decide
  rw [hs]
  go_wp2_with fail
  refine (step_any 16 (by decide) _).mono ?_; rintro e w' ⟨rfl, rfl⟩
  rw [hs]
  clear hs
  go_wp2
  go_ret2
  exact ⟨rfl, hb1⟩
theorem narrow_no16 (n : Int) (hb : -9223372036854775808 ≤ n ∧ n ≤ 9223372036854775807) (h : ¬ (0 ≤ n ∧ n ≤ 65535 ∧ n % 1 = 0)) (w : World) :
    Calls Try.prog 26 #[.int .i64 n, .int .i64 16] w fun e w' => e = .returned (.tuple #[.int .i64 0, .bool false]) ∧ Below w.heap.size w w' := by
  by_cases h1 : n < 0
  · go_enter Try.func26, Try.ntmps26
    go_wp2_with fail
    refine (deep_is _ true (by decide) _).mono ?_; rintro e w1 ⟨rfl, hb1⟩
    go_wp2
    go_ret2
    exact ⟨rfl, hb1⟩
  by_cases h2 : 65535 < n
  · go_enter Try.func26, Try.ntmps26
    go_wp2_with fail
    refine (deep_is _ true (by decide) _).mono ?_; rintro e w1 ⟨rfl, hb1⟩
    go_wp2
    go_ret2
    exact ⟨rfl, hb1⟩
  exact absurd ⟨by omega, by omega, by omega⟩ h
/-
  have hq : (n % 1 != 0) = true := by rw [bne_iff_ne]; omega
  have ha : decide (n < 0) = false := by simp; omega
  have hc : decide (65535 < n) = false := by simp; omega
  clear h
  go_enter Try.func26, Try.ntmps26
  go_wp2_with fail
  refine (deep_is _ true (by decide) _).mono ?_; rintro e w1 ⟨rfl, hb1⟩
  go_wp2_with fail
  refine (step_any 16 (by decide) _).mono ?_; rintro e w' ⟨rfl, rfl⟩
  have hs : stepD 16 = 1 := by decide
  rw [hs]
  clear hs
  go_wp2
  go_ret2
  exact ⟨rfl, hb1⟩
-/
set_option maxHeartbeats 400000 in
theorem rnarrow16 (n : Int) (w : World) :
    Calls Try.prog 27 #[.int .i64 n, .int .i64 16] w fun e w' => e = .returned (.int .i64 (narr n 16)) ∧ w = w' := by
  have ht : topD 16 = 65535 := by decide
  have hyes : ∀ k : Nat, k ≤ 65535 → (k : Int) * 1 = n → narr n 16 = k := by
    intro k hk he
    unfold narr
    rw [show stepD 16 = 1 from by decide, if_pos ⟨by decide, by omega, by omega, by omega⟩]
    omega
  have hno : (∀ k : Nat, k ≤ 65535 → (k : Int) * 1 ≠ n) → narr n 16 = -1 := by
    intro hk
    unfold narr
    rw [show stepD 16 = 1 from by decide]
    split
    · rename_i hc
      exact absurd (show ((n / 1).toNat : Int) * 1 = n by omega) (hk (n / 1).toNat (by omega))
    · rfl
  have HY := Lib.hid hyes
  have HN := Lib.hid hno
  clear hyes hno
  go_enter Try.func27, Try.ntmps27
  go_wp2_with fail
  refine (rdeep_is _ true (by decide) _).mono ?_; rintro e w' ⟨rfl, rfl⟩
  go_wp2_with fail
  go_loop [5] (fun i => ∃ k : Nat, k ≤ 65535 + 1 ∧ i = .int .i64 k ∧ ∀ j : Nat, j < k → (j : Int) * 1 ≠ n) (fun i => 65535 + 1 - (intOf i).toNat)
  case atStart => exact ⟨0, Nat.zero_le _, rfl, fun j hj => by omega⟩
  case round =>
    obtain ⟨k, hk, rfl, hnot⟩ := hrel
    have HX := Lib.hid hnot
    clear hnot
    by_cases hlt : k ≤ 65535
    · by_cases he : (k : Int) * 1 = n
      · have hb : ((k : Int) * 1 == n) = true := by simpa using he
        have HE := Lib.hid he
        clear he
        go_wp2_with fail
        refine (top_any 16 (by decide) _).mono ?_; rintro e w' ⟨rfl, rfl⟩
        rw [ht]
        go_wp2_with fail
        refine (top_any 16 (by decide) _).mono ?_; rintro e w' ⟨rfl, rfl⟩
        rw [ht]
        go_wp2
        go_ret
        exact ⟨ret_int (HY.out k hlt HE.out).symm, rfl⟩
      · have hb : ((k : Int) * 1 == n) = false := by simpa using he
        have HE := Lib.hid he
        clear he
        go_wp2_with fail
        refine (top_any 16 (by decide) _).mono ?_; rintro e w' ⟨rfl, rfl⟩
        rw [ht]
        go_wp2_with fail
        refine (top_any 16 (by decide) _).mono ?_; rintro e w' ⟨rfl, rfl⟩
        rw [ht]
        go_wp2
        go_round
        case rel =>
          refine ⟨k + 1, by omega, by go_num, fun j hj => ?_⟩
          by_cases hjk : j < k
          · exact HX.out j hjk
          · obtain rfl : j = k := by omega
            exact HE.out
        case measure => simp [intOf]; omega
    · go_wp2_with fail
      refine (top_any 16 (by decide) _).mono ?_; rintro e w' ⟨rfl, rfl⟩
      rw [ht]
      go_wp2
      go_ret
      exact ⟨ret_int (HN.out (fun j hj => HX.out j (by omega))).symm, rfl⟩

theorem widen_form (n d : Int) (h : ¬ Dp d) (w : World) :
    Calls Try.prog 22 #[.int .i64 n, .int .i64 d] w fun e w' => e = .returned (.tuple #[.int .i64 0, errV 6]) ∧ Below w.heap.size w w' := by
  go_enter Try.func22, Try.ntmps22
  go_wp2_with fail
  refine (deep_is _ false (by simp [h]) _).mono ?_; rintro e w1 ⟨rfl, hb1⟩
  go_wp2
  go_ret2
  exact ⟨rfl, hb1⟩
theorem narrow_form (n d : Int) (h : ¬ Dp d) (w : World) :
    Calls Try.prog 26 #[.int .i64 n, .int .i64 d] w fun e w' => e = .returned (.tuple #[.int .i64 0, .bool false]) ∧ Below w.heap.size w w' := by
  go_enter Try.func26, Try.ntmps26
  go_wp2_with fail
  refine (deep_is _ false (by simp [h]) _).mono ?_; rintro e w1 ⟨rfl, hb1⟩
  go_wp2
  go_ret2
  exact ⟨rfl, hb1⟩
theorem rnarrow_form (n d : Int) (h : ¬ Dp d) (w : World) :
    Calls Try.prog 27 #[.int .i64 n, .int .i64 d] w fun e w' => e = .returned (.int .i64 (narr n d)) ∧ w = w' := by
  have hn : narr n d = -1 := by unfold narr; rw [if_neg (fun hc => h hc.1)]
  rw [hn]
  go_enter Try.func27, Try.ntmps27
  go_wp2_with fail
  refine (rdeep_is _ false (by simp [h]) _).mono ?_; rintro e w1 ⟨rfl, rfl⟩
  go_wp2
  go_ret
  exact ⟨rfl, rfl⟩

theorem widen_is (n d : Int) (h : Dp d) (h0 : 0 ≤ n) (h1 : n ≤ topD d) (w : World) :
    Calls Try.prog 22 #[.int .i64 n, .int .i64 d] w fun e w' => e = .returned (.tuple #[.int .i64 (n * stepD d), .nilIface]) ∧ Below w.heap.size w w' := by
  unfold Dp at h
  rcases h with rfl | rfl | rfl | rfl | rfl
  · exact widen_ok1 n h0 h1 w
  · exact widen_ok2 n h0 h1 w
  · exact widen_ok4 n h0 h1 w
  · exact widen_ok8 n h0 h1 w
  · exact widen_ok16 n h0 h1 w
theorem widen_out (n d : Int) (h : Dp d) (hb : -9223372036854775808 ≤ n ∧ n ≤ 9223372036854775807) (h1 : n < 0 ∨ topD d < n) (w : World) :
    Calls Try.prog 22 #[.int .i64 n, .int .i64 d] w fun e w' => e = .returned (.tuple #[.int .i64 0, errV 7]) ∧ Below w.heap.size w w' := by
  unfold Dp at h
  rcases h with rfl | rfl | rfl | rfl | rfl
  · exact widen_range1 n hb h1 w
  · exact widen_range2 n hb h1 w
  · exact widen_range4 n hb h1 w
  · exact widen_range8 n hb h1 w
  · exact widen_range16 n hb h1 w
/-- does a number of 16 bits come of one of a depth? -/
def Nar (n d : Int) : Prop := Dp d ∧ 0 ≤ n ∧ n ≤ 65535 ∧ n % stepD d = 0
instance (n d : Int) : Decidable (Nar n d) := by unfold Nar; infer_instance
theorem narr_yes {n d : Int} (h : Nar n d) : narr n d = n / stepD d := by unfold narr; exact if_pos h
theorem narr_no {n d : Int} (h : ¬ Nar n d) : narr n d = -1 := by unfold narr; exact if_neg h
theorem stepD_pos (d : Int) : 1 ≤ stepD d := by unfold stepD; repeat' split <;> omega
theorem narr_nonneg {n d : Int} : 0 ≤ narr n d ↔ Nar n d := by
  constructor
  · intro h
    by_cases hn : Nar n d
    · exact hn
    · rw [narr_no hn] at h; omega
  · intro h
    rw [narr_yes h]
    exact Int.ediv_nonneg h.2.1 (by have := stepD_pos d; omega)
theorem narrow_in (n d : Int) (h : Nar n d) (w : World) :
    Calls Try.prog 26 #[.int .i64 n, .int .i64 d] w fun e w' => e = .returned (.tuple #[.int .i64 (narr n d), .bool true]) ∧ Below w.heap.size w w' := by
  rw [narr_yes h]
  obtain ⟨hd, h0, h1, h2⟩ := h
  unfold Dp at hd
  rcases hd with rfl | rfl | rfl | rfl | rfl
  · exact narrow_yes1 n h0 h1 h2 w
  · exact narrow_yes2 n h0 h1 h2 w
  · exact narrow_yes4 n h0 h1 h2 w
  · exact narrow_yes8 n h0 h1 h2 w
  · exact narrow_yes16 n h0 h1 h2 w
theorem narrow_out (n d : Int) (h : ¬ Nar n d) (hb : -9223372036854775808 ≤ n ∧ n ≤ 9223372036854775807) (w : World) :
    Calls Try.prog 26 #[.int .i64 n, .int .i64 d] w fun e w' => e = .returned (.tuple #[.int .i64 0, .bool false]) ∧ Below w.heap.size w w' := by
  by_cases hd : Dp d
  · have h' : ¬ (0 ≤ n ∧ n ≤ 65535 ∧ n % stepD d = 0) := fun hc => h ⟨hd, hc⟩
    unfold Dp at hd
    rcases hd with rfl | rfl | rfl | rfl | rfl
    · exact narrow_no1 n hb h' w
    · exact narrow_no2 n hb h' w
    · exact narrow_no4 n hb h' w
    · exact narrow_no8 n hb h' w
    · exact narrow_no16 n hb h' w
  · exact narrow_form n d hd w
theorem rnarrow_any (n d : Int) (w : World) :
    Calls Try.prog 27 #[.int .i64 n, .int .i64 d] w fun e w' => e = .returned (.int .i64 (narr n d)) ∧ w = w' := by
  by_cases hd : Dp d
  · unfold Dp at hd
    rcases hd with rfl | rfl | rfl | rfl | rfl
    · exact rnarrow1 n w
    · exact rnarrow2 n w
    · exact rnarrow4 n w
    · exact rnarrow8 n w
    · exact rnarrow16 n w
  · exact rnarrow_form n d hd w
end Go.Proofs.Ytkmgojoojboidaa
