/-
  Prog: the document's Tell and Good, by contracts. No condition beyond the range that each names.
-/
import Derived.Test.YtlhappecjjbopaaPrA
namespace Go.Proofs.Ytlhappecjjbopaa
open Go.RowKit
set_option linter.unusedVariables false

theorem power22_any (n : Nat) (hn : n ≤ 60) (w : World) : Calls Try.prog 122 #[.int .i64 n] w fun e w' => e = .returned (.int .i64 (2 ^ n)) ∧ w = w' := by
  go_enter Try.func122, Try.ntmps122
  go_wp2_with fail
  go_loop [3, 4] (fun x i => ∃ k : Nat, k ≤ n ∧ i = .int .i64 k ∧ x = .int .i64 (2 ^ k : Nat)) (fun _ i => n - (intOf i).toNat)
  case atStart => exact ⟨0, Nat.zero_le _, rfl, rfl⟩
  case round =>
    obtain ⟨k, hk, rfl, rfl⟩ := hrel
    have hle : 2 ^ k ≤ 2 ^ 60 := Nat.pow_le_pow_right (by omega) (show k ≤ 60 by omega)
    rw [show 2 ^ 60 = 1152921504606846976 from rfl] at hle
    have hpos : 1 ≤ 2 ^ k := Nat.one_le_two_pow
    have hs : 2 ^ (k + 1) = 2 * 2 ^ k := by rw [Nat.pow_succ, Nat.mul_comm]
    have HS := Lib.hid hs
    clear hs
    generalize hP : 2 ^ k = P at *
    have HP := Lib.hid hP
    clear hP
    by_cases hlt : k < n
    · go_wp2
      go_round
      case rel => exact ⟨k + 1, by omega, by go_num, by rw [HS.out]; go_num⟩
      case measure => simp [intOf]; omega
    · go_wp2
      go_ret
      exact ⟨ret_int (by obtain rfl : k = n := by omega
                         rw [← HP.out]; simp), rfl⟩


theorem rtell_any (n low : Int) (dc : Bool) (hn : -4611686018427387904 ≤ n ∧ n ≤ 4611686018427387904) (w : World) : Calls Try.prog 91 #[.int .i64 n, .int .i64 low, .bool dc] w fun e w' => e = .returned (.int .i64 (tl n low dc)) ∧ w = w' := by
  by_cases h1 : low < 0
  · have ht : tl n low dc = 0 := by unfold tl; rw [if_pos (.inl h1)]
    rw [ht]
    go_enter Try.func91, Try.ntmps91
    go_wp2
    go_ret
    exact ⟨rfl, rfl⟩
  by_cases h2 : 9 < low
  · have ht : tl n low dc = 0 := by unfold tl; rw [if_pos (.inr h2)]
    rw [ht]
    go_enter Try.func91, Try.ntmps91
    go_wp2
    go_ret
    exact ⟨rfl, rfl⟩
  obtain ⟨L, rfl⟩ := Int.eq_ofNat_of_zero_le (show 0 ≤ low by omega)
  have hnat : 2 ^ L ≤ 2 ^ 9 := Nat.pow_le_pow_right (by omega) (show L ≤ 9 by omega)
  have hnat1 := Nat.one_le_two_pow (n := L)
  have hcast : ((2 ^ L : Nat) : Int) = (2 : Int) ^ L := by simp
  have hp1 : 1 ≤ (2 : Int) ^ L ∧ (2 : Int) ^ L ≤ 512 := by omega
  clear hnat hnat1 hcast
  have ht1 : tl n L true = n / 2 ^ L := by unfold tl; rw [if_neg (by omega), if_pos (.inl rfl), Int.toNat_natCast]
  have ht2 : tl n L false = if 0 ≤ n then n / 2 ^ L else -((-n) / 2 ^ L) := by
    unfold tl; rw [if_neg (by omega), Int.toNat_natCast]
    by_cases h0 : 0 ≤ n
    · rw [if_pos (.inr h0), if_pos h0]
    · rw [if_neg (by simp; omega), if_neg h0]
  rw [← tl_dc (by omega)] at ht1
  rw [← tl_ac (by omega)] at ht2
  have H1 := Lib.hid ht1
  have H2 := Lib.hid ht2
  clear ht1 ht2
  have hr1 : -(2 : Int) ^ L < n.tmod (2 ^ L) := by
    have := Int.tmod_lt_of_pos (-n) (show (0 : Int) < 2 ^ L by omega)
    rw [Int.neg_tmod] at this; omega
  have hr2 : n.tmod (2 ^ L) < (2 : Int) ^ L := Int.tmod_lt_of_pos n (by omega)
  go_enter Try.func91, Try.ntmps91
  go_wp2_with fail
  refine (power22_any L (by omega) w).mono ?_; rintro e w' ⟨rfl, rfl⟩
  generalize (2 : Int) ^ L = P at *
  have hpn : (P == 0) = false := by simp; omega
  have hpm : (P == -1) = false := by simp; omega
  cases dc with
  | true =>
    by_cases hneg : n.tmod P < 0
    · rw [if_pos hneg] at H1
      go_wp2
      go_ret
      exact ⟨ret_int (by rw [H1.out]), rfl⟩
    · rw [if_neg hneg] at H1
      go_wp2
      go_ret
      exact ⟨ret_int (by rw [H1.out]), rfl⟩
  | false =>
    go_wp2
    go_ret
    exact ⟨ret_int (by rw [H2.out]), rfl⟩

set_option maxRecDepth 100000 in
set_option maxHeartbeats 1000000 in
theorem rgood_any (f t h l : Int) (b : Bool) (hgood : Gd f t h l → b = true) (hbad : ¬ Gd f t h l → b = false) (w : World) : Calls Try.prog 72 #[.agg #[.int .i64 f, .int .i64 t, .int .i64 h, .int .i64 l]] w fun e w' => e = .returned (.bool b) ∧ Below w.heap.size w w' := by
  have HB := Lib.hid hbad
  have HG := Lib.hid hgood
  clear hbad hgood
  go_enter Try.func72, Try.ntmps72
  by_cases h1 : l < 0
  · go_wp2
    go_ret
    exact ⟨ret_bool (by first | exact (HB.out (by unfold Gd; omega)).symm | (rw [HB.out (by unfold Gd; omega)]; simp; omega)), by go_grown⟩
  by_cases h2 : 9 < l
  · go_wp2
    go_ret
    exact ⟨ret_bool (by first | exact (HB.out (by unfold Gd; omega)).symm | (rw [HB.out (by unfold Gd; omega)]; simp; omega)), by go_grown⟩
  by_cases h3 : h = 0
  · have d1 : (h != 0) = false := by simpa using h3
    have h3' : 0 ≤ h ∧ h ≤ 0 := by omega
    clear h3
    by_cases h4 : f = 0
    · have e1 : (f == 0) = true := by simpa using h4
      by_cases h5 : t = 0
      · have e2 : (t == 0) = true := by simpa using h5
        have h4' : 0 ≤ f ∧ f ≤ 0 := by omega
        have h5' : 0 ≤ t ∧ t ≤ 0 := by omega
        clear h4 h5
        go_wp2
        go_ret
        exact ⟨ret_bool (by first | exact (HG.out (by unfold Gd; omega)).symm | (rw [HG.out (by unfold Gd; omega)]; simp; omega)), by go_grown⟩
      · have e2 : (t == 0) = false := by simpa using h5
        have h4' : 0 ≤ f ∧ f ≤ 0 := by omega
        clear h4
        go_wp2
        go_ret
        exact ⟨ret_bool (by first | exact (HB.out (by unfold Gd; omega)).symm | (rw [HB.out (by unfold Gd; omega)]; simp; omega)), by go_grown⟩
    · have e1 : (f == 0) = false := by simpa using h4
      by_cases h6 : f < 1
      · go_wp2
        go_ret
        exact ⟨ret_bool (by first | exact (HB.out (by unfold Gd; omega)).symm | (rw [HB.out (by unfold Gd; omega)]; simp; omega)), by go_grown⟩
      by_cases h7 : t < f
      · go_wp2
        go_ret
        exact ⟨ret_bool (by first | exact (HB.out (by unfold Gd; omega)).symm | (rw [HB.out (by unfold Gd; omega)]; simp; omega)), by go_grown⟩
      by_cases h8 : 63 < t
      · go_wp2
        go_ret
        exact ⟨ret_bool (by first | exact (HB.out (by unfold Gd; omega)).symm | (rw [HB.out (by unfold Gd; omega)]; simp; omega)), by go_grown⟩
      go_wp2
      go_ret
      exact ⟨ret_bool (by first | exact (HG.out (by unfold Gd; omega)).symm | (rw [HG.out (by unfold Gd; omega)]; simp; omega)), by go_grown⟩
  · have d1 : (h != 0) = true := by simpa using h3
    by_cases h9 : h = l + 1
    · have d2 : (h != l + 1) = false := by simpa using h9
      have h9' : l + 1 ≤ h ∧ h ≤ l + 1 := by omega
      clear h9
      by_cases h4 : f = 0
      · have e1 : (f == 0) = true := by simpa using h4
        by_cases h5 : t = 0
        · have e2 : (t == 0) = true := by simpa using h5
          have h4' : 0 ≤ f ∧ f ≤ 0 := by omega
          have h5' : 0 ≤ t ∧ t ≤ 0 := by omega
          clear h4 h5
          go_wp2
          go_ret
          exact ⟨ret_bool (by first | exact (HG.out (by unfold Gd; omega)).symm | (rw [HG.out (by unfold Gd; omega)]; simp; omega)), by go_grown⟩
        · have e2 : (t == 0) = false := by simpa using h5
          have h4' : 0 ≤ f ∧ f ≤ 0 := by omega
          clear h4
          go_wp2
          go_ret
          exact ⟨ret_bool (by first | exact (HB.out (by unfold Gd; omega)).symm | (rw [HB.out (by unfold Gd; omega)]; simp; omega)), by go_grown⟩
      · have e1 : (f == 0) = false := by simpa using h4
        by_cases h6 : f < 1
        · go_wp2
          go_ret
          exact ⟨ret_bool (by first | exact (HB.out (by unfold Gd; omega)).symm | (rw [HB.out (by unfold Gd; omega)]; simp; omega)), by go_grown⟩
        by_cases h7 : t < f
        · go_wp2
          go_ret
          exact ⟨ret_bool (by first | exact (HB.out (by unfold Gd; omega)).symm | (rw [HB.out (by unfold Gd; omega)]; simp; omega)), by go_grown⟩
        by_cases h8 : 63 < t
        · go_wp2
          go_ret
          exact ⟨ret_bool (by first | exact (HB.out (by unfold Gd; omega)).symm | (rw [HB.out (by unfold Gd; omega)]; simp; omega)), by go_grown⟩
        go_wp2
        go_ret
        exact ⟨ret_bool (by first | exact (HG.out (by unfold Gd; omega)).symm | (rw [HG.out (by unfold Gd; omega)]; simp; omega)), by go_grown⟩
    · have d2 : (h != l + 1) = true := by simpa using h9
      go_wp2
      go_ret
      exact ⟨ret_bool (by first | exact (HB.out (by unfold Gd; omega)).symm | (rw [HB.out (by unfold Gd; omega)]; simp; omega)), by go_grown⟩
end Go.Proofs.Ytlhappecjjbopaa
