/-
  Scan: sizes, extra bits, values: the program's functions and the document's, by contracts. No condition beyond the range that each names.
-/
import Derived.Test.YtlhappecjjbopaaNum
import Derived.Test.YtlhappecjjbopaaShelf
namespace Go.Proofs.Ytlhappecjjbopaa
open Go.RowKit
set_option linter.unusedVariables false

/-! plain -/
/-- how many bits a number has -/
def bl (x : Nat) : Nat := if x = 0 then 0 else Nat.log2 x + 1
theorem bl_lt (x : Nat) : x < 2 ^ bl x := by
  unfold bl; split
  · omega
  · exact Nat.lt_log2_self
theorem bl_le {x : Nat} (h : 0 < x) : 2 ^ (bl x - 1) ≤ x := by
  unfold bl; rw [if_neg (by omega), Nat.add_sub_cancel]
  exact Nat.log2_self_le (by omega)
theorem bl_of {x s : Nat} (h1 : 2 ^ s ≤ x) (h2 : x < 2 ^ (s + 1)) : bl x = s + 1 := by
  have hx : x ≠ 0 := by have := Nat.one_le_two_pow (n := s); omega
  unfold bl; rw [if_neg hx]
  have : Nat.log2 x = s := (Nat.log2_eq_iff hx).2 ⟨h1, h2⟩
  omega
theorem bl_bd {x s : Nat} (h : x < 2 ^ s) : bl x ≤ s := by
  by_cases hx : x = 0
  · simp [bl, hx]
  · unfold bl; rw [if_neg hx]
    have := (Nat.log2_lt hx).2 h
    omega
theorem bl_shift {x k : Nat} (h : 2 ^ k ≤ x) : bl x = bl (x / 2 ^ k) + k := by
  have hp : 0 < 2 ^ k := Nat.two_pow_pos k
  have hd : 0 < x / 2 ^ k := Nat.div_pos h hp
  have h1 := bl_le hd
  have h2 := bl_lt (x / 2 ^ k)
  have hb : 1 ≤ bl (x / 2 ^ k) := by unfold bl; rw [if_neg (by omega)]; omega
  have e1 := Nat.div_add_mod x (2 ^ k)
  have e2 := Nat.mod_lt x hp
  have := bl_of (x := x) (s := bl (x / 2 ^ k) - 1 + k) (by
    rw [Nat.pow_add]
    calc 2 ^ (bl (x / 2 ^ k) - 1) * 2 ^ k ≤ (x / 2 ^ k) * 2 ^ k := Nat.mul_le_mul_right _ h1
      _ ≤ x := Nat.div_mul_le_self _ _) (by
    have h3 : x / 2 ^ k + 1 ≤ 2 ^ bl (x / 2 ^ k) := h2
    have h4 := Nat.mul_le_mul_right (2 ^ k) h3
    rw [← Nat.pow_add] at h4
    rw [show bl (x / 2 ^ k) - 1 + k + 1 = bl (x / 2 ^ k) + k by omega]
    rw [Nat.add_mul, Nat.one_mul, Nat.mul_comm] at h4
    omega)
  omega
theorem bl_half {x : Nat} (h : x ≠ 0) : bl x = 1 + bl (x / 2) := by
  by_cases h1 : x = 1
  · subst h1; rfl
  · have := bl_shift (x := x) (k := 1) (by omega)
    simpa [Nat.add_comm] using this
theorem bitLenAux_bl : ∀ (f x : Nat), x < 2 ^ f → Lib.bitLenAux f x = bl x
  | 0, x, h => by have : x = 0 := by simpa using h
                  subst this; rfl
  | f + 1, x, h => by
    unfold Lib.bitLenAux
    by_cases h0 : x = 0
    · subst h0; rfl
    · rw [if_neg h0, bl_half h0, bitLenAux_bl f (x / 2) (by rw [Nat.pow_succ] at h; omega)]

theorem len_any (x : Nat) (hx : x ≤ 65535) (w : World) : Calls Try.prog 101 #[.int .u64 x] w fun e w' => e = .returned (.int .i64 (bl x)) ∧ w = w' :=
  (Try.bits_Len x w (by omega) (by omega)).mono fun e w' ⟨he, hw⟩ => ⟨by
    rw [he, Int.toNat_natCast]
    unfold Lib.bitLen
    rw [bitLenAux_bl 64 x (by omega)], hw.symm⟩

/-- a number's size, its extra bits; the number of a size and extra bits -/
def szN (n : Int) : Nat := if n < -32767 ∨ 32767 < n then 0 else bl n.natAbs
def exZ (n : Int) : Int := if n < -32767 ∨ 32767 < n then 0 else if n < 0 then n + 2 ^ szN n - 1 else n
def vaZ (e s : Int) : Int := if s < 1 ∨ 15 < s ∨ e < 0 ∨ 2 ^ s.toNat ≤ e then 0 else if e < 2 ^ (s.toNat - 1) then e - 2 ^ s.toNat + 1 else e
theorem szN_bd (n : Int) : szN n ≤ 15 := by
  unfold szN; split
  · omega
  · exact bl_bd (by omega)

set_option maxRecDepth 100000 in
theorem size_any (n : Int) (w : World) : Calls Try.prog 38 #[.int .i64 n] w fun e w' => e = .returned (.int .i64 (szN n)) ∧ w = w' := by
  by_cases h : n < -32767 ∨ 32767 < n
  · have hs : szN n = 0 := by unfold szN; exact if_pos h
    rw [hs]
    rcases h with h | h
    · go_enter Try.func38, Try.ntmps38
      go_wp2
      go_ret
      exact ⟨ret_int (by simp), rfl⟩
    · have h2 : ¬ n < -32767 := by omega
      go_enter Try.func38, Try.ntmps38
      go_wp2
      go_ret
      exact ⟨ret_int (by simp), rfl⟩
  · have hs : szN n = bl n.natAbs := by unfold szN; exact if_neg h
    rw [hs]
    have h1 : -32767 ≤ n := by omega
    have h2 : n ≤ 32767 := by omega
    clear h hs
    go_enter Try.func38, Try.ntmps38
    by_cases h0 : 0 ≤ n
    · obtain ⟨m, rfl⟩ := Int.eq_ofNat_of_zero_le h0
      go_wp2_with fail
      rw [show max (m : Int) (-(m : Int)) = m by omega]
      refine (len_any m (by omega) _).mono ?_; rintro e w' ⟨rfl, rfl⟩
      go_wp2
      go_ret
      exact ⟨ret_int (by simp), rfl⟩
    · obtain ⟨m, hm⟩ := Int.eq_ofNat_of_zero_le (show 0 ≤ -n by omega)
      have hn : n.natAbs = m := by omega
      have HN := Lib.hid hn
      obtain rfl : n = -(m : Int) := by omega
      clear hm hn
      go_wp2_with fail
      rw [show max (-(m : Int)) m = m by omega]
      refine (len_any m (by omega) _).mono ?_; rintro e w' ⟨rfl, rfl⟩
      go_wp2
      go_ret
      exact ⟨ret_int (by rw [HN.out]), rfl⟩

theorem szN_zero {n : Int} (h1 : -32767 ≤ n) (h2 : n ≤ 32767) : szN n = 0 ↔ n = 0 := by
  unfold szN; rw [if_neg (by omega)]
  constructor
  · intro h
    unfold bl at h
    by_cases h0 : n.natAbs = 0
    · omega
    · rw [if_neg h0] at h; omega
  · intro h; subst h; rfl
theorem szN_lt {n : Int} (h1 : -32767 ≤ n) (h2 : n ≤ 32767) : n.natAbs < 2 ^ szN n := by
  unfold szN; rw [if_neg (by omega)]; exact bl_lt _
theorem pow_le15 {s : Nat} (h : s ≤ 16) : (2 : Int) ^ s ≤ 65536 ∧ 1 ≤ (2 : Int) ^ s := by
  have h1 : 2 ^ s ≤ 65536 := Nat.le_trans (Nat.pow_le_pow_right (by omega) h) (by decide)
  have h2 := Nat.one_le_two_pow (n := s)
  have : ((2 ^ s : Nat) : Int) = (2 : Int) ^ s := by simp
  omega

theorem extra_any (n : Int) (hn : -9223372036854775808 ≤ n ∧ n ≤ 9223372036854775807) (w : World) : Calls Try.prog 39 #[.int .i64 n] w fun e w' => e = .returned (.int .i64 (exZ n)) ∧ w = w' := by
  have hsb := szN_bd n
  have hp := pow_le15 (s := szN n) (by omega)
  by_cases h : n < -32767 ∨ 32767 < n
  · have hs : szN n = 0 := by unfold szN; exact if_pos h
    have he : exZ n = 0 := by unfold exZ; exact if_pos h
    rw [he]
    clear h
    go_enter Try.func39, Try.ntmps39
    go_wp2_with fail
    refine (size_any n _).mono ?_; rintro e w' ⟨rfl, rfl⟩
    rw [hs]
    go_wp2_with fail
    refine (size_any n _).mono ?_; rintro e w' ⟨rfl, rfl⟩
    rw [hs]
    go_wp2
    go_ret
    exact ⟨rfl, rfl⟩
  · have hz := szN_zero (n := n) (by omega) (by omega)
    by_cases h0 : n < 0
    · have he : exZ n = n + 2 ^ szN n - 1 := by unfold exZ; rw [if_neg h, if_pos h0]
      rw [he]
      have hpos : 0 < szN n := by
        rcases Nat.eq_zero_or_pos (szN n) with h1 | h1
        · have := hz.1 h1; omega
        · exact h1
      clear he hz
      have h1 : -32767 ≤ n := by omega
      clear h
      generalize hse : szN n = s at *
      have HS := Lib.hid hse
      clear hse
      go_enter Try.func39, Try.ntmps39
      go_wp2_with fail
      refine (size_any n _).mono ?_; rintro e w' ⟨rfl, rfl⟩
      rw [HS.out]
      go_wp2_with fail
      refine (size_any n _).mono ?_; rintro e w' ⟨rfl, rfl⟩
      rw [HS.out]
      go_wp2
      go_ret
      exact ⟨rfl, rfl⟩
    · have he : exZ n = n := by unfold exZ; rw [if_neg h, if_neg h0]
      rw [he]
      have h1 : n ≤ 32767 := by omega
      have h2 : 0 ≤ n := by omega
      clear h he h0
      generalize hse : szN n = s at *
      have HS := Lib.hid hse
      clear hse
      by_cases hn0 : n = 0
      · have hs0 : s = 0 := hz.2 hn0
        subst hs0 hn0
        clear hz
        go_enter Try.func39, Try.ntmps39
        go_wp2_with fail
        refine (size_any 0 _).mono ?_; rintro e w' ⟨rfl, rfl⟩
        rw [HS.out]
        go_wp2_with fail
        refine (size_any 0 _).mono ?_; rintro e w' ⟨rfl, rfl⟩
        rw [HS.out]
        go_wp2
        go_ret
        exact ⟨rfl, rfl⟩
      · have hs1 : 0 < s := by
          rcases Nat.eq_zero_or_pos s with h3 | h3
          · exact absurd (hz.1 h3) hn0
          · exact h3
        clear hz
        go_enter Try.func39, Try.ntmps39
        go_wp2_with fail
        refine (size_any n _).mono ?_; rintro e w' ⟨rfl, rfl⟩
        rw [HS.out]
        go_wp2_with fail
        refine (size_any n _).mono ?_; rintro e w' ⟨rfl, rfl⟩
        rw [HS.out]
        go_wp2
        go_ret
        exact ⟨rfl, rfl⟩

theorem value_any (e s : Int) (he : -9223372036854775808 ≤ e ∧ e ≤ 9223372036854775807) (w : World) : Calls Try.prog 40 #[.int .i64 e, .int .i64 s] w fun e' w' => e' = .returned (.int .i64 (vaZ e s)) ∧ w = w' := by
  by_cases h1 : s < 1
  · have hv : vaZ e s = 0 := by unfold vaZ; rw [if_pos (by omega)]
    rw [hv]
    clear hv
    go_enter Try.func40, Try.ntmps40
    go_wp2
    go_ret
    exact ⟨rfl, rfl⟩
  by_cases h2 : 15 < s
  · have hv : vaZ e s = 0 := by unfold vaZ; rw [if_pos (by omega)]
    rw [hv]
    clear hv
    go_enter Try.func40, Try.ntmps40
    go_wp2
    go_ret
    exact ⟨rfl, rfl⟩
  by_cases h3 : e < 0
  · have hv : vaZ e s = 0 := by unfold vaZ; rw [if_pos (by omega)]
    rw [hv]
    clear hv
    go_enter Try.func40, Try.ntmps40
    go_wp2
    go_ret
    exact ⟨rfl, rfl⟩
  obtain ⟨S, rfl⟩ := Int.eq_ofNat_of_zero_le (show 0 ≤ s by omega)
  obtain ⟨t, rfl⟩ : ∃ t, S = t + 1 := ⟨S - 1, by omega⟩
  have hp1 := pow_le15 (s := t + 1) (by omega)
  have hp0 := pow_le15 (s := t) (by omega)
  have hpp : (2 : Int) ^ (t + 1) = 2 * 2 ^ t := by rw [Int.pow_succ, Int.mul_comm]
  by_cases h4 : (2 : Int) ^ (t + 1) ≤ e
  · have hv : vaZ e (t + 1 : Nat) = 0 := by unfold vaZ; rw [if_pos (by right; right; right; simpa using h4)]
    rw [hv]
    have hq : (e / 2 ^ (t + 1) != 0) = true := by
      rw [bne_iff_ne]
      have := Int.le_ediv_of_mul_le (a := 1) (b := e) (c := 2 ^ (t + 1)) (by omega) (by omega)
      omega
    clear hv hpp h4
    go_enter Try.func40, Try.ntmps40
    go_wp2
    go_ret
    exact ⟨rfl, rfl⟩
  · have hq : (e / 2 ^ (t + 1) != 0) = false := by
      rw [bne_eq_false_iff_eq]
      exact Int.ediv_eq_zero_of_lt (by omega) (by omega)
    by_cases h5 : e < (2 : Int) ^ t
    · have hv : vaZ e (t + 1 : Nat) = e - 2 ^ (t + 1) + 1 := by
        unfold vaZ; rw [if_neg (by simp; omega), if_pos (by simpa using h5)]; simp
      rw [hv]
      have hq2 : (e / 2 ^ t == 0) = true := by rw [beq_iff_eq]; exact Int.ediv_eq_zero_of_lt (by omega) (by omega)
      clear hv hpp
      go_enter Try.func40, Try.ntmps40
      go_wp2
      go_ret
      exact ⟨rfl, rfl⟩
    · have hv : vaZ e (t + 1 : Nat) = e := by
        unfold vaZ; rw [if_neg (by simp; omega), if_neg (by simpa using h5)]
      rw [hv]
      have hq2 : (e / 2 ^ t == 0) = false := by
        rw [beq_eq_false_iff_ne]
        have := Int.le_ediv_of_mul_le (a := 1) (b := e) (c := 2 ^ t) (by omega) (by omega)
        omega
      clear hv hpp
      go_enter Try.func40, Try.ntmps40
      go_wp2
      go_ret
      exact ⟨rfl, rfl⟩
end Go.Proofs.Ytlhappecjjbopaa
