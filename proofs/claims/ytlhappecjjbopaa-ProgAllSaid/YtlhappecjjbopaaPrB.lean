/-
  Prog: what a number tells from a bit on; which bands are in form: the program's functions and the document's, by contracts. No condition beyond the range that each names.
  Prog: the document's Tell and Good, by contracts. No condition beyond the range that each names.
-/
import Derived.Test.YtlhappecjjbopaaNum
namespace Go.Proofs.Ytlhappecjjbopaa
section
open Go.RowKit
set_option linter.unusedVariables false

/-! plain -/
/-- what a number tells from a bit on -/
def tl (n low : Int) (dc : Bool) : Int := if low < 0 ∨ 9 < low then 0 else if dc = true ∨ 0 ≤ n then n / 2 ^ low.toNat else -((-n) / 2 ^ low.toNat)
theorem tl_dc {n p : Int} (hp : 0 < p) : (n - (if n.tmod p < 0 then n.tmod p + p else n.tmod p)).tdiv p = n / p := by
  have h1 : (if n.tmod p < 0 then n.tmod p + p else n.tmod p) = n % p := by
    by_cases hn : 0 ≤ n
    · rw [Int.tmod_eq_emod_of_nonneg hn, if_neg (by have := Int.emod_nonneg n (show p ≠ 0 by omega); omega)]
    · have h2 := Int.tmod_add_mul_tdiv n p
      have h3 := Int.emod_add_mul_ediv n p
      have h4 := Int.emod_nonneg n (show p ≠ 0 by omega)
      have h5 := Int.emod_lt_of_pos n hp
      have h6 : n.tmod p ≤ 0 := by
        have := Int.tmod_nonneg (a := -n) p (by omega)
        rw [Int.neg_tmod] at this; omega
      have h7 : -p < n.tmod p := by
        have := Int.tmod_lt_of_pos (-n) hp
        rw [Int.neg_tmod] at this; omega
      have h8 : (n.tmod p) % p = n % p := by
        rw [← Int.add_mul_emod_self_left (n.tmod p) p (n.tdiv p), h2]
      by_cases h9 : n.tmod p < 0
      · rw [if_pos h9, ← h8, ← Int.add_emod_right, Int.emod_eq_of_lt (by omega) (by omega)]
      · rw [if_neg h9, ← h8, Int.emod_eq_of_lt (by omega) (by omega)]
  rw [h1]
  have h3 := Int.emod_add_mul_ediv n p
  rw [show n - n % p = p * (n / p) by omega, Int.mul_tdiv_cancel_left _ (by omega)]
theorem tl_ac {n p : Int} (hp : 0 < p) : (n - n.tmod p).tdiv p = if 0 ≤ n then n / p else -((-n) / p) := by
  have h2 := Int.tmod_add_mul_tdiv n p
  rw [show n - n.tmod p = p * n.tdiv p by omega, Int.mul_tdiv_cancel_left _ (by omega)]
  split
  · rename_i h; exact Int.tdiv_eq_ediv_of_nonneg h
  · rename_i h
    rw [← Int.tdiv_eq_ediv_of_nonneg (show 0 ≤ -n by omega), Int.neg_tdiv, Int.neg_neg]

/-! a struct of four cells in a box of the call's own -/
structure Box4 (w : World) (g : Nat) (a b c d : Value) : Prop where
  lt : g < w.heap.size
  c0 : w.cell? ⟨g, 0, none⟩ = some a
  c1 : w.cell? ⟨g, 1, none⟩ = some b
  c2 : w.cell? ⟨g, 2, none⟩ = some c
  c3 : w.cell? ⟨g, 3, none⟩ = some d
theorem Box4.new (w : World) (t : TypeId) (a b c d : Value) : Box4 (w.alloc (.cells #[a, b, c, d] t)) w.heap.size a b c d :=
  ⟨by simp, by rw [World.cell?_alloc_at _ _ _ _ rfl]; rfl, by rw [World.cell?_alloc_at _ _ _ _ rfl]; rfl, by rw [World.cell?_alloc_at _ _ _ _ rfl]; rfl, by rw [World.cell?_alloc_at _ _ _ _ rfl]; rfl⟩
theorem Box4.below {w w' : World} {g B : Nat} {a b c d : Value} (h : Box4 w g a b c d) (hb : Below B w w') (hB : g < B) : Box4 w' g a b c d :=
  ⟨Nat.lt_of_lt_of_le h.lt hb.size, (hb.cell (p := ⟨g, 0, none⟩) hB).trans h.c0, (hb.cell (p := ⟨g, 1, none⟩) hB).trans h.c1, (hb.cell (p := ⟨g, 2, none⟩) hB).trans h.c2, (hb.cell (p := ⟨g, 3, none⟩) hB).trans h.c3⟩

/-- a band as a value; is it in form? -/
def bnd (f t h l : Int) : Value := .agg #[.int .i64 f, .int .i64 t, .int .i64 h, .int .i64 l]
def Gd (f t h l : Int) : Prop := (0 ≤ l ∧ l ≤ 9 ∧ (h = 0 ∨ h = l + 1)) ∧ (f = 0 ∧ t = 0 ∨ 1 ≤ f ∧ f ≤ t ∧ t ≤ 63)
instance (f t h l : Int) : Decidable (Gd f t h l) := by unfold Gd; infer_instance

theorem dc_any (f t h l : Int) (w : World) : Calls Try.prog 115 #[.agg #[.int .i64 f, .int .i64 t, .int .i64 h, .int .i64 l]] w fun e w' => e = .returned (.bool (decide (f = 0))) ∧ Below w.heap.size w w' := by
  go_enter Try.func115, Try.ntmps115
  go_wp2
  go_ret
  exact ⟨ret_bool (by first | rfl | (rw [Bool.eq_iff_iff]; simp)), by go_grown⟩
theorem finer_any (f t h l : Int) (w : World) : Calls Try.prog 117 #[.agg #[.int .i64 f, .int .i64 t, .int .i64 h, .int .i64 l]] w fun e w' => e = .returned (.bool (decide (0 < h))) ∧ Below w.heap.size w w' := by
  go_enter Try.func117, Try.ntmps117
  go_wp2
  go_ret
  exact ⟨ret_bool (by first | rfl | (rw [Bool.eq_iff_iff]; simp)), by go_grown⟩

theorem tell_any (n low : Int) (dc : Bool) (hn : -4611686018427387904 ≤ n ∧ n ≤ 4611686018427387904) (w : World) : Calls Try.prog 96 #[.int .i64 n, .int .i64 low, .bool dc] w fun e w' => e = .returned (.int .i64 (tl n low dc)) ∧ w = w' := by
  by_cases h1 : low < 0
  · have ht : tl n low dc = 0 := by unfold tl; rw [if_pos (.inl h1)]
    rw [ht]
    go_enter Try.func96, Try.ntmps96
    go_wp2
    go_ret
    exact ⟨rfl, rfl⟩
  by_cases h2 : 9 < low
  · have ht : tl n low dc = 0 := by unfold tl; rw [if_pos (.inr h2)]
    rw [ht]
    go_enter Try.func96, Try.ntmps96
    go_wp2
    go_ret
    exact ⟨rfl, rfl⟩
  obtain ⟨L, rfl⟩ := Int.eq_ofNat_of_zero_le (show 0 ≤ low by omega)
  have hp1 : 1 ≤ (2 : Int) ^ L := by have := Nat.one_le_two_pow (n := L); have h3 : ((2 ^ L : Nat) : Int) = (2 : Int) ^ L := by simp
                                     omega
  cases dc with
  | true =>
    have ht : tl n L true = n / 2 ^ L := by unfold tl; rw [if_neg (by omega), if_pos (.inl rfl), Int.toNat_natCast]
    rw [ht]
    clear ht
    go_enter Try.func96, Try.ntmps96
    go_wp2
    go_ret
    exact ⟨rfl, rfl⟩
  | false =>
    by_cases h0 : 0 ≤ n
    · have ht : tl n L false = n / 2 ^ L := by unfold tl; rw [if_neg (by omega), if_pos (.inr h0), Int.toNat_natCast]
      rw [ht]
      clear ht
      go_enter Try.func96, Try.ntmps96
      go_wp2
      go_ret
      exact ⟨rfl, rfl⟩
    · have ht : tl n L false = -((-n) / 2 ^ L) := by unfold tl; rw [if_neg (by omega), if_neg (by simp; omega), Int.toNat_natCast]
      rw [ht]
      have hq1 : 0 ≤ (-n) / (2 : Int) ^ L := Int.ediv_nonneg (by omega) (by omega)
      have hq2 : (-n) / (2 : Int) ^ L ≤ -n := Int.ediv_le_self _ (by omega)
      clear ht
      go_enter Try.func96, Try.ntmps96
      go_wp2
      go_ret
      exact ⟨rfl, rfl⟩

set_option maxRecDepth 100000 in
set_option maxHeartbeats 1000000 in
theorem bcheck_any (f t h l : Int) (v : Value) (hgood : Gd f t h l → v = .nilIface) (hbad : ¬ Gd f t h l → v = .iface 53 (.int .i64 6)) (w : World) : Calls Try.prog 97 #[.agg #[.int .i64 f, .int .i64 t, .int .i64 h, .int .i64 l]] w fun e w' => e = .returned v ∧ Below w.heap.size w w' := by
  have X := Box4.new w 107 (.int .i64 f) (.int .i64 t) (.int .i64 h) (.int .i64 l)
  have hb0 : Below w.heap.size w (w.alloc (.cells #[.int .i64 f, .int .i64 t, .int .i64 h, .int .i64 l] 107)) := (Below.refl _ _).alloc (Nat.le_refl _) _
  have HBAD := Lib.hid hbad
  have HGD := Lib.hid hgood
  clear hbad hgood
  go_enter Try.func97, Try.ntmps97
  by_cases h1 : f < 0
  · go_wp2
    go_ret
    exact ⟨by rw [HBAD.out (by unfold Gd; omega)]; rfl, by go_grown⟩
  by_cases h2 : t < f
  · go_wp2
    go_ret
    exact ⟨by rw [HBAD.out (by unfold Gd; omega)]; rfl, by go_grown⟩
  by_cases h3 : 63 < t
  · go_wp2
    go_ret
    exact ⟨by rw [HBAD.out (by unfold Gd; omega)]; rfl, by go_grown⟩
  go_wp2_with fail
  generalize w.alloc (.cells #[.int .i64 f, .int .i64 t, .int .i64 h, .int .i64 l] 107) = w0 at *
  refine (dc_any f t h l w0).mono ?_; rintro e w1 ⟨rfl, hb1⟩
  have X1 := X.below hb1 X.lt
  have hb1' := hb0.trans (hb1.mono hb0.size)
  obtain ⟨_, x0, x1, x2, x3⟩ := id X1
  by_cases h4 : f = 0
  · have hd : decide (f = 0) = true := by simpa using h4
    have H4 := Lib.hid h4
    by_cases h5 : 0 < t
    · have hle : f ≤ 0 := by omega
      clear h4
      go_wp2
      go_ret
      exact ⟨by rw [HBAD.out (by have := H4.out; unfold Gd; omega)]; rfl, hb1'⟩
    have hle : 0 ≤ f ∧ f ≤ 0 := by omega
    clear h4
    by_cases hl1 : l < 0
    · go_wp2
      go_ret
      exact ⟨by rw [HBAD.out (by unfold Gd; omega)]; rfl, hb1'⟩
    by_cases hl2 : 9 < l
    · go_wp2
      go_ret
      exact ⟨by rw [HBAD.out (by unfold Gd; omega)]; rfl, hb1'⟩
    go_wp2_with fail
    refine (finer_any f t h l w1).mono ?_; rintro e w2 ⟨rfl, hb2⟩
    have X2 := X1.below hb2 X1.lt
    have hb2' := hb1'.trans (hb2.mono hb1'.size)
    clear x0 x1 x2 x3
    obtain ⟨_, x0, x1, x2, x3⟩ := id X2
    by_cases hh : 0 < h
    · have hd2 : decide (0 < h) = true := by simp; omega
      by_cases hq : h = l + 1
      · have hd3 : (h != l + 1) = false := by simpa using hq
        have HQ := Lib.hid hq
        clear hq
        go_wp2
        go_ret
        exact ⟨by rw [HGD.out (by have := HQ.out; unfold Gd; omega)]; rfl, hb2'⟩
      · have hd3 : (h != l + 1) = true := by simpa using hq
        go_wp2
        go_ret
        exact ⟨by rw [HBAD.out (by unfold Gd; omega)]; rfl, hb2'⟩
    · have hd2 : decide (0 < h) = false := by simp; omega
      by_cases hq : h < 0
      · go_wp2
        go_ret
        exact ⟨by rw [HBAD.out (by unfold Gd; omega)]; rfl, hb2'⟩
      · go_wp2
        go_ret
        exact ⟨by rw [HGD.out (by unfold Gd; omega)]; rfl, hb2'⟩
  · have hd : decide (f = 0) = false := by simpa using h4
    by_cases hl1 : l < 0
    · go_wp2
      go_ret
      exact ⟨by rw [HBAD.out (by unfold Gd; omega)]; rfl, hb1'⟩
    by_cases hl2 : 9 < l
    · go_wp2
      go_ret
      exact ⟨by rw [HBAD.out (by unfold Gd; omega)]; rfl, hb1'⟩
    go_wp2_with fail
    refine (finer_any f t h l w1).mono ?_; rintro e w2 ⟨rfl, hb2⟩
    have X2 := X1.below hb2 X1.lt
    have hb2' := hb1'.trans (hb2.mono hb1'.size)
    clear x0 x1 x2 x3
    obtain ⟨_, x0, x1, x2, x3⟩ := id X2
    by_cases hh : 0 < h
    · have hd2 : decide (0 < h) = true := by simp; omega
      by_cases hq : h = l + 1
      · have hd3 : (h != l + 1) = false := by simpa using hq
        have HQ := Lib.hid hq
        clear hq
        go_wp2
        go_ret
        exact ⟨by rw [HGD.out (by have := HQ.out; unfold Gd; omega)]; rfl, hb2'⟩
      · have hd3 : (h != l + 1) = true := by simpa using hq
        go_wp2
        go_ret
        exact ⟨by rw [HBAD.out (by unfold Gd; omega)]; rfl, hb2'⟩
    · have hd2 : decide (0 < h) = false := by simp; omega
      by_cases hq : h < 0
      · go_wp2
        go_ret
        exact ⟨by rw [HBAD.out (by unfold Gd; omega)]; rfl, hb2'⟩
      · go_wp2
        go_ret
        exact ⟨by rw [HGD.out (by unfold Gd; omega)]; rfl, hb2'⟩
end
section
open Go.RowKit
set_option linter.unusedVariables false

theorem power22_any (n : Nat) (hn : n ≤ 60) (w : World) : Calls Try.prog 122 #[.int .i64 n] w fun e w' => e = .returned (.int .i64 (2 ^ n)) ∧ w = w' := by
  go_enter Try.func122, Try.ntmps122
  go_wp2_with fail
  go_loop [3, 4] (fun x i => ∃ k : Nat, k ≤ n ∧ i = .int .i64 k ∧ x = .int .i64 (2 ^ k : Nat)) (fun _ i => n - (intOf i).toNat)
  case atStart => exact ⟨0, Nat.zero_le _, rfl, rfl⟩
  case round =>
    obtain ⟨k, hk, rfl, rfl⟩ := hrel
    have hle : 2 ^ k ≤ 2 ^ 60 := Nat.pow_le_pow_right (by omega) (show k ≤ 60 by omega)
    rw [show 2 ^ 60 = 1152921504606846976 from rfl] at hle
    have hpos : 1 ≤ 2 ^ k := Nat.one_le_two_pow
    have hs : 2 ^ (k + 1) = 2 * 2 ^ k := by rw [Nat.pow_succ, Nat.mul_comm]
    have HS := Lib.hid hs
    clear hs
    generalize hP : 2 ^ k = P at *
    have HP := Lib.hid hP
    clear hP
    by_cases hlt : k < n
    · go_wp2
      go_round
      case rel => exact ⟨k + 1, by omega, by go_num, by rw [HS.out]; go_num⟩
      case measure => simp [intOf]; omega
    · go_wp2
      go_ret
      exact ⟨ret_int (by obtain rfl : k = n := by omega
                         rw [← HP.out]; simp), rfl⟩


theorem rtell_any (n low : Int) (dc : Bool) (hn : -4611686018427387904 ≤ n ∧ n ≤ 4611686018427387904) (w : World) : Calls Try.prog 91 #[.int .i64 n, .int .i64 low, .bool dc] w fun e w' => e = .returned (.int .i64 (tl n low dc)) ∧ w = w' := by
  by_cases h1 : low < 0
  · have ht : tl n low dc = 0 := by unfold tl; rw [if_pos (.inl h1)]
    rw [ht]
    go_enter Try.func91, Try.ntmps91
    go_wp2
    go_ret
    exact ⟨rfl, rfl⟩
  by_cases h2 : 9 < low
  · have ht : tl n low dc = 0 := by unfold tl; rw [if_pos (.inr h2)]
    rw [ht]
    go_enter Try.func91, Try.ntmps91
    go_wp2
    go_ret
    exact ⟨rfl, rfl⟩
  obtain ⟨L, rfl⟩ := Int.eq_ofNat_of_zero_le (show 0 ≤ low by omega)
  have hnat : 2 ^ L ≤ 2 ^ 9 := Nat.pow_le_pow_right (by omega) (show L ≤ 9 by omega)
  have hnat1 := Nat.one_le_two_pow (n := L)
  have hcast : ((2 ^ L : Nat) : Int) = (2 : Int) ^ L := by simp
  have hp1 : 1 ≤ (2 : Int) ^ L ∧ (2 : Int) ^ L ≤ 512 := by omega
  clear hnat hnat1 hcast
  have ht1 : tl n L true = n / 2 ^ L := by unfold tl; rw [if_neg (by omega), if_pos (.inl rfl), Int.toNat_natCast]
  have ht2 : tl n L false = if 0 ≤ n then n / 2 ^ L else -((-n) / 2 ^ L) := by
    unfold tl; rw [if_neg (by omega), Int.toNat_natCast]
    by_cases h0 : 0 ≤ n
    · rw [if_pos (.inr h0), if_pos h0]
    · rw [if_neg (by simp; omega), if_neg h0]
  rw [← tl_dc (by omega)] at ht1
  rw [← tl_ac (by omega)] at ht2
  have H1 := Lib.hid ht1
  have H2 := Lib.hid ht2
  clear ht1 ht2
  have hr1 : -(2 : Int) ^ L < n.tmod (2 ^ L) := by
    have := Int.tmod_lt_of_pos (-n) (show (0 : Int) < 2 ^ L by omega)
    rw [Int.neg_tmod] at this; omega
  have hr2 : n.tmod (2 ^ L) < (2 : Int) ^ L := Int.tmod_lt_of_pos n (by omega)
  go_enter Try.func91, Try.ntmps91
  go_wp2_with fail
  refine (power22_any L (by omega) w).mono ?_; rintro e w' ⟨rfl, rfl⟩
  generalize (2 : Int) ^ L = P at *
  have hpn : (P == 0) = false := by simp; omega
  have hpm : (P == -1) = false := by simp; omega
  cases dc with
  | true =>
    by_cases hneg : n.tmod P < 0
    · rw [if_pos hneg] at H1
      go_wp2
      go_ret
      exact ⟨ret_int (by rw [H1.out]), rfl⟩
    · rw [if_neg hneg] at H1
      go_wp2
      go_ret
      exact ⟨ret_int (by rw [H1.out]), rfl⟩
  | false =>
    go_wp2
    go_ret
    exact ⟨ret_int (by rw [H2.out]), rfl⟩

set_option maxRecDepth 100000 in
set_option maxHeartbeats 1000000 in
theorem rgood_any (f t h l : Int) (b : Bool) (hgood : Gd f t h l → b = true) (hbad : ¬ Gd f t h l → b = false) (w : World) : Calls Try.prog 72 #[.agg #[.int .i64 f, .int .i64 t, .int .i64 h, .int .i64 l]] w fun e w' => e = .returned (.bool b) ∧ Below w.heap.size w w' := by
  have HB := Lib.hid hbad
  have HG := Lib.hid hgood
  clear hbad hgood
  go_enter Try.func72, Try.ntmps72
  by_cases h1 : l < 0
  · go_wp2
    go_ret
    exact ⟨ret_bool (by first | exact (HB.out (by unfold Gd; omega)).symm | (rw [HB.out (by unfold Gd; omega)]; simp; omega)), by go_grown⟩
  by_cases h2 : 9 < l
  · go_wp2
    go_ret
    exact ⟨ret_bool (by first | exact (HB.out (by unfold Gd; omega)).symm | (rw [HB.out (by unfold Gd; omega)]; simp; omega)), by go_grown⟩
  by_cases h3 : h = 0
  · have d1 : (h != 0) = false := by simpa using h3
    have h3' : 0 ≤ h ∧ h ≤ 0 := by omega
    clear h3
    by_cases h4 : f = 0
    · have e1 : (f == 0) = true := by simpa using h4
      by_cases h5 : t = 0
      · have e2 : (t == 0) = true := by simpa using h5
        have h4' : 0 ≤ f ∧ f ≤ 0 := by omega
        have h5' : 0 ≤ t ∧ t ≤ 0 := by omega
        clear h4 h5
        go_wp2
        go_ret
        exact ⟨ret_bool (by first | exact (HG.out (by unfold Gd; omega)).symm | (rw [HG.out (by unfold Gd; omega)]; simp; omega)), by go_grown⟩
      · have e2 : (t == 0) = false := by simpa using h5
        have h4' : 0 ≤ f ∧ f ≤ 0 := by omega
        clear h4
        go_wp2
        go_ret
        exact ⟨ret_bool (by first | exact (HB.out (by unfold Gd; omega)).symm | (rw [HB.out (by unfold Gd; omega)]; simp; omega)), by go_grown⟩
    · have e1 : (f == 0) = false := by simpa using h4
      by_cases h6 : f < 1
      · go_wp2
        go_ret
        exact ⟨ret_bool (by first | exact (HB.out (by unfold Gd; omega)).symm | (rw [HB.out (by unfold Gd; omega)]; simp; omega)), by go_grown⟩
      by_cases h7 : t < f
      · go_wp2
        go_ret
        exact ⟨ret_bool (by first | exact (HB.out (by unfold Gd; omega)).symm | (rw [HB.out (by unfold Gd; omega)]; simp; omega)), by go_grown⟩
      by_cases h8 : 63 < t
      · go_wp2
        go_ret
        exact ⟨ret_bool (by first | exact (HB.out (by unfold Gd; omega)).symm | (rw [HB.out (by unfold Gd; omega)]; simp; omega)), by go_grown⟩
      go_wp2
      go_ret
      exact ⟨ret_bool (by first | exact (HG.out (by unfold Gd; omega)).symm | (rw [HG.out (by unfold Gd; omega)]; simp; omega)), by go_grown⟩
  · have d1 : (h != 0) = true := by simpa using h3
    by_cases h9 : h = l + 1
    · have d2 : (h != l + 1) = false := by simpa using h9
      have h9' : l + 1 ≤ h ∧ h ≤ l + 1 := by omega
      clear h9
      by_cases h4 : f = 0
      · have e1 : (f == 0) = true := by simpa using h4
        by_cases h5 : t = 0
        · have e2 : (t == 0) = true := by simpa using h5
          have h4' : 0 ≤ f ∧ f ≤ 0 := by omega
          have h5' : 0 ≤ t ∧ t ≤ 0 := by omega
          clear h4 h5
          go_wp2
          go_ret
          exact ⟨ret_bool (by first | exact (HG.out (by unfold Gd; omega)).symm | (rw [HG.out (by unfold Gd; omega)]; simp; omega)), by go_grown⟩
        · have e2 : (t == 0) = false := by simpa using h5
          have h4' : 0 ≤ f ∧ f ≤ 0 := by omega
          clear h4
          go_wp2
          go_ret
          exact ⟨ret_bool (by first | exact (HB.out (by unfold Gd; omega)).symm | (rw [HB.out (by unfold Gd; omega)]; simp; omega)), by go_grown⟩
      · have e1 : (f == 0) = false := by simpa using h4
        by_cases h6 : f < 1
        · go_wp2
          go_ret
          exact ⟨ret_bool (by first | exact (HB.out (by unfold Gd; omega)).symm | (rw [HB.out (by unfold Gd; omega)]; simp; omega)), by go_grown⟩
        by_cases h7 : t < f
        · go_wp2
          go_ret
          exact ⟨ret_bool (by first | exact (HB.out (by unfold Gd; omega)).symm | (rw [HB.out (by unfold Gd; omega)]; simp; omega)), by go_grown⟩
        by_cases h8 : 63 < t
        · go_wp2
          go_ret
          exact ⟨ret_bool (by first | exact (HB.out (by unfold Gd; omega)).symm | (rw [HB.out (by unfold Gd; omega)]; simp; omega)), by go_grown⟩
        go_wp2
        go_ret
        exact ⟨ret_bool (by first | exact (HG.out (by unfold Gd; omega)).symm | (rw [HG.out (by unfold Gd; omega)]; simp; omega)), by go_grown⟩
    · have d2 : (h != l + 1) = true := by simpa using h9
      go_wp2
      go_ret
      exact ⟨ret_bool (by first | exact (HB.out (by unfold Gd; omega)).symm | (rw [HB.out (by unfold Gd; omega)]; simp; omega)), by go_grown⟩
end
end Go.Proofs.Ytlhappecjjbopaa
