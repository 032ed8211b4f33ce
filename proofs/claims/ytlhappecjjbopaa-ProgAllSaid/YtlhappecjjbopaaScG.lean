/-
  Blocks in form, and a number's piece, by contracts. No condition.
-/
import Derived.Test.YtlhappecjjbopaaScE
import Derived.Test.YtlhappecjjbopaaScA
import Derived.Test.YtlhappecjjbopaaArw
namespace Go.Proofs.Ytlhappecjjbopaa
open Go.RowKit
set_option linter.unusedVariables false
set_option maxRecDepth 100000

def DcB (n : Int) : Prop := -1024 ≤ n ∧ n ≤ 1023
instance (n : Int) : Decidable (DcB n) := by unfold DcB; infer_instance
def GoodB (b : List Int) : Prop := (∀ j, 1 ≤ j → j < 64 → -1023 ≤ b.getD j 0 ∧ b.getD j 0 ≤ 1023) ∧ DcB (b.getD 0 0)
theorem dcIn_any (n : Int) (w : World) : Calls Try.prog 106 #[.int .i64 n] w fun e w' => e = .returned (.bool (decide (DcB n))) ∧ w = w' := by
  by_cases h : DcB n
  · rw [decide_eq_true h]
    have h1 := h.1
    have h2 := h.2
    clear h
    have d1 : decide (-1024 ≤ n) = true := decide_eq_true h1
    have d2 : decide (n ≤ 1023) = true := decide_eq_true h2
    go_enter Try.func106, Try.ntmps106
    go_wp2
    go_ret
    exact ⟨ret_bool (by simp), rfl⟩
  · rw [decide_eq_false h]
    have hh : (decide (-1024 ≤ n) = false) ∨ (decide (-1024 ≤ n) = true ∧ decide (n ≤ 1023) = false) := by
      by_cases h1 : -1024 ≤ n
      · exact .inr ⟨decide_eq_true h1, decide_eq_false (fun h2 => h ⟨h1, h2⟩)⟩
      · exact .inl (decide_eq_false h1)
    clear h
    rcases hh with d1 | ⟨d1, d2⟩
    · have d3 : ¬ -1024 ≤ n := of_decide_eq_false d1
      go_enter Try.func106, Try.ntmps106
      go_wp2
      go_ret
      exact ⟨ret_bool (by simp), rfl⟩
    · have d3 : ¬ n ≤ 1023 := of_decide_eq_false d2
      go_enter Try.func106, Try.ntmps106
      go_wp2
      go_ret
      exact ⟨ret_bool (by simp), rfl⟩
theorem rdc_any (n : Int) (w : World) : Calls Try.prog 51 #[.int .i64 n] w fun e w' => e = .returned (.bool (decide (DcB n))) ∧ w = w' := by
  by_cases h : DcB n
  · rw [decide_eq_true h]
    have h1 := h.1
    have h2 := h.2
    clear h
    have d1 : decide (-1024 ≤ n) = true := decide_eq_true h1
    have d2 : decide (n ≤ 1023) = true := decide_eq_true h2
    go_enter Try.func51, Try.ntmps51
    go_wp2
    go_ret
    exact ⟨ret_bool (by simp), rfl⟩
  · rw [decide_eq_false h]
    have hh : (decide (-1024 ≤ n) = false) ∨ (decide (-1024 ≤ n) = true ∧ decide (n ≤ 1023) = false) := by
      by_cases h1 : -1024 ≤ n
      · exact .inr ⟨decide_eq_true h1, decide_eq_false (fun h2 => h ⟨h1, h2⟩)⟩
      · exact .inl (decide_eq_false h1)
    clear h
    rcases hh with d1 | ⟨d1, d2⟩
    · have d3 : ¬ -1024 ≤ n := of_decide_eq_false d1
      go_enter Try.func51, Try.ntmps51
      go_wp2
      go_ret
      exact ⟨ret_bool (by simp), rfl⟩
    · have d3 : ¬ n ≤ 1023 := of_decide_eq_false d2
      go_enter Try.func51, Try.ntmps51
      go_wp2
      go_ret
      exact ⟨ret_bool (by simp), rfl⟩

def CheckP (b : List Int) (w : World) (e : Ending) (w' : World) : Prop := (GoodB b → e = .returned .nilIface) ∧ (¬ GoodB b → e = .returned (errV 6)) ∧ Below w.heap.size w w'
set_option maxHeartbeats 2000000 in
theorem check_any (b : List Int) (hb : b.length = 64) (w : World) : Calls Try.prog 49 #[.agg (iv b).toArray] w (CheckP b w) := by
  have X := Bln.new w 70 (iv b)
  have hb0 : Below w.heap.size w (w.alloc (.cells (iv b).toArray 70)) := (Below.refl _ _).alloc (Nat.le_refl _) _
  have HB := Lib.hid hb
  clear hb
  go_enter Try.func49, Try.ntmps49
  go_upto_region 1 with fail
  generalize w.alloc (.cells (iv b).toArray 70) = w0 at *
  have c0 := X.cell (i := 0) (ivs_get (by rw [HB.out]; omega))
  have hc : ∀ j, j < 63 → w0.cell? ⟨w.heap.size, 1 + j, none⟩ = some (.int .i64 (b.getD (1 + j) 0)) := fun j hj => X.cell (ivs_get (by rw [HB.out]; omega))
  have HC := Lib.hid hc
  generalize hdq : b.getD 0 0 = dz at c0
  have HDQ := Lib.hid hdq
  clear hc X hdq
  go_wp2
  go_loopw [7] (fun ix wr => ∃ j : Nat, j ≤ 63 ∧ ix = .int .i64 j ∧ (∀ i, 1 ≤ i → i < 1 + j → -1023 ≤ b.getD i 0 ∧ b.getD i 0 ≤ 1023) ∧ wr = w0) (fun ix _ => 63 - (intOf ix).toNat)
  case atStart => exact ⟨0, Nat.zero_le _, rfl, fun i h1 h2 => by omega, rfl⟩
  case round =>
    obtain ⟨j, hj, rfl, hall, rfl⟩ := hrel
    have HA := Lib.hid hall
    clear hall
    by_cases hlt : j < 63
    · have d63 : decide ((j : Int) < 63) = true := decide_eq_true (by omega)
      have ej := HC.out j hlt
      have hj0 : (0 : Int) ≤ (j : Int) := by omega
      have hj1 : (j : Int) < 63 := by omega
      generalize hxq : b.getD (1 + j) 0 = x at *
      have HX := Lib.hid hxq
      clear hxq
      by_cases hbad : -1023 ≤ x ∧ x ≤ 1023
      · have d1 : decide (x < -1023) = false := decide_eq_false (by omega)
        have d2 : decide (1023 < x) = false := decide_eq_false (by omega)
        go_wp2
        go_roundw
        case rel => exact ⟨j + 1, by omega, by go_num, fun i h1 h2 => by
          rcases Nat.lt_or_ge i (1 + j) with h3 | h3
          · exact HA.out i h1 h3
          · obtain rfl : i = 1 + j := by omega
            rw [HX.out]; exact hbad, by trivial⟩
        case measure => simp [intOf]; omega
      · have hno : ¬ GoodB b := fun h => by
          have := h.1 (1 + j) (by omega) (by omega)
          rw [HX.out] at this
          exact hbad this
        have HNO := Lib.hid hno
        have dd : (decide (x < -1023) = true) ∨ (decide (x < -1023) = false ∧ decide (1023 < x) = true) := by
          by_cases h1 : x < -1023
          · exact .inl (decide_eq_true h1)
          · exact .inr ⟨decide_eq_false h1, decide_eq_true (by omega)⟩
        clear hno hbad
        rcases dd with d1 | ⟨d1, d2⟩
        all_goals
          go_wp2
          go_ret
          exact ⟨fun h => absurd h HNO.out, fun _ => rfl, hb0⟩
    · have d63 : decide ((j : Int) < 63) = false := decide_eq_false (by omega)
      have hall : ∀ i, 1 ≤ i → i < 64 → -1023 ≤ b.getD i 0 ∧ b.getD i 0 ≤ 1023 := fun i h1 h2 => HA.out i h1 (by omega)
      have HALL := Lib.hid hall
      clear hall
      by_cases hd : DcB dz
      · have hg : GoodB b := ⟨HALL.out, by rw [HDQ.out]; exact hd⟩
        have HG := Lib.hid hg
        have HD := Lib.hid (decide_eq_true hd)
        clear hg hd
        go_wp2_with (go_at_call 106; refine (dcIn_any _ _).mono ?_; rintro e w' ⟨rfl, rfl⟩; rw [HD.out])
        go_ret
        exact ⟨fun _ => rfl, fun h => absurd HG.out h, hb0⟩
      · have hg : ¬ GoodB b := fun h => hd (by have := h.2; rw [HDQ.out] at this; exact this)
        have HG := Lib.hid hg
        have HD := Lib.hid (decide_eq_false hd)
        clear hg hd
        go_wp2_with (go_at_call 106; refine (dcIn_any _ _).mono ?_; rintro e w' ⟨rfl, rfl⟩; rw [HD.out])
        go_ret
        exact ⟨fun h => absurd h HG.out, fun _ => rfl, hb0⟩

set_option maxHeartbeats 2000000 in
theorem good_any (b : List Int) (hb : b.length = 64) (g : Bool) (hg : g = true ↔ GoodB b) (w : World) : Calls Try.prog 50 #[.agg (iv b).toArray] w fun e w' => e = .returned (.bool g) ∧ Below w.heap.size w w' := by
  have X := Bln.new w 70 (iv b)
  have hb0 : Below w.heap.size w (w.alloc (.cells (iv b).toArray 70)) := (Below.refl _ _).alloc (Nat.le_refl _) _
  have HB := Lib.hid hb
  have HGG := Lib.hid hg
  clear hb hg
  go_enter Try.func50, Try.ntmps50
  go_upto_region 1 with fail
  generalize w.alloc (.cells (iv b).toArray 70) = w0 at *
  have c0 := X.cell (i := 0) (ivs_get (by rw [HB.out]; omega))
  have hc : ∀ j, j < 64 → w0.cell? ⟨w.heap.size, j, none⟩ = some (.int .i64 (b.getD j 0)) := fun j hj => X.cell (ivs_get (by rw [HB.out]; omega))
  have HC := Lib.hid hc
  generalize hdq : b.getD 0 0 = dz at c0
  have HDQ := Lib.hid hdq
  clear hc X hdq
  go_wp2
  go_loopw [3] (fun ix wr => ∃ j : Nat, 1 ≤ j ∧ j ≤ 64 ∧ ix = .int .i64 j ∧ (∀ i, 1 ≤ i → i < j → -1023 ≤ b.getD i 0 ∧ b.getD i 0 ≤ 1023) ∧ wr = w0) (fun ix _ => 64 - (intOf ix).toNat)
  case atStart => exact ⟨1, Nat.le_refl _, by omega, rfl, fun i h1 h2 => by omega, rfl⟩
  case round =>
    obtain ⟨j, hj1, hj, rfl, hall, rfl⟩ := hrel
    have HA := Lib.hid hall
    clear hall
    by_cases hlt : j < 64
    · have d63 : decide ((j : Int) < 64) = true := decide_eq_true (by omega)
      have ej := HC.out j hlt
      have hj0 : (0 : Int) ≤ (j : Int) := by omega
      have hj1' : (j : Int) < 64 := by omega
      generalize hxq : b.getD j 0 = x at *
      have HX := Lib.hid hxq
      clear hxq
      by_cases hbad : -1023 ≤ x ∧ x ≤ 1023
      · have d1 : decide (x < -1023) = false := decide_eq_false (by omega)
        have d2 : decide (1023 < x) = false := decide_eq_false (by omega)
        go_wp2
        go_roundw
        case rel => exact ⟨j + 1, by omega, by omega, by go_num, fun i h1 h2 => by
          rcases Nat.lt_or_ge i j with h3 | h3
          · exact HA.out i h1 h3
          · obtain rfl : i = j := by omega
            rw [HX.out]; exact hbad, by trivial⟩
        case measure => simp [intOf]; omega
      · have hno : g = false := by
          rw [Bool.eq_false_iff]
          intro h
          have := (HGG.out.1 h).1 j hj1 hlt
          rw [HX.out] at this
          exact hbad this
        have HNO := Lib.hid hno
        have dd : (decide (x < -1023) = true) ∨ (decide (x < -1023) = false ∧ decide (1023 < x) = true) := by
          by_cases h1 : x < -1023
          · exact .inl (decide_eq_true h1)
          · exact .inr ⟨decide_eq_false h1, decide_eq_true (by omega)⟩
        clear hno hbad
        rcases dd with d1 | ⟨d1, d2⟩
        all_goals
          go_wp2
          go_ret
          exact ⟨ret_bool HNO.out.symm, hb0⟩
    · have d63 : decide ((j : Int) < 64) = false := decide_eq_false (by omega)
      have hall : ∀ i, 1 ≤ i → i < 64 → -1023 ≤ b.getD i 0 ∧ b.getD i 0 ≤ 1023 := fun i h1 h2 => HA.out i h1 (by omega)
      have hgd : decide (DcB dz) = g := by
        rw [Bool.eq_iff_iff, decide_eq_true_iff, HGG.out, ← HDQ.out]
        exact ⟨fun h => ⟨hall, h⟩, fun h => h.2⟩
      have HGD := Lib.hid hgd
      clear hall hgd
      go_wp2_with (go_at_call 51; refine (rdc_any _ _).mono ?_; rintro e w' ⟨rfl, rfl⟩; rw [HGD.out])
      go_ret
      exact ⟨rfl, hb0⟩

/-- a piece: which book, symbol, extra bits, how many -/
abbrev Pc := Bool × Int × Int × Int
def pcV (p : Pc) : List Value := [.bool p.1, .int .i64 p.2.1, .int .i64 p.2.2.1, .int .i64 p.2.2.2]
def numP (ac : Bool) (n : Int) (k : Nat) : Pc := (ac, 16 * k + szN n, exZ n, szN n)
theorem exZ_bd2 (n : Int) : -131072 ≤ exZ n ∧ exZ n ≤ 131072 := by
  have h := pow_le15 (s := szN n) (by have := szN_bd n; omega)
  unfold exZ
  split
  · omega
  · split <;> omega
set_option maxHeartbeats 1000000 in
theorem numberP_any (ac : Bool) (n : Int) (k : Nat) (hn : -9223372036854775808 ≤ n ∧ n ≤ 9223372036854775807) (hk : k ≤ 1000) (w : World) : Calls Try.prog 107 #[.bool ac, .int .i64 n, .int .i64 k] w fun e w' => e = .returned (.agg (pcV (numP ac n k)).toArray) ∧ Below w.heap.size w w' := by
  have hsz := szN_bd n
  have hex := exZ_bd2 n
  have hw : (16 * (k : Int) + (szN n : Int)) = ((16 * k + szN n : Nat) : Int) := by omega
  have hsz2 := fun W => size_any n W
  have hex2 := fun W => extra_any n hn W
  have hpv : pcV (numP ac n k) = [.bool ac, .int .i64 (16 * (k : Int) + (szN n : Int)), .int .i64 (exZ n), .int .i64 (szN n)] := rfl
  rw [hpv]
  have HS := Lib.hid hsz2
  have HE := Lib.hid hex2
  have hX := Bln.new w 27 [.bool ac, .int .i64 (16 * (k : Int) + (szN n : Int)), .int .i64 (exZ n), .int .i64 (szN n)]
  have hb : Below w.heap.size w (w.alloc (.cells #[.bool ac, .int .i64 (16 * (k : Int) + (szN n : Int)), .int .i64 (exZ n), .int .i64 (szN n)] 27)) := (Below.refl _ _).alloc (Nat.le_refl _) _
  clear hw hpv hsz2 hex2 hn
  generalize szN n = s at *
  generalize exZ n = z at *
  go_enter Try.func107, Try.ntmps107
  go_wp2_with (first | (go_at_call 38; refine (HS.out _).mono ?_; rintro e w' ⟨rfl, rfl⟩) | (go_at_call 39; refine (HE.out _).mono ?_; rintro e w' ⟨rfl, rfl⟩))
  exact bodyPost_ret (results_cell_row (P := Try.prog) rfl _ _ w.heap.size 27 _ (0, 0) _ rfl hX Try.underlying27 rfl (by kernel_rfl)) rfl ⟨rfl, hb⟩
end Go.Proofs.Ytlhappecjjbopaa
