/-
  Sample: depths, widening, narrowing: the program's functions and the document's, by contracts. Conditions: lists of at most 1000000 numbers.
-/
import Derived.Test.YtkmgojoojboidaaNum
namespace Go.Proofs.Ytkmgojoojboidaa
open Go.RowKit
set_option linter.unusedVariables false

/-! plain -/
def Dp (d : Int) : Prop := d = 1 ∨ d = 2 ∨ d = 4 ∨ d = 8 ∨ d = 16
instance (d : Int) : Decidable (Dp d) := by unfold Dp; infer_instance
def topD (d : Int) : Int := if d = 1 then 1 else if d = 2 then 3 else if d = 4 then 15 else if d = 8 then 255 else 65535
def stepD (d : Int) : Int := if d = 1 then 65535 else if d = 2 then 21845 else if d = 4 then 4369 else if d = 8 then 257 else 1
/-- the number that is widened to n; -1: there is none -/
def narr (n d : Int) : Int := if Dp d ∧ 0 ≤ n ∧ n ≤ 65535 ∧ n % stepD d = 0 then n / stepD d else -1

/-! slices -/
theorem index_any (A : Option Addr) (n c : Nat) (l : List Int) (x : Int) (w : World) (B : Nat) (hR : Rd w B A (iv l)) (hn : n = l.length) (hm : n ≤ 1000000) :
    Calls Try.prog 68 #[.slice A n c, .int .i64 x] w fun e w' => (∃ r : Int, e = .returned (.int .i64 r) ∧ (0 ≤ r ↔ x ∈ l) ∧ -1 ≤ r ∧ r ≤ n) ∧ w = w' := by
  have HN := Lib.hid hn
  clear hn
  go_enter Try.func68, Try.ntmps68
  go_wp2_with fail
  go_loop [8] (fun i => ∃ k : Nat, k ≤ n ∧ i = .int .i64 k ∧ x ∉ l.take k) (fun i => n - (intOf i).toNat)
  case atStart => exact ⟨0, Nat.zero_le _, rfl, by simp⟩
  case round =>
    obtain ⟨k, hk, rfl, hnot⟩ := hrel
    by_cases hlt : k < n
    · have hl := HN.out
      obtain ⟨b, off, rfl, hb, hc⟩ := hR.at_ (k := k) (by rw [iv_len]; omega)
      obtain ⟨y, hy⟩ : ∃ y, y = l.getD k 0 := ⟨_, rfl⟩
      have hcell : w.cell? ⟨b, off + k, none⟩ = some (.int .i64 y) := hc k _ (by rw [hy]; simp [iv, ← hl, hlt])
      have hkl : k < l.length := by omega
      have htk : l.take (k + 1) = l.take k ++ [y] := by rw [hy, List.take_succ_eq_append_getElem hkl, List.getD_eq_getElem?_getD, List.getElem?_eq_getElem hkl]; rfl
      have hmem : y ∈ l := by rw [hy, List.getD_eq_getElem?_getD, List.getElem?_eq_getElem hkl]; exact List.getElem_mem hkl
      have HY := Lib.hid hy
      have HT := Lib.hid htk
      have HM := Lib.hid hmem
      have HX := Lib.hid hnot
      clear hy hc hl htk hmem hnot hkl
      by_cases he : x = y
      · subst he
        go_wp2
        go_ret
        exact ⟨⟨k, rfl, ⟨fun _ => HM.out, fun _ => by omega⟩, by omega, by omega⟩, rfl⟩
      · have hne : (x == y) = false := by simpa using he
        have HE := Lib.hid he
        clear he
        go_wp2
        go_round
        case rel => exact ⟨k + 1, by omega, by go_num, by rw [HT.out, List.mem_append, List.mem_singleton]; exact fun h => h.elim HX.out HE.out⟩
        case measure => simp [intOf]; omega
    · go_wp2
      go_ret
      have : l.take k = l := List.take_of_length_le (by rw [← HN.out]; omega)
      rw [this] at hnot
      exact ⟨⟨-1, rfl, ⟨fun h => absurd h (by omega), fun h => absurd h hnot⟩, by omega, by omega⟩, rfl⟩

theorem contains_is (A : Option Addr) (n c : Nat) (l : List Int) (x : Int) (bl : Bool) (h : decide (x ∈ l) = bl) (w : World) (B : Nat) (hR : Rd w B A (iv l)) (hn : n = l.length) (hm : n ≤ 1000000) :
    Calls Try.prog 66 #[.slice A n c, .int .i64 x] w fun e w' => e = .returned (.bool bl) ∧ w = w' := by
  have H := Lib.hid h
  have HN := Lib.hid hn
  clear h hn
  go_enter Try.func66, Try.ntmps66
  go_wp2_with fail
  refine (index_any A n c l x _ _ hR HN.out hm).mono ?_; rintro e w' ⟨⟨r, rfl, hr, h1, h2⟩, rfl⟩
  have HR := Lib.hid hr
  clear hr
  go_wp2
  go_ret
  refine ⟨ret_bool ?_, rfl⟩
  rw [← H.out]
  exact decide_eq_decide.2 HR.out

theorem Rd.lit (w : World) (e : TypeId) (xs : List Value) : Rd (w.alloc (.cells xs.toArray e)) (w.heap.size + 1) (some ⟨w.heap.size, 0, none⟩) xs := by
  refine .inr ⟨_, 0, rfl, by omega, fun k u hu => ?_⟩
  rw [World.cell?_alloc_at _ _ _ _ rfl, Nat.zero_add]
  simpa using hu

theorem depths_any (w : World) : Calls Try.prog 57 #[] w fun e w' => e = .returned (.slice (some ⟨w.heap.size, 0, none⟩) 5 5) ∧ w.alloc (.cells (iv [1, 2, 4, 8, 16]).toArray 3) = w' := by
  go_enter Try.func57, Try.ntmps57
  go_wp2
  go_ret
  exact ⟨rfl, rfl⟩

theorem deep_is (d : Int) (bl : Bool) (h : decide (Dp d) = bl) (w : World) :
    Calls Try.prog 55 #[.int .i64 d] w fun e w' => e = .returned (.bool bl) ∧ Below w.heap.size w w' := by
  have h2 : decide (d ∈ [1, 2, 4, 8, (16 : Int)]) = bl := by rw [← h]; exact decide_eq_decide.2 (by simp [Dp])
  clear h
  go_enter Try.func55, Try.ntmps55
  have H2 := Lib.hid h2
  clear h2
  go_wp2_with fail
  refine (depths_any _).mono ?_; rintro e w' ⟨rfl, rfl⟩
  go_wp2_with fail
  refine (contains_is _ 5 _ [1, 2, 4, 8, 16] d bl H2.out _ _ (Rd.lit w 3 (iv [1, 2, 4, 8, 16])) rfl (by simp)).mono ?_; rintro e w' ⟨rfl, rfl⟩
  go_wp2
  go_ret
  exact ⟨rfl, by go_grown⟩

theorem rdeep_is (d : Int) (bl : Bool) (h : decide (Dp d) = bl) (w : World) :
    Calls Try.prog 23 #[.int .i64 d] w fun e w' => e = .returned (.bool bl) ∧ w = w' := by
  by_cases hd : Dp d
  · have hb : bl = true := by rw [← h]; simp [hd]
    subst hb
    clear h
    unfold Dp at hd
    rcases hd with rfl | rfl | rfl | rfl | rfl
    all_goals
      go_enter Try.func23, Try.ntmps23
      go_wp2
      go_ret
      exact ⟨rfl, rfl⟩
  · have hb : bl = false := by rw [← h]; simp [hd]
    subst hb
    clear h
    unfold Dp at hd
    have h1 : (d == 1) = false := by simp; omega
    have h2 : (d == 2) = false := by simp; omega
    have h3 : (d == 4) = false := by simp; omega
    have h4 : (d == 8) = false := by simp; omega
    have h5 : (d == 16) = false := by simp; omega
    clear hd
    go_enter Try.func23, Try.ntmps23
    go_wp2
    go_ret
    exact ⟨rfl, rfl⟩

theorem step_any (d : Int) (h : Dp d) (w : World) : Calls Try.prog 56 #[.int .i64 d] w fun e w' => e = .returned (.int .i64 (stepD d)) ∧ w = w' := by
  unfold Dp at h
  rcases h with rfl | rfl | rfl | rfl | rfl
  all_goals
    go_enter Try.func56, Try.ntmps56
    go_wp2
    go_ret
    exact ⟨ret_int (by decide), rfl⟩

theorem top_any (d : Int) (h : Dp d) (w : World) : Calls Try.prog 25 #[.int .i64 d] w fun e w' => e = .returned (.int .i64 (topD d)) ∧ w = w' := by
  have hd : 1 ≤ d ∧ d ≤ 16 := by unfold Dp at h; omega
  have ht : topD d = 2 ^ d.toNat - 1 := by unfold Dp at h; rcases h with rfl | rfl | rfl | rfl | rfl <;> decide
  obtain ⟨D, rfl⟩ := Int.eq_ofNat_of_zero_le (show 0 ≤ d by omega)
  have HT := Lib.hid ht
  clear ht h
  go_enter Try.func25, Try.ntmps25
  go_wp2_with fail
  go_loop [3, 4] (fun n i => ∃ k : Nat, k ≤ D ∧ i = .int .i64 k ∧ n = .int .i64 (2 ^ k : Nat)) (fun _ i => D - (intOf i).toNat)
  case atStart => exact ⟨0, Nat.zero_le _, rfl, rfl⟩
  case round =>
    obtain ⟨k, hk, rfl, rfl⟩ := hrel
    have hle : 2 ^ k ≤ 65536 := Nat.le_trans (Nat.pow_le_pow_right (by omega) (show k ≤ 16 by omega)) (by decide)
    have hpos : 1 ≤ 2 ^ k := Nat.one_le_two_pow
    have hs : 2 ^ (k + 1) = 2 * 2 ^ k := by rw [Nat.pow_succ, Nat.mul_comm]
    have HS := Lib.hid hs
    clear hs
    generalize hP : 2 ^ k = P at *
    have HP := Lib.hid hP
    clear hP
    by_cases hlt : k < D
    · go_wp2
      go_round
      case rel => exact ⟨k + 1, by omega, by go_num, by rw [HS.out]; go_num⟩
      case measure => simp [intOf]; omega
    · go_wp2
      go_ret
      exact ⟨ret_int (by obtain rfl : k = D := by omega
                         rw [HT.out, ← HP.out]; simp), rfl⟩
end Go.Proofs.Ytkmgojoojboidaa
