/-
  Filter: what is foretold of a byte; the program's and the document's functions on single bytes. Conditions: bytes are from 0 to 255.
-/
import Derived.Test.YtimfpkoofgglkaaNum
namespace Go.Proofs.Ytimfpkoofgglkaa
open Go.RowKit
set_option linter.unusedVariables false

/-! plain -/
def dist (a b : Int) : Int := max (a - b) (b - a)
def pae (a b c : Int) : Int :=
  if dist (a + b - c) a ≤ dist (a + b - c) b ∧ dist (a + b - c) a ≤ dist (a + b - c) c then a
  else if dist (a + b - c) b ≤ dist (a + b - c) c then b else c
def fore (k a b c : Int) : Int :=
  if k = 1 then a else if k = 2 then b else if k = 3 then (a + b) / 2 else if k = 4 then pae a b c else 0
theorem pae_bd {a b c : Int} (ha : 0 ≤ a ∧ a ≤ 255) (hb : 0 ≤ b ∧ b ≤ 255) (hc : 0 ≤ c ∧ c ≤ 255) : 0 ≤ pae a b c ∧ pae a b c ≤ 255 := by
  unfold pae; split
  · exact ha
  · split
    · exact hb
    · exact hc
theorem fore_bd {k a b c : Int} (ha : 0 ≤ a ∧ a ≤ 255) (hb : 0 ≤ b ∧ b ≤ 255) (hc : 0 ≤ c ∧ c ≤ 255) : 0 ≤ fore k a b c ∧ fore k a b c ≤ 255 := by
  unfold fore
  split
  · exact ha
  · split
    · exact hb
    · split
      · omega
      · split
        · exact pae_bd ha hb hc
        · omega
/-- a row's number; 0 ahead of it and behind it -/
def atL (l : List Int) (i : Int) : Int := if 0 ≤ i ∧ i < l.length then l.getD i.toNat 0 else 0
theorem atL_bd {l : List Int} (h : Bs l) (i : Int) : 0 ≤ atL l i ∧ atL l i ≤ 255 := by
  unfold atL; split
  · rename_i hi
    have : i.toNat < l.length := by omega
    rw [List.getD_eq_getElem?_getD, List.getElem?_eq_getElem this]
    exact h _ (List.getElem_mem this)
  · omega

/-! the program's -/
theorem apart_any (a b : Int) (ha : -1000000 ≤ a ∧ a ≤ 1000000) (hb : -1000000 ≤ b ∧ b ≤ 1000000) (w : World) :
    Calls Try.prog 34 #[.int .i64 a, .int .i64 b] w fun e w' => e = .returned (.int .i64 (dist a b)) ∧ w = w' := by
  go_enter Try.func34, Try.ntmps34
  go_wp2
  all_goals go_ret
  all_goals exact ⟨ret_int (by unfold dist; omega), rfl⟩

theorem foretell_any (k a b c : Int) (ha : 0 ≤ a ∧ a ≤ 255) (hb : 0 ≤ b ∧ b ≤ 255) (hc : 0 ≤ c ∧ c ≤ 255) (w : World) :
    Calls Try.prog 28 #[.int .i64 k, .int .u8 a, .int .u8 b, .int .u8 c] w fun e w' => e = .returned (.int .u8 (fore k a b c)) ∧ w = w' := by
  by_cases h4 : k = 4
  · subst h4
    have hf : fore 4 a b c = pae a b c := by simp [fore]
    rw [hf]
    go_enter Try.func28, Try.ntmps28
    go_wp2_with fail
    refine (apart_any _ _ (by omega) (by omega) _).mono ?_; rintro e w' ⟨rfl, rfl⟩
    go_wp2_with fail
    refine (apart_any _ _ (by omega) (by omega) _).mono ?_; rintro e w' ⟨rfl, rfl⟩
    go_wp2_with fail
    refine (apart_any _ _ (by omega) (by omega) _).mono ?_; rintro e w' ⟨rfl, rfl⟩
    clear hf
    by_cases h1 : dist (a + b - c) a ≤ dist (a + b - c) b
    · by_cases h2 : dist (a + b - c) a ≤ dist (a + b - c) c
      · go_wp2
        all_goals go_ret
        all_goals exact ⟨ret_int (by unfold pae; (repeat' split) <;> first | rfl | omega), rfl⟩
      · by_cases h3 : dist (a + b - c) b ≤ dist (a + b - c) c
        · go_wp2
          all_goals go_ret
          all_goals exact ⟨ret_int (by unfold pae; (repeat' split) <;> first | rfl | omega), rfl⟩
        · go_wp2
          all_goals go_ret
          all_goals exact ⟨ret_int (by unfold pae; (repeat' split) <;> first | rfl | omega), rfl⟩
    · by_cases h3 : dist (a + b - c) b ≤ dist (a + b - c) c
      · go_wp2
        all_goals go_ret
        all_goals exact ⟨ret_int (by unfold pae; (repeat' split) <;> first | rfl | omega), rfl⟩
      · go_wp2
        all_goals go_ret
        all_goals exact ⟨ret_int (by unfold pae; (repeat' split) <;> first | rfl | omega), rfl⟩
  · by_cases h1 : k = 1
    · subst h1
      go_enter Try.func28, Try.ntmps28
      go_wp2
      go_ret
      exact ⟨ret_int (by simp [fore]), rfl⟩
    by_cases h2 : k = 2
    · subst h2
      go_enter Try.func28, Try.ntmps28
      go_wp2
      go_ret
      exact ⟨ret_int (by simp [fore]), rfl⟩
    by_cases h3 : k = 3
    · subst h3
      go_enter Try.func28, Try.ntmps28
      go_wp2
      go_ret
      exact ⟨ret_int (by simp [fore]), rfl⟩
    · go_enter Try.func28, Try.ntmps28
      go_wp2
      go_ret
      exact ⟨ret_int (by simp [fore, *]), rfl⟩

theorem at_any (A : Option Addr) (n c : Nat) (l : List Int) (i : Int) (w : World) (B : Nat) (h : Rd w B A (bv l)) (hn : n = l.length) (hi : -1000000 ≤ i ∧ i ≤ 1000000) (hl : l.length ≤ 1000000) :
    Calls Try.prog 31 #[.slice A n c, .int .i64 i] w fun e w' => e = .returned (.int .u8 (atL l i)) ∧ w = w' := by
  subst hn
  by_cases h0 : 0 ≤ i ∧ i < l.length
  · obtain ⟨b, off, rfl, hb, hc⟩ := h.at_ (k := i.toNat) (by simp [bv]; omega)
    obtain ⟨n, rfl⟩ := Int.eq_ofNat_of_zero_le h0.1
    have hn : n < l.length := by omega
    have hcell : w.cell? ⟨b, off + n, none⟩ = some (.int .u8 (l.getD n 0)) := hc n _ (by simp [bv, hn])
    clear hc h
    go_enter Try.func31, Try.ntmps31
    go_wp2
    go_ret
    exact ⟨ret_int (by simp [atL, hn]), rfl⟩
  · have : i < 0 ∨ (l.length : Int) ≤ i := by omega
    rcases this with h1 | h1
    · go_enter Try.func31, Try.ntmps31
      go_wp2
      go_ret
      exact ⟨ret_int (by rw [atL, if_neg (by omega)]), rfl⟩
    · have h2 : 0 ≤ i := by omega
      go_enter Try.func31, Try.ntmps31
      go_wp2
      go_ret
      exact ⟨ret_int (by rw [atL, if_neg (by omega)]), rfl⟩

/-! the document's -/
theorem far_any (a b : Int) (ha : -1000000 ≤ a ∧ a ≤ 1000000) (hb : -1000000 ≤ b ∧ b ≤ 1000000) (w : World) :
    Calls Try.prog 40 #[.int .i64 a, .int .i64 b] w fun e w' => e = .returned (.int .i64 (dist a b)) ∧ w = w' := by
  go_enter Try.func40, Try.ntmps40
  go_wp2
  all_goals go_ret
  all_goals exact ⟨ret_int (by unfold dist; omega), rfl⟩

theorem byteAt_any (A : Option Addr) (n c : Nat) (l : List Int) (i : Int) (w : World) (B : Nat) (h : Rd w B A (bv l)) (hl2 : Bs l) (hn : n = l.length) (hi : -1000000 ≤ i ∧ i ≤ 1000000) (hl : l.length ≤ 1000000) :
    Calls Try.prog 33 #[.slice A n c, .int .i64 i] w fun e w' => e = .returned (.int .i64 (atL l i)) ∧ w = w' := by
  subst hn
  by_cases h0 : 0 ≤ i ∧ i < l.length
  · obtain ⟨b, off, rfl, hb, hc⟩ := h.at_ (k := i.toNat) (by simp [bv]; omega)
    obtain ⟨n, rfl⟩ := Int.eq_ofNat_of_zero_le h0.1
    have hn : n < l.length := by omega
    have hcell : w.cell? ⟨b, off + n, none⟩ = some (.int .u8 (l.getD n 0)) := hc n _ (by simp [bv, hn])
    have hbd := atL_bd hl2 (n : Int)
    have hat : atL l n = l.getD n 0 := by simp [atL, hn]
    rw [hat] at hbd ⊢
    clear hc h hat
    generalize l.getD n 0 = x at *
    go_enter Try.func33, Try.ntmps33
    go_wp2
    go_ret
    exact ⟨rfl, rfl⟩
  · have : i < 0 ∨ (l.length : Int) ≤ i := by omega
    rcases this with h1 | h1
    · go_enter Try.func33, Try.ntmps33
      go_wp2
      go_ret
      exact ⟨ret_int (by rw [atL, if_neg (by omega)]), rfl⟩
    · have h2 : 0 ≤ i := by omega
      go_enter Try.func33, Try.ntmps33
      go_wp2
      go_ret
      exact ⟨ret_int (by rw [atL, if_neg (by omega)]), rfl⟩

theorem rforetell_any (k a b c : Int) (ha : 0 ≤ a ∧ a ≤ 255) (hb : 0 ≤ b ∧ b ≤ 255) (hc : 0 ≤ c ∧ c ≤ 255) (w : World) :
    Calls Try.prog 29 #[.int .i64 k, .int .i64 a, .int .i64 b, .int .i64 c] w fun e w' => e = .returned (.int .i64 (fore k a b c)) ∧ w = w' := by
  by_cases h4 : k = 4
  · subst h4
    have hf : fore 4 a b c = pae a b c := by simp [fore]
    rw [hf]
    go_enter Try.func29, Try.ntmps29
    go_wp2_with fail
    refine (far_any _ _ (by omega) (by omega) _).mono ?_; rintro e w' ⟨rfl, rfl⟩
    go_wp2_with fail
    refine (far_any _ _ (by omega) (by omega) _).mono ?_; rintro e w' ⟨rfl, rfl⟩
    by_cases h1 : dist (a + b - c) b < dist (a + b - c) a
    · go_wp2_with fail
      refine (far_any _ _ (by omega) (by omega) _).mono ?_; rintro e w' ⟨rfl, rfl⟩
      go_wp2_with fail
      refine (far_any _ _ (by omega) (by omega) _).mono ?_; rintro e w' ⟨rfl, rfl⟩
      by_cases h2 : dist (a + b - c) c < dist (a + b - c) b
      · go_wp2
        all_goals go_ret
        all_goals exact ⟨ret_int (by unfold pae; (repeat' split) <;> first | rfl | omega), rfl⟩
      · go_wp2
        all_goals go_ret
        all_goals exact ⟨ret_int (by unfold pae; (repeat' split) <;> first | rfl | omega), rfl⟩
    · go_wp2_with fail
      refine (far_any _ _ (by omega) (by omega) _).mono ?_; rintro e w' ⟨rfl, rfl⟩
      go_wp2_with fail
      refine (far_any _ _ (by omega) (by omega) _).mono ?_; rintro e w' ⟨rfl, rfl⟩
      by_cases h2 : dist (a + b - c) c < dist (a + b - c) a
      · go_wp2
        all_goals go_ret
        all_goals exact ⟨ret_int (by unfold pae; (repeat' split) <;> first | rfl | omega), rfl⟩
      · go_wp2
        all_goals go_ret
        all_goals exact ⟨ret_int (by unfold pae; (repeat' split) <;> first | rfl | omega), rfl⟩
  · by_cases h1 : k = 1
    · subst h1
      go_enter Try.func29, Try.ntmps29
      go_wp2
      go_ret
      exact ⟨ret_int (by simp [fore]), rfl⟩
    by_cases h2 : k = 2
    · subst h2
      go_enter Try.func29, Try.ntmps29
      go_wp2
      go_ret
      exact ⟨ret_int (by simp [fore]), rfl⟩
    by_cases h3 : k = 3
    · subst h3
      go_enter Try.func29, Try.ntmps29
      go_wp2
      go_ret
      exact ⟨ret_int (by simp [fore]; omega), rfl⟩
    · go_enter Try.func29, Try.ntmps29
      go_wp2
      go_ret
      exact ⟨ret_int (by simp [fore, *]), rfl⟩
end Go.Proofs.Ytimfpkoofgglkaa
