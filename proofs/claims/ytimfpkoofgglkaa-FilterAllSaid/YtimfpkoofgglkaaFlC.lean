/-
  Filter: the checks, the fixed fact, the weights. Conditions: rows of at most 100000 bytes.
-/
import Derived.Test.YtimfpkoofgglkaaFlB
namespace Go.Proofs.Ytimfpkoofgglkaa
open Go.RowKit
set_option linter.unusedVariables false

/-- may a row be filtered so? -/
def Good (k p : Int) (n n2 : Nat) : Prop := (0 ≤ k ∧ k ≤ 4) ∧ (1 ≤ p ∧ p ≤ 8) ∧ (n2 = 0 ∨ n2 = n)
instance (k p : Int) (n n2 : Nat) : Decidable (Good k p n n2) := by unfold Good; infer_instance

theorem bad_any (k p : Int) (A A2 : Option Addr) (n n2 c c2 : Nat) (h : ¬ Good k p n n2) (hm : n ≤ 100000) (hm2 : n2 ≤ 100000) (w : World) :
    Calls Try.prog 30 #[.int .i64 k, .slice A n c, .slice A2 n2 c2, .int .i64 p] w fun e w' => e = .returned (errV 6) ∧ w = w' := by
  unfold Good at h
  by_cases h1 : k < 0
  · go_enter Try.func30, Try.ntmps30
    go_wp2
    go_ret
    exact ⟨rfl, rfl⟩
  by_cases h2 : 4 < k
  · go_enter Try.func30, Try.ntmps30
    go_wp2
    go_ret
    exact ⟨rfl, rfl⟩
  by_cases h3 : p < 1
  · go_enter Try.func30, Try.ntmps30
    go_wp2
    go_ret
    exact ⟨rfl, rfl⟩
  by_cases h4 : 8 < p
  · go_enter Try.func30, Try.ntmps30
    go_wp2
    go_ret
    exact ⟨rfl, rfl⟩
  have h5 : ((n2 : Int) != 0) = true := by rw [bne_iff_ne]; omega
  have h6 : ((n2 : Int) != (n : Int)) = true := by rw [bne_iff_ne]; omega
  clear h
  go_enter Try.func30, Try.ntmps30
  go_wp2
  all_goals go_ret
  all_goals exact ⟨rfl, rfl⟩

theorem filter_bad (k p : Int) (A A2 : Option Addr) (n n2 c c2 : Nat) (h : ¬ Good k p n n2) (hm : n ≤ 100000) (hm2 : n2 ≤ 100000) (w : World) :
    Calls Try.prog 13 #[.int .i64 k, .slice A n c, .slice A2 n2 c2, .int .i64 p] w fun e w' => e = .returned (.tuple #[.slice none 0 0, errV 6]) ∧ w = w' := by
  go_enter Try.func13, Try.ntmps13
  go_wp2_with fail
  refine (bad_any k p A A2 n n2 c c2 h hm hm2 _).mono ?_; rintro e w' ⟨rfl, rfl⟩
  unfold errV
  go_wp2
  go_ret2
  exact ⟨rfl, rfl⟩
theorem unfilter_bad (k p : Int) (A A2 : Option Addr) (n n2 c c2 : Nat) (h : ¬ Good k p n n2) (hm : n ≤ 100000) (hm2 : n2 ≤ 100000) (w : World) :
    Calls Try.prog 14 #[.int .i64 k, .slice A n c, .slice A2 n2 c2, .int .i64 p] w fun e w' => e = .returned (.tuple #[.slice none 0 0, errV 6]) ∧ w = w' := by
  go_enter Try.func14, Try.ntmps14
  go_wp2_with fail
  refine (bad_any k p A A2 n n2 c c2 h hm hm2 _).mono ?_; rintro e w' ⟨rfl, rfl⟩
  unfold errV
  go_wp2
  go_ret2
  exact ⟨rfl, rfl⟩

theorem Rd.new3 (w : World) (e : TypeId) (x y z : Value) : Rd (w.alloc (.cells #[x, y, z] e)) (w.heap.size + 1) (some ⟨w.heap.size, 0, none⟩) [x, y, z] := by
  refine .inr ⟨_, 0, rfl, by omega, fun k u hu => ?_⟩
  match k, hu with
  | 0, hu =>
    simp only [List.getElem?_cons_zero, Option.some.injEq] at hu
    subst hu
    rw [World.cell?_alloc_at _ _ _ _ rfl]; rfl
  | 1, hu =>
    simp only [List.getElem?_cons_succ, List.getElem?_cons_zero, Option.some.injEq] at hu
    subst hu
    rw [World.cell?_alloc_at _ _ _ _ rfl]; rfl
  | 2, hu =>
    simp only [List.getElem?_cons_succ, List.getElem?_cons_zero, Option.some.injEq] at hu
    subst hu
    rw [World.cell?_alloc_at _ _ _ _ rfl]; rfl

theorem alive14_any (w : World) : Calls Try.prog 10 #[] w fun e w' => e = .returned (.bool true) ∧ Below w.heap.size w w' := by
  have hf : fil 1 1 [1, 3, 6] [] = [1, 2, 3] := by decide
  have hb : bstr [1, 2, 3] = ⟨#[1, 2, 3]⟩ := rfl
  have h136 : Bs [1, 3, 6] := by intro x hx; simp at hx; omega
  go_enter Try.func10, Try.ntmps10
  go_wp2_with fail
  refine (filter_any 1 1 _ _ _ _ _ _ [1, 3, 6] [] _ (by omega) (by omega) rfl rfl ((Rd.new3 _ _ _ _ _).more (by simp)) (.inl rfl) h136 (by intro x hx; cases hx) (.inl rfl) (by simp)).mono ?_
  rintro e w1 ⟨v, rfl, hown, hbel⟩
  rw [hf] at hown
  obtain ⟨A, c, rfl, hR⟩ := own_slice hown
  have h1 := run_str Try.underlying26 Try.underlying5 Try.underlying9 hR (by intro x hx; simp at hx; omega) 3 c rfl
  rw [hb] at h1
  clear hf hb
  go_wp2
  go_ret
  exact ⟨rfl, ((Below.refl _ _).alloc (Nat.le_refl _) _).trans (hbel.mono (by simp))⟩

/-! a struct of four cells in a box of the call's own -/
structure Box4 (w : World) (g : Nat) (a b c d : Value) : Prop where
  lt : g < w.heap.size
  c0 : w.cell? ⟨g, 0, none⟩ = some a
  c1 : w.cell? ⟨g, 1, none⟩ = some b
  c2 : w.cell? ⟨g, 2, none⟩ = some c
  c3 : w.cell? ⟨g, 3, none⟩ = some d
theorem Box4.new (w : World) (t : TypeId) (a b c d : Value) : Box4 (w.alloc (.cells #[a, b, c, d] t)) w.heap.size a b c d :=
  ⟨by simp, by rw [World.cell?_alloc_at _ _ _ _ rfl]; rfl, by rw [World.cell?_alloc_at _ _ _ _ rfl]; rfl, by rw [World.cell?_alloc_at _ _ _ _ rfl]; rfl, by rw [World.cell?_alloc_at _ _ _ _ rfl]; rfl⟩
theorem Box4.below {w w' : World} {g B : Nat} {a b c d : Value} (h : Box4 w g a b c d) (hb : Below B w w') (hB : g < B) : Box4 w' g a b c d :=
  ⟨Nat.lt_of_lt_of_le h.lt hb.size, (hb.cell (p := ⟨g, 0, none⟩) hB).trans h.c0, (hb.cell (p := ⟨g, 1, none⟩) hB).trans h.c1, (hb.cell (p := ⟨g, 2, none⟩) hB).trans h.c2, (hb.cell (p := ⟨g, 3, none⟩) hB).trans h.c3⟩

theorem large_any (k p : Int) (A A2 : Option Addr) (n n2 c c2 : Nat) (hn : n ≤ 9223372036854775807) (hn2 : n2 ≤ 9223372036854775807) (w : World) :
    Calls Try.prog 11 #[.agg #[.int .i64 k, .slice A n c, .slice A2 n2 c2, .int .i64 p]] w fun e w' => e = .returned (.bool (decide (5000 < n ∨ 5000 < n2))) ∧ Below w.heap.size w w' := by
  by_cases h1 : 5000 < n
  · go_enter Try.func11, Try.ntmps11
    go_wp2
    go_ret
    exact ⟨ret_bool (by first | rfl | (rw [Bool.eq_iff_iff]; simp; omega)), by go_grown⟩
  · by_cases h2 : 5000 < n2
    · go_enter Try.func11, Try.ntmps11
      go_wp2
      go_ret
      exact ⟨ret_bool (by first | rfl | (rw [Bool.eq_iff_iff]; simp; omega)), by go_grown⟩
    · go_enter Try.func11, Try.ntmps11
      go_wp2
      go_ret
      exact ⟨ret_bool (by first | rfl | (rw [Bool.eq_iff_iff]; simp; omega)), by go_grown⟩
theorem large_is (k p : Int) (A A2 : Option Addr) (n n2 c c2 : Nat) (b : Bool) (h : decide (5000 < n ∨ 5000 < n2) = b) (hn : n ≤ 9223372036854775807) (hn2 : n2 ≤ 9223372036854775807) (w : World) :
    Calls Try.prog 11 #[.agg #[.int .i64 k, .slice A n c, .slice A2 n2 c2, .int .i64 p]] w fun e w' => e = .returned (.bool b) ∧ Below w.heap.size w w' := by
  subst h; exact large_any k p A A2 n n2 c c2 hn hn2 w
end Go.Proofs.Ytimfpkoofgglkaa
