/-
  A struct that came in, opened field by field, whatever its fields are. No condition.
-/
import Derived.Test.YtlhappecjjbopaaLib
import Derived.Deep.Slices
namespace Go.Proofs.Ytlhappecjjbopaa
open Go.ChangeShapes Go.WideShapes Go.ChangeAt Go.WideMaps Go.WideElems Go.RowKit Go.Joins
set_option linter.unusedVariables false
section
variable {H : Type} {enc : TypeId × Value → H} {P : Program} {w : World} {base : Nat} {spare : Nat → Bool} {held : Bool}
theorem sub_str {t : TypeId} {fs : Array Field} {fuel : Nat} {cs : List Value} {x : DataW H × List MemPlace} (hs : P.underlying t = some (.struct fs)) (h : DataW.trod enc P w base spare held fuel t cs = some x) :
    cs.length = P.cellsOf t ∧ ∃ n, ∀ (j : Nat) (f : Field), fs[j]? = some f → ∃ y, DataW.trod enc P w base spare held n f.type ((cs.drop f.offset).take (P.cellsOf f.type)) = some y := by
  obtain ⟨xs, n, _, _, hl, hlen, hg⟩ := DataW.trod_struct hs h
  refine ⟨hl, n, fun j f hf => ?_⟩
  have hj : j < fs.size := (Array.getElem?_eq_some_iff.1 hf).1
  exact ⟨xs[j]'(by omega), by rw [hg j f hf, List.getElem?_eq_getElem]⟩
theorem open_str {r : Reach} {b0 : Nat} {t : TypeId} {fs : Array Field} {v : Value} {d : DataW H} {p : List MemPlace} (hs : P.underlying t = some (.struct fs)) (hv : Value.okWide P w r b0 t v) (h : DataW.Trod enc P w base spare held t v d p) :
    ∃ l : List Value, v = .agg l.toArray ∧ l.length = P.cellsOf t ∧ ∃ n, ∀ (j : Nat) (f : Field), fs[j]? = some f → ∃ y, DataW.trod enc P w base spare held n f.type ((l.drop f.offset).take (P.cellsOf f.type)) = some y := by
  obtain ⟨cs, rfl, hsz⟩ := okWide_struct hs hv
  obtain ⟨fuel, hf⟩ := h
  exact ⟨cs.toList, by simp, by simpa using hsz, (sub_str hs (by simpa [Value.cells] using hf)).2⟩
end
theorem len_cons {α : Type} {l : List α} {n : Nat} (h : l.length = n + 1) : ∃ a l', l = a :: l' ∧ l'.length = n := by
  match l, h with
  | a :: l', h => exact ⟨a, l', rfl, by simpa using h⟩
theorem len_nil {α : Type} {l : List α} (h : l.length = 0) : l = [] := List.eq_nil_of_length_eq_zero h

theorem choose_rows {Q : List Value → Prop} {R : Nat → List Value → Prop} : ∀ n : Nat, (∀ i, i < n → ∃ r, Q r ∧ R i r) → ∃ rows : List (List Value), rows.length = n ∧ (∀ r ∈ rows, Q r) ∧ ∀ i r, rows[i]? = some r → R i r
  | 0, _ => ⟨[], rfl, by simp, by simp⟩
  | n + 1, h => by
    obtain ⟨rows, hl, hq, hr⟩ := choose_rows n (fun i hi => h i (by omega))
    obtain ⟨r, h1, h2⟩ := h n (by omega)
    refine ⟨rows ++ [r], by simp [hl], fun x hx => ?_, fun i x hx => ?_⟩
    · rcases List.mem_append.1 hx with hx | hx
      · exact hq x hx
      · simp at hx; subst hx; exact h1
    · by_cases hi : i < n
      · rw [List.getElem?_append_left (by omega)] at hx; exact hr i x hx
      · rw [List.getElem?_append_right (by omega)] at hx
        have h0 : i = n := by
          have := (List.getElem?_eq_some_iff.1 hx).1
          simp at this; omega
        subst h0
        simp [hl] at hx; subst hx; exact h2
theorem flatten_at {m : Nat} : ∀ (rows : List (List Value)), (∀ r ∈ rows, r.length = m) → ∀ (k : Nat) (u : Value), rows.flatten[k]? = some u → ∃ i j r, k = i * m + j ∧ j < m ∧ rows[i]? = some r ∧ r[j]? = some u
  | [], _, k, u, h => by simp at h
  | r :: rows, hm, k, u, h => by
    have hr := hm r (by simp)
    rw [List.flatten_cons] at h
    by_cases hk : k < m
    · rw [List.getElem?_append_left (by omega)] at h
      exact ⟨0, k, r, by omega, hk, rfl, h⟩
    · rw [List.getElem?_append_right (by omega), hr] at h
      obtain ⟨i, j, r', h1, h2, h3, h4⟩ := flatten_at rows (fun x hx => hm x (by simp [hx])) (k - m) u h
      exact ⟨i + 1, j, r', by rw [Nat.succ_mul]; omega, h2, by simpa using h3, h4⟩
/-- a slice that came in, its elements of m cells each -/
theorem open_rows {H : Type} {enc : TypeId × Value → H} {P : Program} {W : World} {spare : Nat → Bool} {held : Bool} {t e : TypeId} {fuel m : Nat} {v : Value} {x : DataW H × List MemPlace} {Q : List Value → Prop}
    (ht : P.underlying t = some (.slice e)) (hc : P.cellsOf e = m) (hm : 0 < m)
    (hQ : ∀ n cs y, cs.length = m → DataW.trod enc P W 0 spare held n e cs = some y → Q cs)
    (h : DataW.trod enc P W 0 spare held fuel t [v] = some x) :
    ∃ (A : Option Addr) (n c : Nat) (rows : List (List Value)), v = .slice A n c ∧ rows.length = n ∧ n ≤ c ∧ c ≤ 9223372036854775807 ∧ (∀ r ∈ rows, r.length = m ∧ Q r) ∧ Rd W W.heap.size A rows.flatten := by
  rcases Go.Deep.open_slice ht h with ⟨hcs, _⟩ | ⟨a, len, cap, m', n, D, Pl, hcs, _, hl, hmx, hmm, _, hi⟩
  · simp only [List.cons.injEq, and_true] at hcs
    exact ⟨none, 0, 0, [], hcs, rfl, Nat.le_refl _, by omega, by simp, .inl rfl⟩
  · simp only [List.cons.injEq, and_true] at hcs
    unfold maxLen at hmx
    have hlm : len ≤ m' := by rw [hmm]; split <;> omega
    obtain ⟨rows, h1, h2, h3⟩ := choose_rows (Q := fun r => r.length = m ∧ Q r) (R := fun i r => ∀ j, j < m → W.cell? ((a.add (i * m)).add j) = r[j]?) len (fun i hil => by
      obtain ⟨cs', hc1, hc2⟩ := hi i (by omega)
      rw [hc] at hc1
      obtain ⟨_, hlen, hcell⟩ := World.cells?_some hc1
      exact ⟨cs', ⟨hlen, hQ n cs' _ hlen hc2⟩, hcell⟩)
    refine ⟨some a, len, cap, rows, hcs, h1, hl, hmx, h2, ?_⟩
    by_cases h0 : len = 0
    · subst h0; left; rw [List.eq_nil_of_length_eq_zero h1]; rfl
    · have hr0 : ∃ r, rows[0]? = some r := ⟨rows[0]'(by omega), List.getElem?_eq_getElem _⟩
      obtain ⟨r0, hr0⟩ := hr0
      have hc0 := h3 0 r0 hr0 0 hm
      have hl0 := (h2 r0 (List.mem_of_getElem? hr0)).1
      rw [List.getElem?_eq_getElem (by omega)] at hc0
      simp only [Nat.zero_mul] at hc0
      obtain ⟨b, o, spot⟩ := a
      have hspot : spot = none := by simpa [Addr.add] using World.cell?_spot hc0
      subst hspot
      rw [add_flat, add_flat] at hc0
      refine .inr ⟨b, o, rfl, World.block_lt_of_cell? W _ hc0, fun k u hu => ?_⟩
      obtain ⟨i, j, r, rfl, hj, hri, hrj⟩ := flatten_at rows (fun r hr => (h2 r hr).1) k u hu
      have := h3 i r hri j hj
      rw [add_flat, add_flat, hrj, Nat.add_assoc] at this
      exact this
theorem flatten_get {m : Nat} : ∀ (rows : List (List Value)), (∀ r ∈ rows, r.length = m) → ∀ (i j : Nat) (r : List Value) (u : Value), rows[i]? = some r → r[j]? = some u → rows.flatten[i * m + j]? = some u
  | [], _, i, j, r, u, h, _ => by simp at h
  | r0 :: rows, hm, i, j, r, u, h, hu => by
    have hr0 := hm r0 (by simp)
    match i with
    | 0 =>
      simp at h; subst h
      rw [List.flatten_cons, Nat.zero_mul, Nat.zero_add, List.getElem?_append_left (List.getElem?_eq_some_iff.1 hu).1]; exact hu
    | i + 1 =>
      rw [List.flatten_cons, List.getElem?_append_right (by rw [Nat.succ_mul]; omega), hr0, show (i + 1) * m + j - m = i * m + j by rw [Nat.succ_mul]; omega]
      exact flatten_get rows (fun x hx => hm x (by simp [hx])) i j r u (by simpa using h) hu
/-- a row of integers -/
def I3 (r : List Value) : Prop := ∃ a b c : Int, r = [.int .i64 a, .int .i64 b, .int .i64 c] ∧ (-9223372036854775808 ≤ a ∧ a ≤ 9223372036854775807) ∧ (-9223372036854775808 ≤ b ∧ b ≤ 9223372036854775807) ∧ (-9223372036854775808 ≤ c ∧ c ≤ 9223372036854775807)
end Go.Proofs.Ytlhappecjjbopaa
