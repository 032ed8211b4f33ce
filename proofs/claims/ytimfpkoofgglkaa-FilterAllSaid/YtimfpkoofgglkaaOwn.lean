/-
  Own rows: what stays of them, lists of them in one slice. No condition.
-/
import Derived.Test.YtimfpkoofgglkaaApart
import Derived.Test.YtimfpkoofgglkaaKeep
namespace Go.Proofs.Ytimfpkoofgglkaa
open Go.RowKit
set_option linter.unusedVariables false

theorem Ls.lit (w : World) (base : Nat) (vl : List Value) (nl : List Nat) (hl : vl.length = nl.length) (hb : base ≤ w.heap.size)
    (h : ∀ (k : Nat) (v : Value) (n : Nat), vl[k]? = some v → nl[k]? = some n → n ≤ 1000000 ∧ ∃ xs, w.ownsRow base 5 1 v n xs)
    (hd : vl.Pairwise fun v v' => ∀ b, v.ownBlock = some b → v'.ownBlock ≠ some b) :
    Ls (w.alloc (.cells vl.toArray 26)) base w.heap.size vl.length (fun k => vl.getD k .nilIface) (fun k => nl.getD k 0) := by
  have hk : ∀ k, k < vl.length → ∃ v n, vl[k]? = some v ∧ nl[k]? = some n ∧ vl.getD k .nilIface = v ∧ nl.getD k 0 = n := fun k hk =>
    ⟨vl[k], nl[k], List.getElem?_eq_getElem hk, List.getElem?_eq_getElem (by omega), by simp [List.getD_eq_getElem?_getD, hk], by rw [List.getD_eq_getElem?_getD, List.getElem?_eq_getElem (by omega)]; rfl⟩
  refine ⟨by simp, hb, fun k hk' => ?_, fun k hk' => ?_, fun k hk' => ?_, fun i j b hi hj hij hbi => ?_, fun i b hi hbi => ?_⟩
  · obtain ⟨v, n, h1, h2, h3, h4⟩ := hk k hk'
    simp only [h3]
    rw [World.cell?_alloc_at _ _ _ _ rfl]
    simpa using h1
  · obtain ⟨v, n, h1, h2, h3, h4⟩ := hk k hk'
    simp only [h3, h4]
    obtain ⟨_, xs, hx⟩ := h k v n h1 h2
    exact ⟨xs, hx.alloc _⟩
  · obtain ⟨v, n, h1, h2, h3, h4⟩ := hk k hk'
    simp only [h4]
    exact (h k v n h1 h2).1
  · obtain ⟨v, n, h1, h2, h3, h4⟩ := hk i hi
    obtain ⟨v', n', h1', h2', h3', h4'⟩ := hk j hj
    simp only [h3, h3'] at hbi ⊢
    have hp := List.pairwise_iff_getElem.1 hd
    rw [List.getElem?_eq_getElem hi] at h1
    rw [List.getElem?_eq_getElem hj] at h1'
    injection h1 with h1
    injection h1' with h1'
    rcases Nat.lt_or_gt_of_ne hij with hlt | hlt
    · have := hp i j hi hj hlt b
      rw [h1, h1'] at this
      exact this hbi
    · intro hc
      have := hp j i hj hi hlt b
      rw [h1, h1'] at this
      exact this hc hbi
  · obtain ⟨v, n, h1, h2, h3, h4⟩ := hk i hi
    simp only [h3] at hbi
    obtain ⟨_, xs, hx⟩ := h i v n h1 h2
    have := (hx.lt b hbi).2
    omega
end Go.Proofs.Ytimfpkoofgglkaa
