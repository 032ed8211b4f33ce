/-
  Own rows: what stays of them, lists of them in one slice. No condition.
-/
import Derived.Test.YtkmgojoojboidaaApart
namespace Go.Proofs.Ytkmgojoojboidaa
open Go.RowKit
set_option linter.unusedVariables false

theorem own_keep {w w' : World} {base n : Nat} {e : TypeId} {v : Value} {xs : List Value} (h : w.ownsRow base e 1 v n xs) (hb : Below w.heap.size w w') : w'.ownsRow base e 1 v n xs :=
  (Fr.of_below (S := fun _ => False) hb).own h (fun _ _ f => f)
theorem own_short {w : World} {base n k g d : Nat} {e : TypeId} {xs ys : List Value} (h : w.ownsRow base e 1 (.slice (some ⟨g, 0, none⟩) (n + k) d) (n + k) (xs ++ ys)) (hx : xs.length = n) :
    w.ownsRow base e 1 (.slice (some ⟨g, 0, none⟩) n d) n xs := by
  refine ⟨by omega, .inr ?_⟩
  rcases h.2 with ⟨h1, _⟩ | ⟨g', cap, cur, hv, hb, hg, hnc, hcm, hcs, ht⟩
  · cases h1
  · injection hv with h1 _ h2
    injection h1 with h1
    injection h1 with h1
    subst h1 h2
    refine ⟨g, d, cur, rfl, hb, hg, by omega, hcm, hcs, ?_⟩
    have h3 : (cur.toList.take ((n + k) * 1)).take (n * 1) = (xs ++ ys).take (n * 1) := by rw [ht]
    rw [List.take_take, Nat.min_eq_left (by omega)] at h3
    rw [h3, Nat.mul_one]
    subst hx
    exact List.take_left
theorem Ls.lit (w : World) (base : Nat) (vl : List Value) (nl : List Nat) (hl : vl.length = nl.length) (hb : base ≤ w.heap.size)
    (h : ∀ (k : Nat) (v : Value) (n : Nat), vl[k]? = some v → nl[k]? = some n → n ≤ 1000000 ∧ ∃ xs, w.ownsRow base 5 1 v n xs)
    (hd : vl.Pairwise fun v v' => ∀ b, v.ownBlock = some b → v'.ownBlock ≠ some b) :
    Ls (w.alloc (.cells vl.toArray 22)) base w.heap.size vl.length (fun k => vl.getD k .nilIface) (fun k => nl.getD k 0) := by
  have hk : ∀ k, k < vl.length → ∃ v n, vl[k]? = some v ∧ nl[k]? = some n ∧ vl.getD k .nilIface = v ∧ nl.getD k 0 = n := fun k hk =>
    ⟨vl[k], nl[k], List.getElem?_eq_getElem hk, List.getElem?_eq_getElem (by omega), by simp [List.getD_eq_getElem?_getD, hk], by rw [List.getD_eq_getElem?_getD, List.getElem?_eq_getElem (by omega)]; rfl⟩
  refine ⟨by simp, hb, fun k hk' => ?_, fun k hk' => ?_, fun k hk' => ?_, fun i j b hi hj hij hbi => ?_, fun i b hi hbi => ?_⟩
  · obtain ⟨v, n, h1, h2, h3, h4⟩ := hk k hk'
    simp only [h3]
    rw [World.cell?_alloc_at _ _ _ _ rfl]
    simpa using h1
  · obtain ⟨v, n, h1, h2, h3, h4⟩ := hk k hk'
    simp only [h3, h4]
    obtain ⟨_, xs, hx⟩ := h k v n h1 h2
    exact ⟨xs, hx.alloc _⟩
  · obtain ⟨v, n, h1, h2, h3, h4⟩ := hk k hk'
    simp only [h4]
    exact (h k v n h1 h2).1
  · obtain ⟨v, n, h1, h2, h3, h4⟩ := hk i hi
    obtain ⟨v', n', h1', h2', h3', h4'⟩ := hk j hj
    simp only [h3, h3'] at hbi ⊢
    have hp := List.pairwise_iff_getElem.1 hd
    rw [List.getElem?_eq_getElem hi] at h1
    rw [List.getElem?_eq_getElem hj] at h1'
    injection h1 with h1
    injection h1' with h1'
    rcases Nat.lt_or_gt_of_ne hij with hlt | hlt
    · have := hp i j hi hj hlt b
      rw [h1, h1'] at this
      exact this hbi
    · intro hc
      have := hp j i hj hi hlt b
      rw [h1, h1'] at this
      exact this hc hbi
  · obtain ⟨v, n, h1, h2, h3, h4⟩ := hk i hi
    simp only [h3] at hbi
    obtain ⟨_, xs, hx⟩ := h i v n h1 h2
    have := (hx.lt b hbi).2
    omega
theorem fr_app2 {w w' : World} {v v' : Value} (hg : (v'.ownBlock = v.ownBlock ∧ w.grownBy w' v.ownBlock) ∨ (v'.ownBlock = some w.heap.size ∧ w.grownBy w' none)) : Fr (fun b => v.ownBlock = some b) w w' := by
  rcases hg with ⟨_, hg⟩ | ⟨_, hg⟩
  · exact (Fr.refl _ _).grown hg (fun b hb => .inl hb)
  · exact (Fr.refl _ _).grown hg (fun b hb => by cases hb)
theorem below_app2 {B : Nat} {w0 w w' : World} {base : Nat} {e : TypeId} {v v' : Value} {n : Nat} {xs : List Value} (hb : Below B w0 w) (hown : w.ownsRow base e 1 v n xs)
    (hg : (v'.ownBlock = v.ownBlock ∧ w.grownBy w' v.ownBlock) ∨ (v'.ownBlock = some w.heap.size ∧ w.grownBy w' none)) (hB : B ≤ base) (hB2 : B ≤ w.heap.size) : Below B w0 w' := by
  have hf := fr_app2 hg
  refine ⟨hf.os.trans hb.os, hf.tape.trans hb.tape, hf.output.trans hb.output, Nat.le_trans hb.size hf.size, fun b hb' => (hf.block b (by omega) (fun hs => ?_)).trans (hb.block b hb')⟩
  have := (hown.lt b hs).1
  omega
end Go.Proofs.Ytkmgojoojboidaa
