/-
  Own rows: what stays of them. No condition.
-/
import Derived.Test.YtlhappecjjbopaaLib
namespace Go.Proofs.Ytlhappecjjbopaa
open Go.RowKit
set_option linter.unusedVariables false

theorem own_keep {w w' : World} {base n : Nat} {e : TypeId} {v : Value} {xs : List Value} (h : w.ownsRow base e 1 v n xs) (hb : Below w.heap.size w w') : w'.ownsRow base e 1 v n xs :=
  (Fr.of_below (S := fun _ => False) hb).own h (fun _ _ f => f)
theorem own_short {w : World} {base n k g d : Nat} {e : TypeId} {xs ys : List Value} (h : w.ownsRow base e 1 (.slice (some ⟨g, 0, none⟩) (n + k) d) (n + k) (xs ++ ys)) (hx : xs.length = n) :
    w.ownsRow base e 1 (.slice (some ⟨g, 0, none⟩) n d) n xs := by
  refine ⟨by omega, .inr ?_⟩
  rcases h.2 with ⟨h1, _⟩ | ⟨g', cap, cur, hv, hb, hg, hnc, hcm, hcs, ht⟩
  · cases h1
  · injection hv with h1 _ h2
    injection h1 with h1
    injection h1 with h1
    subst h1 h2
    refine ⟨g, d, cur, rfl, hb, hg, by omega, hcm, hcs, ?_⟩
    have h3 : (cur.toList.take ((n + k) * 1)).take (n * 1) = (xs ++ ys).take (n * 1) := by rw [ht]
    rw [List.take_take, Nat.min_eq_left (by omega)] at h3
    rw [h3, Nat.mul_one]
    subst hx
    exact List.take_left
theorem fr_app2 {w w' : World} {v v' : Value} (hg : (v'.ownBlock = v.ownBlock ∧ w.grownBy w' v.ownBlock) ∨ (v'.ownBlock = some w.heap.size ∧ w.grownBy w' none)) : Fr (fun b => v.ownBlock = some b) w w' := by
  rcases hg with ⟨_, hg⟩ | ⟨_, hg⟩
  · exact (Fr.refl _ _).grown hg (fun b hb => .inl hb)
  · exact (Fr.refl _ _).grown hg (fun b hb => by cases hb)
theorem below_app2 {B : Nat} {w0 w w' : World} {base : Nat} {e : TypeId} {v v' : Value} {n : Nat} {xs : List Value} (hb : Below B w0 w) (hown : w.ownsRow base e 1 v n xs)
    (hg : (v'.ownBlock = v.ownBlock ∧ w.grownBy w' v.ownBlock) ∨ (v'.ownBlock = some w.heap.size ∧ w.grownBy w' none)) (hB : B ≤ base) (hB2 : B ≤ w.heap.size) : Below B w0 w' := by
  have hf := fr_app2 hg
  refine ⟨hf.os.trans hb.os, hf.tape.trans hb.tape, hf.output.trans hb.output, Nat.le_trans hb.size hf.size, fun b hb' => (hf.block b (by omega) (fun hs => ?_)).trans (hb.block b hb')⟩
  have := (hown.lt b hs).1
  omega
end Go.Proofs.Ytlhappecjjbopaa
