/-
  Arrays of integers, and structs that hold some, as arguments. No condition.
  An array as an argument. No condition.
-/
import Derived.Test.YtlhappecjjbopaaLib
namespace Go.Proofs.Ytlhappecjjbopaa
open Go.ChangeShapes Go.WideShapes Go.ChangeAt Go.WideMaps Go.WideElems Go.RowKit
set_option linter.unusedVariables false

def intO : Value → Int
  | .int _ n => n
  | _ => 0
section
variable {H : Type} {enc : TypeId × Value → H} {P : Program} {w : World} {base : Nat} {spare : Nat → Bool} {held : Bool} {fuel : Nat} {x : DataW H × List MemPlace}
theorem arr_ints {t e : TypeId} {N : Nat} {cs : List Value} (ht : P.underlying t = some (.array N e)) (he : P.underlying e = some (.int .i64)) (hc : P.cellsOf e = 1) (hct : P.cellsOf t = N)
    (h : DataW.trod enc P w base spare held fuel t cs = some x) : ∃ l : List Int, cs = iv l ∧ l.length = N ∧ Is l := by
  obtain ⟨xs, m, rfl, _, hl, hxl, hg⟩ := DataW.trod_array ht h
  rw [hct] at hl
  have key : ∀ i, i < N → ∃ z : Int, cs[i]? = some (.int .i64 z) ∧ -9223372036854775808 ≤ z ∧ z ≤ 9223372036854775807 := fun i hi => by
    have h1 := hg i hi
    rw [hc, Nat.mul_one, List.getElem?_eq_getElem (by omega)] at h1
    obtain ⟨z, hz, _, hw⟩ := DataW.trod_int he h1
    have hcs : cs[i]? = some (.int .i64 z) := by
      have h2 : ((cs.drop i).take 1)[0]? = some (.int .i64 z) := by rw [hz]; rfl
      rw [List.getElem?_take] at h2
      simpa using h2
    exact ⟨z, hcs, wf_i hw⟩
  refine ⟨cs.map intO, ?_, by rw [List.length_map]; exact hl, fun z hz => ?_⟩
  · refine List.ext_getElem? (fun i => ?_)
    rw [iv, List.map_map, List.getElem?_map]
    by_cases hi : i < N
    · obtain ⟨z, hz, _⟩ := key i hi
      rw [hz]; rfl
    · rw [List.getElem?_eq_none (by omega)]; rfl
  · obtain ⟨v, hv, rfl⟩ := List.mem_map.1 hz
    obtain ⟨i, hi⟩ := List.mem_iff_getElem?.1 hv
    have hil := (List.getElem?_eq_some_iff.1 hi).1
    obtain ⟨z, hz, hb⟩ := key i (by omega)
    rw [hi] at hz
    injection hz with hz
    subst hz
    exact hb
end
theorem parts_cons {α : Type} {l : List α} {o n : Nat} {p r : List α} (h : (l.drop o).take n = p) (hr : l.drop (o + n) = r) : l.drop o = p ++ r := by
  rw [← h, ← hr, ← List.drop_drop, List.take_append_drop]
theorem parts_nil {α : Type} {l : List α} {o : Nat} (h : l.length = o) : l.drop o = [] := List.drop_of_length_le (by omega)
theorem take_one {α : Type} {l : List α} {o : Nat} (h : o < l.length) : ∃ v, (l.drop o).take 1 = [v] := by
  rw [List.drop_eq_getElem_cons h]
  exact ⟨l[o], rfl⟩
/-- a row of N integers -/
def IvN (N : Nat) (r : List Value) : Prop := ∃ l : List Int, r = iv l ∧ l.length = N ∧ Is l
end Go.Proofs.Ytlhappecjjbopaa
namespace Go.Proofs.Ytlhappecjjbopaa
open Go.ChangeShapes Go.WideShapes Go.ChangeAt Go.WideMaps Go.WideElems Go.RowKit
set_option linter.unusedVariables false
theorem okWide_array {P : Program} {w : World} {r : Reach} {base : Nat} {t e : TypeId} {v : Value} {n : Nat} (ht : P.underlying t = some (.array n e)) (h : Value.okWide P w r base t v) : ∃ cs, v = .agg cs ∧ cs.size = P.cellsOf t := by
  simp only [Value.okWide, ht] at h
  obtain ⟨cs, h1, h2, _⟩ := h
  exact ⟨cs, h1, h2⟩
end Go.Proofs.Ytlhappecjjbopaa
