/-
  Reading by codes: the book's rows in the order of the codes; plain laws. No condition.
-/
import Derived.Test.YtlhappecjjbopaaCaK
namespace Go.Proofs.Ytlhappecjjbopaa
set_option linter.unusedVariables false

def lt_ (ls : List Int) (O : List Nat) (n : Nat) : List Nat := O.filter fun s => decide (ls.getD s 0 < (n : Int))
def gt_ (ls : List Int) (O : List Nat) (n : Nat) : List Nat := O.filter fun s => decide ((n : Int) < ls.getD s 0)
/-- an order by lengths falls into those below, those at, those above a length -/
theorem three (ls : List Int) (n : Nat) : ∀ O : List Nat, (O.Pairwise fun a b => ls.getD a 0 ≤ ls.getD b 0) → O = lt_ ls O n ++ (pj ls O n ++ gt_ ls O n)
  | [], _ => rfl
  | s :: O, h => by
    rw [List.pairwise_cons] at h
    have ih := three ls n O h.2
    unfold lt_ pj gt_ at *
    rcases Int.lt_trichotomy (ls.getD s 0) n with h1 | h1 | h1
    · rw [List.filter_cons_of_pos (by simp only [decide_eq_true_eq]; omega), List.filter_cons_of_neg (by simp only [decide_eq_true_eq]; omega), List.filter_cons_of_neg (by simp only [decide_eq_true_eq]; omega), List.cons_append, ← ih]
    · have hlt : O.filter (fun s => decide (ls.getD s 0 < (n : Int))) = [] := List.filter_eq_nil_iff.2 (fun t ht => by have := h.1 t ht; simp only [decide_eq_true_eq]; omega)
      rw [hlt] at ih
      rw [List.filter_cons_of_neg (by simp only [decide_eq_true_eq]; omega), List.filter_cons_of_pos (by simp only [decide_eq_true_eq]; omega), List.filter_cons_of_neg (by simp only [decide_eq_true_eq]; omega), hlt, List.nil_append, List.cons_append, ← List.nil_append (List.filter _ O ++ List.filter _ O), ← ih]
    · have hlt : O.filter (fun s => decide (ls.getD s 0 < (n : Int))) = [] := List.filter_eq_nil_iff.2 (fun t ht => by have := h.1 t ht; simp only [decide_eq_true_eq]; omega)
      have heq : O.filter (fun s => decide (ls.getD s 0 = (n : Int))) = [] := List.filter_eq_nil_iff.2 (fun t ht => by have := h.1 t ht; simp only [decide_eq_true_eq]; omega)
      rw [hlt, heq] at ih
      rw [List.filter_cons_of_neg (by simp only [decide_eq_true_eq]; omega), List.filter_cons_of_neg (by simp only [decide_eq_true_eq]; omega), List.filter_cons_of_pos (by simp only [decide_eq_true_eq]; omega), hlt, heq, List.nil_append, List.nil_append]
      exact congrArg (s :: ·) (by simpa using ih)
/-- how many longer ones are left -/
theorem open_step (ls : List Int) (n : Nat) : ∀ O : List Nat, (gt_ ls O n).length = (pj ls O (n + 1)).length + (gt_ ls O (n + 1)).length
  | [] => rfl
  | s :: O => by
    have ih := open_step ls n O
    unfold gt_ pj at *
    rcases Int.lt_trichotomy (ls.getD s 0) ((n + 1 : Nat) : Int) with h1 | h1 | h1
    · rw [List.filter_cons_of_neg (by simp only [decide_eq_true_eq]; omega), List.filter_cons_of_neg (by simp only [decide_eq_true_eq]; omega), List.filter_cons_of_neg (by simp only [decide_eq_true_eq]; omega)]; exact ih
    · rw [List.filter_cons_of_pos (by simp only [decide_eq_true_eq]; omega), List.filter_cons_of_pos (by simp only [decide_eq_true_eq]; omega), List.filter_cons_of_neg (by simp only [decide_eq_true_eq]; omega), List.length_cons, List.length_cons, ih]; omega
    · rw [List.filter_cons_of_pos (by simp only [decide_eq_true_eq]; omega), List.filter_cons_of_neg (by simp only [decide_eq_true_eq]; omega), List.filter_cons_of_pos (by simp only [decide_eq_true_eq]; omega), List.length_cons, List.length_cons, ih]; omega
theorem open_zero {ls : List Int} {O : List Nat} (h : ∀ s ∈ O, 1 ≤ ls.getD s 0) : gt_ ls O 0 = O := by
  unfold gt_
  rw [List.filter_eq_self]
  intro s hs
  have := h s hs
  simp only [decide_eq_true_eq]; omega
/-- the row of a length is a part of the order -/
theorem row_at {ls : List Int} {O : List Nat} (hs : O.Pairwise fun a b => ls.getD a 0 ≤ ls.getD b 0) (n t : Nat) (ht : t < (pj ls O n).length) : O[(lt_ ls O n).length + t]? = (pj ls O n)[t]? := by
  have h := three ls n O hs
  have h1 : O[(lt_ ls O n).length + t]? = (lt_ ls O n ++ (pj ls O n ++ gt_ ls O n))[(lt_ ls O n).length + t]? := congrArg (fun l => l[(lt_ ls O n).length + t]?) h
  rw [h1, List.getElem?_append_right (by omega), Nat.add_sub_cancel_left, List.getElem?_append_left ht]
theorem pj_mem {ls : List Int} {O : List Nat} {n t s : Nat} (h : (pj ls O n)[t]? = some s) : ls.getD s 0 = (n : Int) := by
  have := List.mem_of_getElem? h
  unfold pj at this
  exact of_decide_eq_true (List.mem_filter.1 this).2
/-- an index whose code has the length lies in the row -/
theorem in_row {ls : List Int} {O : List Nat} (hs : O.Pairwise fun a b => ls.getD a 0 ≤ ls.getD b 0) (n : Nat) {i s : Nat} (hi : O[i]? = some s) (hl : ls.getD s 0 = (n : Int)) : ∃ t, i = (lt_ ls O n).length + t ∧ t < (pj ls O n).length := by
  have h := three ls n O hs
  rw [h] at hi
  rcases Nat.lt_or_ge i (lt_ ls O n).length with h1 | h1
  · rw [List.getElem?_append_left h1] at hi
    have := of_decide_eq_true (List.mem_filter.1 (List.mem_of_getElem? hi)).2
    omega
  · rw [List.getElem?_append_right h1] at hi
    rcases Nat.lt_or_ge (i - (lt_ ls O n).length) (pj ls O n).length with h2 | h2
    · exact ⟨i - (lt_ ls O n).length, by omega, h2⟩
    · rw [List.getElem?_append_right h2] at hi
      have := of_decide_eq_true (List.mem_filter.1 (List.mem_of_getElem? hi)).2
      omega
theorem row_acc {ls : List Int} {O : List Nat} (hs : O.Pairwise fun a b => ls.getD a 0 ≤ ls.getD b 0) {n : Nat} (hn : 1 ≤ n ∧ n ≤ 16) : ∀ t : Nat, t ≤ (pj ls O n).length → acc (sz ls O) ((lt_ ls O n).length + t) = acc (sz ls O) (lt_ ls O n).length + t * 2 ^ (16 - n)
  | 0, _ => by simp
  | t + 1, h => by
    have ih := row_acc hs hn t (by omega)
    obtain ⟨s, he⟩ : ∃ s, (pj ls O n)[t]? = some s := ⟨(pj ls O n)[t]'(by omega), List.getElem?_eq_getElem _⟩
    have h1 := row_at hs n t (by omega)
    rw [he] at h1
    have h2 := (List.getElem?_eq_some_iff.1 h1).1
    rw [← Nat.add_assoc, acc_succ _ _ (by rw [sz_len]; exact h2), ih, sz_at h1, pj_mem he, wt_pos (by omega), Int.toNat_natCast, Int.natCast_succ, Int.add_mul, Int.one_mul]; omega
theorem row_hit {ls : List Int} {O : List Nat} (hs : O.Pairwise fun a b => ls.getD a 0 ≤ ls.getD b 0) (hz : Zs (sz ls O)) {n : Nat} (hn : 1 ≤ n ∧ n ≤ 16) {b : List Int} (hb : B01 b) (hbl : b.length = n) {x : Int} (hx : ∀ s, (pj ls O n)[0]? = some s → x = hv (cb (sz ls O) (lt_ ls O n).length)) :
    (∀ (t s : Nat), hv b - x = (t : Int) → (pj ls O n)[t]? = some s → Hit (sz ls O) ((lt_ ls O n).length + t) b ∧ O[(lt_ ls O n).length + t]? = some s) ∧
    (∀ i, Hit (sz ls O) i b → ∃ t : Nat, hv b - x = (t : Int) ∧ t < (pj ls O n).length) := by
  have hU := two_pos (16 - n)
  have hfirst : ∀ t, t < (pj ls O n).length → (lt_ ls O n).length < (sz ls O).length ∧ (cb (sz ls O) (lt_ ls O n).length).length = n ∧ x * 2 ^ (16 - n) = acc (sz ls O) (lt_ ls O n).length := fun t ht => by
    obtain ⟨s, he⟩ : ∃ s, (pj ls O n)[0]? = some s := ⟨(pj ls O n)[0]'(by omega), List.getElem?_eq_getElem _⟩
    have h1 := row_at hs n 0 (by omega)
    rw [he, Nat.add_zero] at h1
    have h2 : (lt_ ls O n).length < (sz ls O).length := by rw [sz_len]; exact (List.getElem?_eq_some_iff.1 h1).1
    have h3 : (cb (sz ls O) (lt_ ls O n).length).length = n := by rw [cb_len, sz_at h1, pj_mem he, Int.toNat_natCast]
    refine ⟨h2, h3, ?_⟩
    rw [hx s he, ← cb_acc hz h2, wt_len hz h2, h3]
  constructor
  · intro t s ht he
    have htl := (List.getElem?_eq_some_iff.1 he).1
    have h1 := row_at hs n t htl
    rw [he] at h1
    have h2 : (lt_ ls O n).length + t < (sz ls O).length := by rw [sz_len]; exact (List.getElem?_eq_some_iff.1 h1).1
    refine ⟨(hit_iff hz h2 hb).2 ⟨?_, ?_⟩, h1⟩
    · rw [cb_len, sz_at h1, pj_mem he, Int.toNat_natCast, hbl]
    · rw [row_acc hs hn t (by omega), ← (hfirst t htl).2.2, hbl, ← ht, ← Int.add_mul]; congr 1; omega
  · intro i hi
    have hil := hi.1
    obtain ⟨h1, h2⟩ := (hit_iff hz hil hb).1 hi
    rw [sz_len] at hil
    obtain ⟨s, he⟩ : ∃ s, O[i]? = some s := ⟨O[i], List.getElem?_eq_getElem _⟩
    have h3 : ls.getD s 0 = (n : Int) := by
      have := cb_lenI hz hi.1
      rw [sz_at he] at this
      omega
    obtain ⟨t, rfl, ht⟩ := in_row hs n he h3
    refine ⟨t, ?_, ht⟩
    rw [row_acc hs hn t (by omega), ← (hfirst t ht).2.2, hbl, ← Int.add_mul] at h2
    have := Int.eq_of_mul_eq_mul_right (show (2 : Int) ^ (16 - n) ≠ 0 by omega) h2
    omega
end Go.Proofs.Ytlhappecjjbopaa
