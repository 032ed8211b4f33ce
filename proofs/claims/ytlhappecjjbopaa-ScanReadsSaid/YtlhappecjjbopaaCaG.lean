/-
  canon's book: a block of several cells; bind, NewBook, by contracts. No condition.
-/
import Derived.Test.YtlhappecjjbopaaCaF
namespace Go.Proofs.Ytlhappecjjbopaa
open Go.RowKit
set_option linter.unusedVariables false
set_option maxRecDepth 100000

/-! a block of several cells -/
def Bln (w : World) (p : Nat) (t : TypeId) (xs : List Value) : Prop := w.heap[p]? = some (.cells xs.toArray t (0, 0))
section
variable {w w' : World} {p : Nat} {t : TypeId} {xs : List Value}
theorem Bln.lt (h : Bln w p t xs) : p < w.heap.size := (Array.getElem?_eq_some_iff.1 h).1
theorem Bln.cell (h : Bln w p t xs) {i : Nat} {u : Value} (hu : xs[i]? = some u) : w.cell? ⟨p, i, none⟩ = some u := by
  unfold Bln at h; simp [World.cell?, h, hu]
theorem Bln.fz (h : Bln w p t xs) {i : Nat} (hi : i < xs.length) : w.frozen? ⟨p, i, none⟩ = false := by
  unfold Bln at h; simp [World.frozen?, h]
theorem Bln.keep (h : Bln w p t xs) {S : Nat → Prop} (hf : Fr S w w') (hs : ¬ S p) : Bln w' p t xs := (hf.block p h.lt hs).trans h
theorem Bln.below (h : Bln w p t xs) (hb : Below w.heap.size w w') : Bln w' p t xs := (hb.block p h.lt).trans h
theorem Bln.drew (h : Bln w p t xs) : Bln w.drew p t xs := h
theorem Bln.new (w : World) (t : TypeId) (xs : List Value) : Bln (w.alloc (.cells xs.toArray t)) w.heap.size t xs := heap_alloc_new w _
theorem Bln.set (h : Bln w p t xs) (i : Nat) (u : Value) : Bln (w.setCell ⟨p, i, none⟩ u) p t (xs.set i u) := by
  have hlt := h.lt
  have h' : w.heap[p] = .cells xs.toArray t := by unfold Bln at h; simpa [Array.getElem?_eq_getElem hlt] using h
  show (w.heap.modify p _)[p]? = _
  rw [Array.getElem?_eq_getElem (by simpa using hlt), Array.getElem_modify_self, h']
  simp
end
set_option maxHeartbeats 400000 in
theorem cloneInts_any (A : Option Addr) (n c : Nat) (l : List Int) (w : World) (hn : l.length = n) (hR : Rd w w.heap.size A (iv l)) (hm : n ≤ 1099511627776) :
    Calls Try.prog 140 #[.slice A n c] w fun e w' => ∃ v, e = .returned v ∧ w'.ownsRow w.heap.size 3 1 v n (iv l) ∧ Below w.heap.size w w' := by
  obtain ⟨i0, hi, hz0, hz1, hz2⟩ := info_parts Try.info_int
  have HN := Lib.hid hn
  clear hn
  rcases A with _ | ad
  · have h0 : n = 0 := by
      rcases hR with h | ⟨b, off, hA, _⟩
      · have := congrArg List.length h
        rw [iv_len, HN.out] at this; simpa using this
      · cases hA
    obtain rfl : l = [] := List.eq_nil_of_length_eq_zero (by rw [HN.out, h0])
    subst h0
    have hnil := fun W : World => Lib.run_eql_slice_nil (P := Try.prog) W 24 3 none 0 c 0 0 Try.underlying24
    go_enter Try.func140, Try.ntmps140
    go_wp2
    go_ret
    exact ⟨_, rfl, World.ownsRow_nil _ _ _ _, Below.refl _ _⟩
  · have hb0 : Below w.heap.size w (w.alloc (.cells #[] 3)) := (Below.refl _ _).alloc (Nat.le_refl _) _
    have hown0 : (w.alloc (.cells #[] 3)).ownsRow w.heap.size 3 1 (.slice (some ⟨w.heap.size, 0, none⟩) 0 0) 0 [] :=
      World.ownsRow_made w #[] 0 (Nat.le_refl _) (by unfold maxLen; omega) (by simp)
    have hR0 := hR.below hb0
    have hnil := fun W : World => Lib.run_eql_slice_nil (P := Try.prog) W 24 3 (some ad) n c 0 0 Try.underlying24
    go_enter Try.func140, Try.ntmps140
    go_wp2_with (at_builtin; refine wpList_app2 _ rfl (.tmp 5) (.tmp 6) 24 rfl Try.underlying24 hi hz0 hz1 hz2 rfl hown0 rfl rfl hR0 (by rw [iv_len, HN.out]) (one_iv l) (by omega) (by omega) hb0.size ?_; intro v1 w1 hown1 hg1; have hb1 : Below w.heap.size w w1 := below_app2 hb0 hown0 hg1 (Nat.le_refl _) hb0.size; simp only [Nat.zero_add, List.nil_append] at hown1)
    go_ret
    exact ⟨_, rfl, hown1, hb1⟩

/-! the book's rows -/
def pj (ls : List Int) (O : List Nat) (j : Nat) : List Nat := O.filter fun s => decide (ls.getD s 0 = (j : Int))
theorem pj_snoc (ls : List Int) (O : List Nat) (j s : Nat) : pj ls (O ++ [s]) j = if ls.getD s 0 = (j : Int) then pj ls O j ++ [s] else pj ls O j := by
  unfold pj
  rw [List.filter_append]
  by_cases h : ls.getD s 0 = (j : Int)
  · rw [if_pos h]; simp only [List.filter_cons, List.filter_nil, h, decide_true, if_true]
  · rw [if_neg h]; simp only [List.filter_cons, List.filter_nil, h, decide_false, Bool.false_eq_true, if_false, List.append_nil]
theorem pj_len (ls : List Int) (O : List Nat) (j : Nat) : (pj ls O j).length ≤ O.length := List.length_filter_le _ _
/-- rows in the making, all in blocks of their own -/
structure Rw (w : World) (B : Nat) (F : Nat → Int) (R : Nat → Value) (ls C : List Int) (T : List Nat) : Prop where
  own : ∀ j, w.ownsRow B 3 1 (R j) (pj ls T j).length (nv (pj ls T j))
  off : ∀ i j b, i ≠ j → (R i).ownBlock = some b → (R j).ownBlock ≠ some b
  fst : ∀ j s, (pj ls T j)[0]? = some s → F j = C.getD s 0
theorem Rw.keep {S : Nat → Prop} {w w' : World} {B : Nat} {F : Nat → Int} {R : Nat → Value} {ls C : List Int} {T : List Nat} (h : Rw w B F R ls C T) (hf : Fr S w w') (hS : ∀ b, B ≤ b → b < w.heap.size → ¬ S b) : Rw w' B F R ls C T :=
  ⟨fun j => hf.ownN (h.own j) (fun b hb => hS b ((h.own j).lt b hb).1 ((h.own j).lt b hb).2), h.off, h.fst⟩
theorem Rw.below {w w' : World} {B : Nat} {F : Nat → Int} {R : Nat → Value} {ls C : List Int} {T : List Nat} (h : Rw w B F R ls C T) (hb : Below w.heap.size w w') : Rw w' B F R ls C T :=
  h.keep (S := fun _ => False) (Fr.of_below hb) (fun _ _ _ f => f)
theorem Rw.step {w w' : World} {B : Nat} {F : Nat → Int} {R : Nat → Value} {ls C : List Int} {T : List Nat} {s l : Nat} {v : Value} {x : Int} (h : Rw w B F R ls C T) (hl : ls.getD s 0 = (l : Int))
    (ho : w'.ownsRow B 3 1 v (pj ls (T ++ [s]) l).length (nv (pj ls (T ++ [s]) l))) (hp : Ap w w' (R l) v) (hx : (pj ls T l = [] ∧ x = C.getD s 0) ∨ (pj ls T l ≠ [] ∧ x = F l)) :
    Rw w' B (fun j => if j = l then x else F j) (fun j => if j = l then v else R j) ls C (T ++ [s]) := by
  have hne : ∀ j, j ≠ l → pj ls (T ++ [s]) j = pj ls T j := fun j hj => by
    rw [pj_snoc, if_neg (fun e => hj (by omega))]
  refine ⟨fun j => ?_, fun i j b hij hi hj => ?_, fun j t ht => ?_⟩
  · by_cases hj : j = l
    · subst hj; rw [if_pos rfl]; exact ho
    · rw [if_neg hj, hne j hj]
      exact hp.fr.ownN (h.own j) (fun b h1 h2 => h.off j l b hj h1 h2)
  · by_cases h1 : i = l
    · subst h1
      rw [if_pos rfl] at hi
      rw [if_neg (fun e => hij e.symm)] at hj
      rcases hp.row b hi with h2 | h2
      · exact h.off _ j b hij h2 hj
      · have := ((h.own j).lt b hj).2; omega
    · rw [if_neg h1] at hi
      by_cases h2 : j = l
      · subst h2
        rw [if_pos rfl] at hj
        rcases hp.row b hj with h3 | h3
        · exact h.off i _ b hij hi h3
        · have := ((h.own i).lt b hi).2; omega
      · rw [if_neg h2] at hj
        exact h.off i j b hij hi hj
  · by_cases hj : j = l
    · subst hj
      rw [if_pos rfl]
      rw [pj_snoc, if_pos hl] at ht
      rcases hx with ⟨h1, h2⟩ | ⟨h1, h2⟩
      · rw [h1] at ht
        simp at ht
        subst ht
        exact h2
      · rw [h2]
        refine h.fst _ t ?_
        rwa [List.getElem?_append_left (List.length_pos_iff.2 h1)] at ht
    · rw [if_neg hj]
      rw [hne j hj] at ht
      exact h.fst j t ht
/-- the block's cells -/
structure Bc (xs : List Value) (v0 v1 v2 : Value) (F : Nat → Int) (R : Nat → Value) : Prop where
  len : xs.length = 37
  c0 : xs[0]? = some v0
  c1 : xs[1]? = some v1
  c2 : xs[2]? = some v2
  cf : ∀ j, j ≤ 16 → xs[3 + j * 2]? = some (.int .i64 (F j))
  cr : ∀ j, j ≤ 16 → xs[3 + j * 2 + 1]? = some (R j)
theorem Bc.setF {xs : List Value} {v0 v1 v2 : Value} {F : Nat → Int} {R : Nat → Value} (h : Bc xs v0 v1 v2 F R) {l : Nat} (hl : l ≤ 16) (x : Int) : Bc (xs.set (3 + l * 2) (.int .i64 x)) v0 v1 v2 (fun j => if j = l then x else F j) R :=
  ⟨by rw [List.length_set]; exact h.len, by rw [List.getElem?_set_ne (by omega)]; exact h.c0, by rw [List.getElem?_set_ne (by omega)]; exact h.c1, by rw [List.getElem?_set_ne (by omega)]; exact h.c2, fun j hj => by
    by_cases e : j = l
    · subst e; rw [if_pos rfl, List.getElem?_set_self (by rw [h.len]; omega)]
    · rw [if_neg e, List.getElem?_set_ne (by omega)]; exact h.cf j hj, fun j hj => by
    rw [List.getElem?_set_ne (by omega)]; exact h.cr j hj⟩
theorem Bc.setR {xs : List Value} {v0 v1 v2 : Value} {F : Nat → Int} {R : Nat → Value} (h : Bc xs v0 v1 v2 F R) {l : Nat} (hl : l ≤ 16) (v : Value) : Bc (xs.set (3 + l * 2 + 1) v) v0 v1 v2 F (fun j => if j = l then v else R j) :=
  ⟨by rw [List.length_set]; exact h.len, by rw [List.getElem?_set_ne (by omega)]; exact h.c0, by rw [List.getElem?_set_ne (by omega)]; exact h.c1, by rw [List.getElem?_set_ne (by omega)]; exact h.c2, fun j hj => by
    rw [List.getElem?_set_ne (by omega)]; exact h.cf j hj, fun j hj => by
    by_cases e : j = l
    · subst e; rw [if_pos rfl, List.getElem?_set_self (by rw [h.len]; omega)]
    · rw [if_neg e, List.getElem?_set_ne (by omega)]; exact h.cr j hj⟩
theorem Bc.same {xs : List Value} {v0 v1 v2 : Value} {F : Nat → Int} {R : Nat → Value} (h : Bc xs v0 v1 v2 F R) (l : Nat) : Bc xs v0 v1 v2 (fun j => if j = l then F l else F j) R :=
  ⟨h.len, h.c0, h.c1, h.c2, fun j hj => by
    rw [h.cf j hj]; congr 2; split
    · rename_i e; rw [e]
    · rfl, h.cr⟩
def xs0 (v0 v1 v2 : Value) : List Value := [v0, v1, v2, .int .i64 0, .slice none 0 0, .int .i64 0, .slice none 0 0, .int .i64 0, .slice none 0 0, .int .i64 0, .slice none 0 0, .int .i64 0, .slice none 0 0, .int .i64 0, .slice none 0 0, .int .i64 0, .slice none 0 0, .int .i64 0, .slice none 0 0, .int .i64 0, .slice none 0 0, .int .i64 0, .slice none 0 0, .int .i64 0, .slice none 0 0, .int .i64 0, .slice none 0 0, .int .i64 0, .slice none 0 0, .int .i64 0, .slice none 0 0, .int .i64 0, .slice none 0 0, .int .i64 0, .slice none 0 0, .int .i64 0, .slice none 0 0]
theorem Bc.zero (v0 v1 v2 : Value) : Bc (xs0 v0 v1 v2) v0 v1 v2 (fun _ => 0) (fun _ => .slice none 0 0) :=
  ⟨rfl, rfl, rfl, rfl, fun j hj => by
    match j, hj with
    | 0, _ => rfl | 1, _ => rfl | 2, _ => rfl | 3, _ => rfl | 4, _ => rfl | 5, _ => rfl | 6, _ => rfl | 7, _ => rfl | 8, _ => rfl | 9, _ => rfl | 10, _ => rfl | 11, _ => rfl | 12, _ => rfl | 13, _ => rfl | 14, _ => rfl | 15, _ => rfl | 16, _ => rfl
    | j + 17, h => omega, fun j hj => by
    match j, hj with
    | 0, _ => rfl | 1, _ => rfl | 2, _ => rfl | 3, _ => rfl | 4, _ => rfl | 5, _ => rfl | 6, _ => rfl | 7, _ => rfl | 8, _ => rfl | 9, _ => rfl | 10, _ => rfl | 11, _ => rfl | 12, _ => rfl | 13, _ => rfl | 14, _ => rfl | 15, _ => rfl | 16, _ => rfl
    | j + 17, h => omega⟩
end Go.Proofs.Ytlhappecjjbopaa
