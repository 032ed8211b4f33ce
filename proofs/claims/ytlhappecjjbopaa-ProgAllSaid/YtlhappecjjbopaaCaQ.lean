/-
  canon's book: a block of several cells; bind, NewBook, by contracts. No condition.
  canon's book: bind, NewBook, by contracts. No condition.
  canon's book: NewBook, has, Length, by contracts. No condition.
  canon's book: Read and Write where no code is; All, by contracts. No condition.
  Reading by codes: plain laws. No condition.
  Reading by codes: the book's rows in the order of the codes; plain laws. No condition.
  Reading by codes: what a reading comes to; plain. No condition.
  canon's book: beyond, by a contract. No condition.
  Reading by a book: plain laws of a book in the order of its codes. No condition.
-/
import Derived.Test.YtlhappecjjbopaaCaF
namespace Go.Proofs.Ytlhappecjjbopaa
open Go.RowKit
set_option linter.unusedVariables false
set_option maxRecDepth 100000

/-! a block of several cells -/
def Bln (w : World) (p : Nat) (t : TypeId) (xs : List Value) : Prop := w.heap[p]? = some (.cells xs.toArray t (0, 0))
section
variable {w w' : World} {p : Nat} {t : TypeId} {xs : List Value}
theorem Bln.lt (h : Bln w p t xs) : p < w.heap.size := (Array.getElem?_eq_some_iff.1 h).1
theorem Bln.cell (h : Bln w p t xs) {i : Nat} {u : Value} (hu : xs[i]? = some u) : w.cell? ⟨p, i, none⟩ = some u := by
  unfold Bln at h; simp [World.cell?, h, hu]
theorem Bln.fz (h : Bln w p t xs) {i : Nat} (hi : i < xs.length) : w.frozen? ⟨p, i, none⟩ = false := by
  unfold Bln at h; simp [World.frozen?, h]
theorem Bln.keep (h : Bln w p t xs) {S : Nat → Prop} (hf : Fr S w w') (hs : ¬ S p) : Bln w' p t xs := (hf.block p h.lt hs).trans h
theorem Bln.below (h : Bln w p t xs) (hb : Below w.heap.size w w') : Bln w' p t xs := (hb.block p h.lt).trans h
theorem Bln.drew (h : Bln w p t xs) : Bln w.drew p t xs := h
theorem Bln.new (w : World) (t : TypeId) (xs : List Value) : Bln (w.alloc (.cells xs.toArray t)) w.heap.size t xs := heap_alloc_new w _
theorem Bln.set (h : Bln w p t xs) (i : Nat) (u : Value) : Bln (w.setCell ⟨p, i, none⟩ u) p t (xs.set i u) := by
  have hlt := h.lt
  have h' : w.heap[p] = .cells xs.toArray t := by unfold Bln at h; simpa [Array.getElem?_eq_getElem hlt] using h
  show (w.heap.modify p _)[p]? = _
  rw [Array.getElem?_eq_getElem (by simpa using hlt), Array.getElem_modify_self, h']
  simp
end
set_option maxHeartbeats 400000 in
theorem cloneInts_any (A : Option Addr) (n c : Nat) (l : List Int) (w : World) (hn : l.length = n) (hR : Rd w w.heap.size A (iv l)) (hm : n ≤ 1099511627776) :
    Calls Try.prog 140 #[.slice A n c] w fun e w' => ∃ v, e = .returned v ∧ w'.ownsRow w.heap.size 3 1 v n (iv l) ∧ Below w.heap.size w w' := by
  obtain ⟨i0, hi, hz0, hz1, hz2⟩ := info_parts Try.info_int
  have HN := Lib.hid hn
  clear hn
  rcases A with _ | ad
  · have h0 : n = 0 := by
      rcases hR with h | ⟨b, off, hA, _⟩
      · have := congrArg List.length h
        rw [iv_len, HN.out] at this; simpa using this
      · cases hA
    obtain rfl : l = [] := List.eq_nil_of_length_eq_zero (by rw [HN.out, h0])
    subst h0
    have hnil := fun W : World => Lib.run_eql_slice_nil (P := Try.prog) W 24 3 none 0 c 0 0 Try.underlying24
    go_enter Try.func140, Try.ntmps140
    go_wp2
    go_ret
    exact ⟨_, rfl, World.ownsRow_nil _ _ _ _, Below.refl _ _⟩
  · have hb0 : Below w.heap.size w (w.alloc (.cells #[] 3)) := (Below.refl _ _).alloc (Nat.le_refl _) _
    have hown0 : (w.alloc (.cells #[] 3)).ownsRow w.heap.size 3 1 (.slice (some ⟨w.heap.size, 0, none⟩) 0 0) 0 [] :=
      World.ownsRow_made w #[] 0 (Nat.le_refl _) (by unfold maxLen; omega) (by simp)
    have hR0 := hR.below hb0
    have hnil := fun W : World => Lib.run_eql_slice_nil (P := Try.prog) W 24 3 (some ad) n c 0 0 Try.underlying24
    go_enter Try.func140, Try.ntmps140
    go_wp2_with (at_builtin; refine wpList_app2 _ rfl (.tmp 5) (.tmp 6) 24 rfl Try.underlying24 hi hz0 hz1 hz2 rfl hown0 rfl rfl hR0 (by rw [iv_len, HN.out]) (one_iv l) (by omega) (by omega) hb0.size ?_; intro v1 w1 hown1 hg1; have hb1 : Below w.heap.size w w1 := below_app2 hb0 hown0 hg1 (Nat.le_refl _) hb0.size; simp only [Nat.zero_add, List.nil_append] at hown1)
    go_ret
    exact ⟨_, rfl, hown1, hb1⟩

/-! the book's rows -/
def pj (ls : List Int) (O : List Nat) (j : Nat) : List Nat := O.filter fun s => decide (ls.getD s 0 = (j : Int))
theorem pj_snoc (ls : List Int) (O : List Nat) (j s : Nat) : pj ls (O ++ [s]) j = if ls.getD s 0 = (j : Int) then pj ls O j ++ [s] else pj ls O j := by
  unfold pj
  rw [List.filter_append]
  by_cases h : ls.getD s 0 = (j : Int)
  · rw [if_pos h]; simp only [List.filter_cons, List.filter_nil, h, decide_true, if_true]
  · rw [if_neg h]; simp only [List.filter_cons, List.filter_nil, h, decide_false, Bool.false_eq_true, if_false, List.append_nil]
theorem pj_len (ls : List Int) (O : List Nat) (j : Nat) : (pj ls O j).length ≤ O.length := List.length_filter_le _ _
/-- rows in the making, all in blocks of their own -/
structure Rw (w : World) (B : Nat) (F : Nat → Int) (R : Nat → Value) (ls C : List Int) (T : List Nat) : Prop where
  own : ∀ j, w.ownsRow B 3 1 (R j) (pj ls T j).length (nv (pj ls T j))
  off : ∀ i j b, i ≠ j → (R i).ownBlock = some b → (R j).ownBlock ≠ some b
  fst : ∀ j s, (pj ls T j)[0]? = some s → F j = C.getD s 0
theorem Rw.keep {S : Nat → Prop} {w w' : World} {B : Nat} {F : Nat → Int} {R : Nat → Value} {ls C : List Int} {T : List Nat} (h : Rw w B F R ls C T) (hf : Fr S w w') (hS : ∀ b, B ≤ b → b < w.heap.size → ¬ S b) : Rw w' B F R ls C T :=
  ⟨fun j => hf.ownN (h.own j) (fun b hb => hS b ((h.own j).lt b hb).1 ((h.own j).lt b hb).2), h.off, h.fst⟩
theorem Rw.below {w w' : World} {B : Nat} {F : Nat → Int} {R : Nat → Value} {ls C : List Int} {T : List Nat} (h : Rw w B F R ls C T) (hb : Below w.heap.size w w') : Rw w' B F R ls C T :=
  h.keep (S := fun _ => False) (Fr.of_below hb) (fun _ _ _ f => f)
theorem Rw.step {w w' : World} {B : Nat} {F : Nat → Int} {R : Nat → Value} {ls C : List Int} {T : List Nat} {s l : Nat} {v : Value} {x : Int} (h : Rw w B F R ls C T) (hl : ls.getD s 0 = (l : Int))
    (ho : w'.ownsRow B 3 1 v (pj ls (T ++ [s]) l).length (nv (pj ls (T ++ [s]) l))) (hp : Ap w w' (R l) v) (hx : (pj ls T l = [] ∧ x = C.getD s 0) ∨ (pj ls T l ≠ [] ∧ x = F l)) :
    Rw w' B (fun j => if j = l then x else F j) (fun j => if j = l then v else R j) ls C (T ++ [s]) := by
  have hne : ∀ j, j ≠ l → pj ls (T ++ [s]) j = pj ls T j := fun j hj => by
    rw [pj_snoc, if_neg (fun e => hj (by omega))]
  refine ⟨fun j => ?_, fun i j b hij hi hj => ?_, fun j t ht => ?_⟩
  · by_cases hj : j = l
    · subst hj; rw [if_pos rfl]; exact ho
    · rw [if_neg hj, hne j hj]
      exact hp.fr.ownN (h.own j) (fun b h1 h2 => h.off j l b hj h1 h2)
  · by_cases h1 : i = l
    · subst h1
      rw [if_pos rfl] at hi
      rw [if_neg (fun e => hij e.symm)] at hj
      rcases hp.row b hi with h2 | h2
      · exact h.off _ j b hij h2 hj
      · have := ((h.own j).lt b hj).2; omega
    · rw [if_neg h1] at hi
      by_cases h2 : j = l
      · subst h2
        rw [if_pos rfl] at hj
        rcases hp.row b hj with h3 | h3
        · exact h.off i _ b hij hi h3
        · have := ((h.own i).lt b hi).2; omega
      · rw [if_neg h2] at hj
        exact h.off i j b hij hi hj
  · by_cases hj : j = l
    · subst hj
      rw [if_pos rfl]
      rw [pj_snoc, if_pos hl] at ht
      rcases hx with ⟨h1, h2⟩ | ⟨h1, h2⟩
      · rw [h1] at ht
        simp at ht
        subst ht
        exact h2
      · rw [h2]
        refine h.fst _ t ?_
        rwa [List.getElem?_append_left (List.length_pos_iff.2 h1)] at ht
    · rw [if_neg hj]
      rw [hne j hj] at ht
      exact h.fst j t ht
/-- the block's cells -/
structure Bc (xs : List Value) (v0 v1 v2 : Value) (F : Nat → Int) (R : Nat → Value) : Prop where
  len : xs.length = 37
  c0 : xs[0]? = some v0
  c1 : xs[1]? = some v1
  c2 : xs[2]? = some v2
  cf : ∀ j, j ≤ 16 → xs[3 + j * 2]? = some (.int .i64 (F j))
  cr : ∀ j, j ≤ 16 → xs[3 + j * 2 + 1]? = some (R j)
theorem Bc.setF {xs : List Value} {v0 v1 v2 : Value} {F : Nat → Int} {R : Nat → Value} (h : Bc xs v0 v1 v2 F R) {l : Nat} (hl : l ≤ 16) (x : Int) : Bc (xs.set (3 + l * 2) (.int .i64 x)) v0 v1 v2 (fun j => if j = l then x else F j) R :=
  ⟨by rw [List.length_set]; exact h.len, by rw [List.getElem?_set_ne (by omega)]; exact h.c0, by rw [List.getElem?_set_ne (by omega)]; exact h.c1, by rw [List.getElem?_set_ne (by omega)]; exact h.c2, fun j hj => by
    by_cases e : j = l
    · subst e; rw [if_pos rfl, List.getElem?_set_self (by rw [h.len]; omega)]
    · rw [if_neg e, List.getElem?_set_ne (by omega)]; exact h.cf j hj, fun j hj => by
    rw [List.getElem?_set_ne (by omega)]; exact h.cr j hj⟩
theorem Bc.setR {xs : List Value} {v0 v1 v2 : Value} {F : Nat → Int} {R : Nat → Value} (h : Bc xs v0 v1 v2 F R) {l : Nat} (hl : l ≤ 16) (v : Value) : Bc (xs.set (3 + l * 2 + 1) v) v0 v1 v2 F (fun j => if j = l then v else R j) :=
  ⟨by rw [List.length_set]; exact h.len, by rw [List.getElem?_set_ne (by omega)]; exact h.c0, by rw [List.getElem?_set_ne (by omega)]; exact h.c1, by rw [List.getElem?_set_ne (by omega)]; exact h.c2, fun j hj => by
    rw [List.getElem?_set_ne (by omega)]; exact h.cf j hj, fun j hj => by
    by_cases e : j = l
    · subst e; rw [if_pos rfl, List.getElem?_set_self (by rw [h.len]; omega)]
    · rw [if_neg e, List.getElem?_set_ne (by omega)]; exact h.cr j hj⟩
theorem Bc.same {xs : List Value} {v0 v1 v2 : Value} {F : Nat → Int} {R : Nat → Value} (h : Bc xs v0 v1 v2 F R) (l : Nat) : Bc xs v0 v1 v2 (fun j => if j = l then F l else F j) R :=
  ⟨h.len, h.c0, h.c1, h.c2, fun j hj => by
    rw [h.cf j hj]; congr 2; split
    · rename_i e; rw [e]
    · rfl, h.cr⟩
def xs0 (v0 v1 v2 : Value) : List Value := [v0, v1, v2, .int .i64 0, .slice none 0 0, .int .i64 0, .slice none 0 0, .int .i64 0, .slice none 0 0, .int .i64 0, .slice none 0 0, .int .i64 0, .slice none 0 0, .int .i64 0, .slice none 0 0, .int .i64 0, .slice none 0 0, .int .i64 0, .slice none 0 0, .int .i64 0, .slice none 0 0, .int .i64 0, .slice none 0 0, .int .i64 0, .slice none 0 0, .int .i64 0, .slice none 0 0, .int .i64 0, .slice none 0 0, .int .i64 0, .slice none 0 0, .int .i64 0, .slice none 0 0, .int .i64 0, .slice none 0 0, .int .i64 0, .slice none 0 0]
theorem Bc.zero (v0 v1 v2 : Value) : Bc (xs0 v0 v1 v2) v0 v1 v2 (fun _ => 0) (fun _ => .slice none 0 0) :=
  ⟨rfl, rfl, rfl, rfl, fun j hj => by
    match j, hj with
    | 0, _ => rfl | 1, _ => rfl | 2, _ => rfl | 3, _ => rfl | 4, _ => rfl | 5, _ => rfl | 6, _ => rfl | 7, _ => rfl | 8, _ => rfl | 9, _ => rfl | 10, _ => rfl | 11, _ => rfl | 12, _ => rfl | 13, _ => rfl | 14, _ => rfl | 15, _ => rfl | 16, _ => rfl
    | j + 17, h => omega, fun j hj => by
    match j, hj with
    | 0, _ => rfl | 1, _ => rfl | 2, _ => rfl | 3, _ => rfl | 4, _ => rfl | 5, _ => rfl | 6, _ => rfl | 7, _ => rfl | 8, _ => rfl | 9, _ => rfl | 10, _ => rfl | 11, _ => rfl | 12, _ => rfl | 13, _ => rfl | 14, _ => rfl | 15, _ => rfl | 16, _ => rfl
    | j + 17, h => omega⟩
end Go.Proofs.Ytlhappecjjbopaa
namespace Go.Proofs.Ytlhappecjjbopaa
open Go.RowKit
set_option linter.unusedVariables false
set_option maxRecDepth 100000

/-- a book of lengths, in the order of its codes -/
structure Bk (w : World) (p : Nat) (ls : List Int) (O : List Nat) (C : List Int) : Prop where
  plt : p < w.heap.size
  len : ∃ A c, w.cell? ⟨p, 0, none⟩ = some (.slice A ls.length c) ∧ Rd w w.heap.size A (iv ls)
  cod : ∃ A c, w.cell? ⟨p, 1, none⟩ = some (.slice A ls.length c) ∧ Rd w w.heap.size A (iv C)
  ord : ∃ A c, w.cell? ⟨p, 2, none⟩ = some (.slice A O.length c) ∧ Rd w w.heap.size A (nv O)
  row : ∀ j, j ≤ 16 → ∃ x A c, w.cell? ⟨p, 3 + j * 2, none⟩ = some (.int .i64 x) ∧ w.cell? ⟨p, 3 + j * 2 + 1, none⟩ = some (.slice A (pj ls O j).length c) ∧ Rd w w.heap.size A (nv (pj ls O j)) ∧ ∀ s, (pj ls O j)[0]? = some s → x = C.getD s 0
theorem Bk.below {w w' : World} {p : Nat} {ls : List Int} {O : List Nat} {C : List Int} (h : Bk w p ls O C) (hb : Below w.heap.size w w') : Bk w' p ls O C := by
  have hc : ∀ i u, w.cell? ⟨p, i, none⟩ = some u → w'.cell? ⟨p, i, none⟩ = some u := fun i u hu => (hb.cell (p := ⟨p, i, none⟩) h.plt).trans hu
  have hr : ∀ A xs, Rd w w.heap.size A xs → Rd w' w'.heap.size A xs := fun A xs hR => (hR.below hb).more hb.size
  refine ⟨Nat.lt_of_lt_of_le h.plt hb.size, ?_, ?_, ?_, fun j hj => ?_⟩
  · obtain ⟨A, c, h1, h2⟩ := h.len; exact ⟨A, c, hc _ _ h1, hr _ _ h2⟩
  · obtain ⟨A, c, h1, h2⟩ := h.cod; exact ⟨A, c, hc _ _ h1, hr _ _ h2⟩
  · obtain ⟨A, c, h1, h2⟩ := h.ord; exact ⟨A, c, hc _ _ h1, hr _ _ h2⟩
  · obtain ⟨x, A, c, h1, h2, h3, h4⟩ := h.row j hj; exact ⟨x, A, c, hc _ _ h1, hc _ _ h2, hr _ _ h3, h4⟩

theorem nv_get {O : List Nat} {i s : Nat} (h : O[i]? = some s) : (nv O)[i]? = some (.int .i64 (s : Int)) := by unfold nv; rw [List.getElem?_map, h]; rfl

set_option maxHeartbeats 8000000 in
theorem bind_any (K : List Int → Prop) (A A2 : Option Addr) (n c n2 c2 : Nat) (ls : List Int) (O : List Nat) (w : World) (hn : ls.length = n) (hR : Rd w w.heap.size A (iv ls)) (hm : n ≤ 512) (hn2 : O.length = n2) (hR2 : Rd w w.heap.size A2 (nv O)) (hm2 : n2 ≤ 10000)
    (hO : ∀ s ∈ O, s < n ∧ 1 ≤ ls.getD s 0 ∧ ls.getD s 0 ≤ 16) (hK : ∀ C, K C → C.length = n ∧ ∀ s, -9223372036854775808 ≤ C.getD s 0 ∧ C.getD s 0 ≤ 9223372036854775807)
    (hAs : ∀ W : World, Rd W W.heap.size A (iv ls) → Rd W W.heap.size A2 (nv O) → Calls Try.prog 98 #[.slice A n c, .slice A2 n2 c2] W fun e w' => ∃ C, e = .returned (.slice (some ⟨W.heap.size, 0, none⟩) n n) ∧ w'.ownsRow W.heap.size 3 1 (.slice (some ⟨W.heap.size, 0, none⟩) n n) n (iv C) ∧ K C ∧ Below W.heap.size W w') :
    Calls Try.prog 103 #[.slice A n c, .slice A2 n2 c2] w fun e w' => ∃ p C, e = .returned (.pointer (some ⟨p, 0, none⟩)) ∧ Bk w' p ls O C ∧ K C ∧ w.heap.size ≤ p ∧ Below w.heap.size w w' := by
  obtain ⟨i0, hi, hz0, hz1, hz2⟩ := info_parts Try.info_int
  have HN := Lib.hid hn
  have HN2 := Lib.hid hn2
  have HO := Lib.hid hO
  have HK := Lib.hid hK
  clear hn hn2 hO hK
  go_enter Try.func103, Try.ntmps103
  go_wp2_with fail
  refine (cloneInts_any A n c ls w HN.out hR (by omega)).mono ?_; rintro e w1 ⟨v0, rfl, ho1, hb1⟩; obtain ⟨A1, c1, hv0, _⟩ := own_slice ho1; subst hv0
  have hs1 := hb1.size
  go_wp2_with fail
  refine (hAs w1 ((hR.below hb1).more hs1) ((hR2.below hb1).more hs1)).mono ?_; rintro e w2 ⟨C, rfl, hoC, hKC, hb2⟩
  have hb2' := hb1.trans (hb2.mono hs1)
  have hs2 := hb2'.size
  have ho2 := own_keep ho1 hb2
  clear ho1 hAs
  generalize hgc : w1.heap.size = gc at *
  have HGC := Lib.hid hgc
  clear hgc
  have hgl := (hoC.lt gc rfl).2
  have X := Bln.new w2 158 (xs0 (.slice A1 n c1) (.slice (some ⟨gc, 0, none⟩) n n) (.slice A2 n2 c2))
  have Y := Bc.zero (.slice A1 n c1) (.slice (some ⟨gc, 0, none⟩) n n) (.slice A2 n2 c2)
  have hba : Below w2.heap.size w2 (w2.alloc (.cells (xs0 (.slice A1 n c1) (.slice (some ⟨gc, 0, none⟩) n n) (.slice A2 n2 c2)).toArray 158)) := (Below.refl _ _).alloc (Nat.le_refl _) _
  have ho3 := own_keep ho2 hba
  have hoC3 := own_keep hoC hba
  have hb3 := hb2'.trans (hba.mono hs2)
  have hsz : (w2.alloc (.cells (xs0 (.slice A1 n c1) (.slice (some ⟨gc, 0, none⟩) n n) (.slice A2 n2 c2)).toArray 158)).heap.size = w2.heap.size + 1 := by simp
  have R0 : Rw (w2.alloc (.cells (xs0 (.slice A1 n c1) (.slice (some ⟨gc, 0, none⟩) n n) (.slice A2 n2 c2)).toArray 158)) (w2.heap.size + 1) (fun _ => 0) (fun _ => .slice none 0 0) ls C [] :=
    ⟨fun j => World.ownsRow_nil _ _ _ _, fun i j b _ h => by simp [Value.ownBlock] at h, fun j s h => by simp [pj] at h⟩
  have hCK := HK.out C hKC
  have hv0 : ∀ b, (Value.slice A1 n c1).ownBlock = some b → b < w2.heap.size := fun b hb => (ho2.lt b hb).2
  generalize hw3 : w2.alloc (.cells (xs0 (.slice A1 n c1) (.slice (some ⟨gc, 0, none⟩) n n) (.slice A2 n2 c2)).toArray 158) = w3 at *
  go_upto_region 2 with fail
  have hE : w2.alloc (.cells #[.slice A1 n c1, .slice (some ⟨gc, 0, none⟩) n n, .slice A2 n2 c2, .int .i64 0, .slice none 0 0, .int .i64 0, .slice none 0 0, .int .i64 0, .slice none 0 0, .int .i64 0, .slice none 0 0, .int .i64 0, .slice none 0 0, .int .i64 0, .slice none 0 0, .int .i64 0, .slice none 0 0, .int .i64 0, .slice none 0 0, .int .i64 0, .slice none 0 0, .int .i64 0, .slice none 0 0, .int .i64 0, .slice none 0 0, .int .i64 0, .slice none 0 0, .int .i64 0, .slice none 0 0, .int .i64 0, .slice none 0 0, .int .i64 0, .slice none 0 0, .int .i64 0, .slice none 0 0, .int .i64 0, .slice none 0 0] 158) = w3 := hw3
  rw [hE]
  clear hE hw3
  generalize hp : w2.heap.size = p at *
  have HP := Lib.hid hp
  clear hp
  generalize xs0 (.slice A1 n c1) (.slice (some ⟨gc, 0, none⟩) n n) (.slice A2 n2 c2) = x0 at *
  have HKC := Lib.hid hKC
  have HCK := Lib.hid hCK
  clear hKC hCK ho2 hoC hb2 hb2' hba
  have hR3 := hR.below hb3
  have hR23 := hR2.below hb3
  have hs3 := hb3.size
  go_wp2
  go_loopw [19] (fun i wr => ∃ k : Nat, k ≤ n2 ∧ i = .int .i64 k ∧ ∃ xs F R, Bln wr p 158 xs ∧ Bc xs (.slice A1 n c1) (.slice (some ⟨gc, 0, none⟩) n n) (.slice A2 n2 c2) F R ∧ Rw wr (p + 1) F R ls C (O.take k) ∧ Fr (fun b => b = p) w3 wr) (fun i _ => n2 - (intOf i).toNat)
  case atStart => exact ⟨0, Nat.zero_le _, rfl, _, _, _, X, Y, by simpa using R0, Fr.refl _ _⟩
  case round =>
    obtain ⟨k, hk, rfl, xs, F, R, X, Y, hrw, hfr⟩ := hrel
    obtain ⟨wo, rfl⟩ : ∃ wo : World, wo = wr := ⟨_, rfl⟩
    by_cases hlt : k < n2
    · obtain ⟨s, hOs⟩ : ∃ s, O[k]? = some s := ⟨O[k]'(by rw [HN2.out]; exact hlt), List.getElem?_eq_getElem _⟩
      have hso := HO.out s (List.mem_of_getElem? hOs)
      obtain ⟨l, hl⟩ := Int.eq_ofNat_of_zero_le (show 0 ≤ ls.getD s 0 by omega)
      have hl16 : 1 ≤ l ∧ l ≤ 16 := by omega
      have hsn := hso.1
      obtain ⟨bo, oo, rfl, hbo, hco⟩ := hR23.at_ (k := k) (by rw [nv]; simp; rw [HN2.out]; exact hlt)
      have cO := hco k _ (nv_get hOs)
      obtain ⟨bl, ol, rfl, hbl, hcl⟩ := hR3.at_ (k := s) (by rw [iv_len, HN.out]; exact hsn)
      have cL := hcl s _ (ivs_get (by rw [HN.out]; exact hsn))
      rw [hl] at cL
      have HL := Lib.hid hl
      have htk : O.take (k + 1) = O.take k ++ [s] := by rw [List.take_add_one, hOs]; rfl
      have HTK := Lib.hid htk
      clear hl hso hco hcl hOs htk
      have hb3p : Below p w3 wo := ⟨hfr.os, hfr.tape, hfr.output, by have := hfr.size; omega, fun b hb => hfr.block b (by omega) (by omega)⟩
      have cO' := (hb3p.cell (p := ⟨bo, oo + k, none⟩) (by simp only; omega)).trans cO
      have cL' := (hb3p.cell (p := ⟨bl, ol + s, none⟩) (by simp only; omega)).trans cL
      have hoC4 := hfr.own hoC3 (fun b hb e => by
        have h1 : gc = b := Option.some.inj hb
        omega)
      have hl0 : (0 : Int) ≤ (l : Int) := by omega
      have hl17 : (l : Int) < 17 := by omega
      have hs0 : (0 : Int) ≤ (s : Int) := by omega
      have hsn' : (s : Int) < (n : Int) := by omega
      obtain ⟨Ar, cr, hRl, hcr1, hcr2, hRr⟩ := own_sliceN (hrw.own l)
      have y1 := X.cell Y.c1
      have yr := X.cell (Y.cr l hl16.2)
      rw [hRl] at yr
      have yf := X.cell (Y.cf l hl16.2)
      have cC := World.ownsRow.cellAt hoC4 s (by omega)
      rw [ivs_get (by rw [HCK.out.1]; exact hsn)] at cC
      have hCs := HCK.out.2 s
      have hfz := X.fz (i := 3 + l * 2) (by rw [Y.len]; omega)
      have hfz2 := X.fz (i := 3 + l * 2 + 1) (by rw [Y.len]; omega)
      clear cO cL
      generalize hxc : C.getD s 0 = x at *
      have HX := Lib.hid hxc
      clear hxc
      by_cases hem : (pj ls (O.take k) l).length = 0
      · rw [hem] at yr
        go_upto_region 5 with fail
        go_quiet (fail)
        have fr0 : Fr (fun b => b = p) wo (wo.drewN nq) := (Fr.refl _ _).drewN nq
        have X4 : Bln ((wo.drewN nq).setCell ⟨p, 3 + l * 2, none⟩ (.int .i64 x)) p 158 _ := (show Bln (wo.drewN nq) p 158 xs from X).set (3 + l * 2) (.int .i64 x)
        have Y4 := Y.setF hl16.2 x
        have R4 : Rw ((wo.drewN nq).setCell ⟨p, 3 + l * 2, none⟩ (.int .i64 x)) (p + 1) F R ls C (O.take k) := hrw.keep (S := fun b => b = p) (fr0.setCell (.inl rfl) _) (fun b hb _ e => by omega)
        have fr4 : Fr (fun b => b = p) w3 ((wo.drewN nq).setCell ⟨p, 3 + l * 2, none⟩ (.int .i64 x)) := (hfr.trans fr0).setCell (.inl rfl) _
        have yr4 := X4.cell (Y4.cr l hl16.2)
        rw [hRl, hem] at yr4
        go_upto_region 8 with fail
        generalize (wo.drewN nq).setCell ⟨p, 3 + l * 2, none⟩ (.int .i64 x) = w4 at *
        have hba4 : Below w4.heap.size w4 (w4.alloc (.cells #[Value.int .i64 (s : Int)] 3)) := (Below.refl _ _).alloc (Nat.le_refl _) _
        have own4 := own_keepN (R4.own l) hba4
        have hlt4 := own4.lt
        have R4a := R4.below hba4
        have X4a := X4.below hba4
        have fr4a := fr4.trans (Fr.of_below hba4)
        rw [hRl, hem] at own4 hlt4
        have hpl := pj_len ls (O.take k) l
        rw [List.length_take] at hpl
        have hpm : (pj ls (O.take k) l).length ≤ 10000 := by omega
        have hnp : (Value.slice Ar 0 cr).ownBlock ≠ some p := fun e => by have := (hlt4 p e).1; omega
        have hbs : p + 1 ≤ (w4.alloc (.cells #[Value.int .i64 (s : Int)] 3)).heap.size := by have := fr4a.size; omega
        clear hpl
        go_wp2_with (at_builtin; refine wpList_appN _ rfl (.tmp 51) (.tmp 53) 24 rfl Try.underlying24 hi hz0 hz1 hz2 rfl (by omega) own4 rfl rfl (Rd.newN w4 3 [.int .i64 (s : Int)]) rfl (by simp [Value.oneCell']) (by omega) (by omega) hbs ?_; intro v7 w7 hown7 hap7; obtain ⟨A7, c7, hv7, _⟩ := own_slice hown7; subst hv7; have X7 := X4a.keep hap7.fr hnp; have yc7 := X7.cell (Y4.cr l hl16.2); have hfz7 := X7.fz (i := 3 + l * 2 + 1) (by rw [Y4.len]; omega))
        go_roundw
        case rel =>
          have hst := R4a.step (s := s) (l := l) (v := .slice A7 _ c7) (x := x) HL.out (by rw [pj_snoc, if_pos HL.out, List.length_append, nv_app]; rw [hem]; exact hown7) (by rw [hRl, hem]; exact hap7) (.inl ⟨List.eq_nil_of_length_eq_zero hem, HX.out.symm⟩)
          have hfr7 := fr4a.trans' hap7.fr (fun b hb hs => by have := (hlt4 b hs).1; omega)
          exact ⟨k + 1, by omega, by go_num, _, _, _, X7.set _ _, Y4.setR hl16.2 _, by rw [HTK.out]; exact hst.keep (S := fun b => b = p) (Fr.setCell (S := fun b => b = p) (p := ⟨p, 3 + l * 2 + 1, none⟩) (Fr.refl _ _) (.inl rfl) _) (fun b hb _ e => by omega), hfr7.setCell (.inl rfl) _⟩
        case measure => simp [intOf]; omega
      · have hdm : decide (((pj ls (O.take k) l).length : Int) = 0) = false := decide_eq_false (by omega)
        go_upto_region 5 with fail
        go_quiet (fail)
        have fr0 : Fr (fun b => b = p) wo (wo.drewN nq) := (Fr.refl _ _).drewN nq
        have X4 : Bln (wo.drewN nq) p 158 xs := X
        have Y4 := Y.same l
        have R4 : Rw (wo.drewN nq) (p + 1) F R ls C (O.take k) := hrw.keep fr0 (fun b hb _ e => by omega)
        have fr4 : Fr (fun b => b = p) w3 (wo.drewN nq) := hfr.trans fr0
        have yr4 := X4.cell (Y4.cr l hl16.2)
        rw [hRl] at yr4
        go_upto_region 8 with fail
        generalize wo.drewN nq = w4 at *
        have hba4 : Below w4.heap.size w4 (w4.alloc (.cells #[Value.int .i64 (s : Int)] 3)) := (Below.refl _ _).alloc (Nat.le_refl _) _
        have own4 := own_keepN (R4.own l) hba4
        have hlt4 := own4.lt
        have R4a := R4.below hba4
        have X4a := X4.below hba4
        have fr4a := fr4.trans (Fr.of_below hba4)
        rw [hRl] at own4 hlt4
        have hpl := pj_len ls (O.take k) l
        rw [List.length_take] at hpl
        have hpm : (pj ls (O.take k) l).length ≤ 10000 := by omega
        have hnp : (Value.slice Ar (pj ls (O.take k) l).length cr).ownBlock ≠ some p := fun e => by have := (hlt4 p e).1; omega
        have hbs : p + 1 ≤ (w4.alloc (.cells #[Value.int .i64 (s : Int)] 3)).heap.size := by have := fr4a.size; omega
        clear hpl
        go_wp2_with (at_builtin; refine wpList_appN _ rfl (.tmp 51) (.tmp 53) 24 rfl Try.underlying24 hi hz0 hz1 hz2 rfl (by omega) own4 rfl rfl (Rd.newN w4 3 [.int .i64 (s : Int)]) rfl (by simp [Value.oneCell']) (by omega) (by omega) hbs ?_; intro v7 w7 hown7 hap7; obtain ⟨A7, c7, hv7, _⟩ := own_slice hown7; subst hv7; have X7 := X4a.keep hap7.fr hnp; have yc7 := X7.cell (Y4.cr l hl16.2); have hfz7 := X7.fz (i := 3 + l * 2 + 1) (by rw [Y4.len]; omega))
        go_roundw
        case rel =>
          have hst := R4a.step (s := s) (l := l) (v := .slice A7 _ c7) (x := F l) HL.out (by rw [pj_snoc, if_pos HL.out, List.length_append, nv_app]; exact hown7) (by rw [hRl]; exact hap7) (.inr ⟨fun e => hem (by rw [e]; rfl), rfl⟩)
          have hfr7 := fr4a.trans' hap7.fr (fun b hb hs => by have := (hlt4 b hs).1; omega)
          exact ⟨k + 1, by omega, by go_num, _, _, _, X7.set _ _, Y4.setR hl16.2 _, by rw [HTK.out]; exact hst.keep (S := fun b => b = p) (Fr.setCell (S := fun b => b = p) (p := ⟨p, 3 + l * 2 + 1, none⟩) (Fr.refl _ _) (.inl rfl) _) (fun b hb _ e => by omega), hfr7.setCell (.inl rfl) _⟩
        case measure => simp [intOf]; omega
    · have hkn : k = n2 := by omega
      have htk : O.take k = O := List.take_of_length_le (by rw [HN2.out]; omega)
      rw [htk] at hrw
      have hfb : Below p w3 wo := ⟨hfr.os, hfr.tape, hfr.output, by have := hfr.size; omega, fun b hb => hfr.block b (by omega) (by omega)⟩
      have hbw : Below w.heap.size w wo := hb3.trans (hfb.mono hs2)
      have hsz5 := hfr.size
      have ho5 := hfr.own ho3 (fun b hb e => by have := hv0 b hb; omega)
      have hoC5 := hfr.own hoC3 (fun b hb e => by
        have h1 : gc = b := Option.some.inj hb
        omega)
      clear hkn htk
      go_wp2
      go_ret
      refine ⟨p, C, rfl, ⟨X.lt, ⟨A1, c1, ?_, Rd.of_own ho5⟩, ⟨_, n, ?_, Rd.of_own hoC5⟩, ⟨A2, c2, ?_, (hR2.below hbw).more hbw.size⟩, fun j hj => ?_⟩, HKC.out, hs2, hbw⟩
      · rw [HN.out]; exact X.cell Y.c0
      · rw [HN.out]; exact X.cell Y.c1
      · rw [HN2.out]; exact X.cell Y.c2
      · obtain ⟨Aj, cj, hRj, _, _, hRd⟩ := own_sliceN (hrw.own j)
        have h1 := X.cell (Y.cr j hj)
        rw [hRj] at h1
        exact ⟨_, Aj, cj, X.cell (Y.cf j hj), h1, hRd, hrw.fst j⟩
end Go.Proofs.Ytlhappecjjbopaa
namespace Go.Proofs.Ytlhappecjjbopaa
open Go.RowKit
set_option linter.unusedVariables false
set_option maxRecDepth 100000

theorem cd_bd {ls C : List Int} (hf : Fm ls) (hc : Cd ls C) (s : Nat) : 0 ≤ C.getD s 0 ∧ C.getD s 0 ≤ 65536 := by
  by_cases hs : s < ls.length
  · by_cases h0 : 0 < ls.getD s 0
    · obtain ⟨i, hi, h1, h2⟩ := ord_get hf.2.1 hs h0
      have h3 := hc.2.1 i s hi
      have h4 := (at_le hf i).2
      have hw : 1 ≤ wt (ls.getD s 0) := by rw [wt_pos (by omega)]; exact two_pos _
      have h5 := Int.mul_le_mul_of_nonneg_left hw h3.1
      rw [Int.mul_one, h3.2] at h5
      exact ⟨h3.1, by omega⟩
    · have hb := hf.2.1 _ (getD_in hs)
      rw [hc.2.2 s (by omega)]; omega
  · rw [List.getD_eq_getElem?_getD, List.getElem?_eq_none (by rw [hc.1]; omega)]; decide

def Booked (ls : List Int) (w : World) (e : Ending) (w' : World) : Prop :=
  (Fm ls → ∃ p C, e = .returned (.tuple #[.pointer (some ⟨p, 0, none⟩), .nilIface]) ∧ Bk w' p ls (ordU ls 16) C ∧ Cd ls C ∧ w.heap.size ≤ p) ∧
  (¬ Fm ls → e = .returned (.tuple #[.pointer none, errV 6])) ∧ Below w.heap.size w w'

set_option maxHeartbeats 2000000 in
theorem newBook_any (A : Option Addr) (n c : Nat) (ls : List Int) (w : World) (hn : ls.length = n) (hR : Rd w w.heap.size A (iv ls)) (hI : Is ls) :
    Calls Try.prog 44 #[.slice A n c] w (Booked ls w) := by
  have HN := Lib.hid hn
  by_cases hf : Fm ls
  · have hm : n ≤ 512 := by rw [← hn]; exact hf.1
    have HF := Lib.hid hf
    clear hn hf
    go_enter Try.func44, Try.ntmps44
    go_wp2_with fail
    refine (free_any A n c ls w.heap.size w HN.out hR hI).mono ?_; rintro e w1 ⟨h1, _, rfl⟩
    obtain rfl := h1 HF.out
    clear h1
    go_wp2_with fail
    refine (order_any A n c ls w HN.out hR hI (by omega)).mono ?_; rintro e w1 ⟨v, rfl, ho, hb⟩
    have hs := hb.size
    obtain ⟨A2, c2, rfl, _, _, hR2⟩ := own_sliceN ho
    have hol := ordU_len ls 16
    rw [HN.out] at hol
    have hom : (ordU ls 16).length ≤ 10000 := by omega
    have hmem : ∀ s ∈ ordU ls 16, s < n ∧ 1 ≤ ls.getD s 0 ∧ ls.getD s 0 ≤ 16 := fun s hs => by
      rw [← HN.out]; exact ordU_mem.1 hs
    have hK : ∀ C, Cd ls C → C.length = n ∧ ∀ s, -9223372036854775808 ≤ C.getD s 0 ∧ C.getD s 0 ≤ 9223372036854775807 := fun C hC =>
      ⟨by rw [hC.1, HN.out], fun s => by have := cd_bd HF.out hC s; omega⟩
    have hR1 := (hR.below hb).more hs
    have HOL : Hid ((ordU ls 16).length = (ordU ls 16).length) := Lib.hid rfl
    clear hol
    go_wp2_with fail
    refine (bind_any (Cd ls) A A2 n c _ c2 ls (ordU ls 16) w1 HN.out hR1 hm rfl hR2 hom hmem hK (fun W h1 h2 => assign_any A A2 n c _ c2 ls W HN.out h1 HF.out rfl h2)).mono ?_; rintro e w2 ⟨p, C, rfl, hB, hC, hp, hb2⟩
    go_wp2
    go_ret2
    exact ⟨fun _ => ⟨p, C, rfl, hB, hC, by omega⟩, fun h => absurd HF.out h, hb.trans (hb2.mono hs)⟩
  · have HNF := Lib.hid hf
    clear hn hf
    go_enter Try.func44, Try.ntmps44
    go_wp2_with fail
    refine (free_any A n c ls w.heap.size w HN.out hR hI).mono ?_; rintro e w1 ⟨_, h1, rfl⟩
    obtain rfl := h1 HNF.out
    clear h1
    unfold errV
    go_wp2
    go_ret2
    exact ⟨fun h => absurd h HNF.out, fun _ => rfl, Below.refl _ _⟩

def hasL (ls : List Int) (x : Int) : Prop := 0 ≤ x ∧ x < ls.length ∧ 0 < ls.getD x.toNat 0
instance (ls : List Int) (x : Int) : Decidable (hasL ls x) := by unfold hasL; infer_instance
theorem has_nil (x : Int) (w : World) : Calls Try.prog 104 #[.pointer none, .int .i64 x] w fun e w' => e = .returned (.bool false) ∧ w' = w := by
  go_enter Try.func104, Try.ntmps104
  go_wp2
  go_ret
  exact ⟨rfl, rfl⟩
set_option maxHeartbeats 1000000 in
theorem has_any (p : Nat) (ls : List Int) (O : List Nat) (C : List Int) (x : Int) (w : World) (hB : Bk w p ls O C) (hv : Vl ls) :
    Calls Try.prog 104 #[.pointer (some ⟨p, 0, none⟩), .int .i64 x] w fun e w' => e = .returned (.bool (decide (hasL ls x))) ∧ w' = w := by
  obtain ⟨A, c, y0, hR⟩ := hB.len
  clear hB
  generalize hn : ls.length = n at *
  have HN := Lib.hid hn
  have HV := Lib.hid hv
  clear hn hv
  by_cases h0 : 0 ≤ x
  · obtain ⟨s, rfl⟩ := Int.eq_ofNat_of_zero_le h0
    by_cases h1 : s < n
    · obtain ⟨b, off, rfl, _, hcell⟩ := hR.at_ (k := s) (by rw [iv_len, HN.out]; exact h1)
      have hc := hcell s _ (ivs_get (by rw [HN.out]; exact h1))
      have hd0 : decide ((0 : Int) ≤ (s : Int)) = true := decide_eq_true (by omega)
      have hd1 : decide ((s : Int) < (n : Int)) = true := decide_eq_true (by omega)
      have hs0 : (0 : Int) ≤ (s : Int) := by omega
      have hs1 : (s : Int) < (n : Int) := by omega
      have hh : decide (hasL ls s) = decide (0 < ls.getD s 0) := by
        apply decide_eq_decide.2
        unfold hasL
        rw [HN.out]; simp; omega
      have HH := Lib.hid hh
      clear hcell hh
      generalize ls.getD s 0 = l at *
      go_enter Try.func104, Try.ntmps104
      go_wp2
      go_ret
      exact ⟨by rw [HH.out]; rfl, rfl⟩
    · have hd0 : decide ((0 : Int) ≤ (s : Int)) = true := decide_eq_true (by omega)
      have hd1 : decide ((s : Int) < (n : Int)) = false := decide_eq_false (by omega)
      have hh : decide (hasL ls s) = false := decide_eq_false (by unfold hasL; rw [HN.out]; omega)
      have HH := Lib.hid hh
      clear hh
      go_enter Try.func104, Try.ntmps104
      go_wp2
      go_ret
      exact ⟨by rw [HH.out]; rfl, rfl⟩
  · have hd0 : decide ((0 : Int) ≤ x) = false := decide_eq_false h0
    have hh : decide (hasL ls x) = false := decide_eq_false (by unfold hasL; omega)
    have HH := Lib.hid hh
    clear hh
    go_enter Try.func104, Try.ntmps104
    go_wp2
    go_ret
    exact ⟨by rw [HH.out]; rfl, rfl⟩

def lenL (ls : List Int) (x : Int) : Int := if hasL ls x then ls.getD x.toNat 0 else 0
theorem length_nil (x : Int) (w : World) : Calls Try.prog 45 #[.pointer none, .int .i64 x] w fun e w' => e = .returned (.int .i64 0) ∧ w' = w := by
  go_enter Try.func45, Try.ntmps45
  go_wp2_with fail
  refine (has_nil x w).mono ?_; rintro e w1 ⟨rfl, rfl⟩
  go_wp2
  go_ret
  exact ⟨rfl, rfl⟩
set_option maxHeartbeats 1000000 in
theorem length_any (p : Nat) (ls : List Int) (O : List Nat) (C : List Int) (x : Int) (w : World) (hB : Bk w p ls O C) (hv : Vl ls) :
    Calls Try.prog 45 #[.pointer (some ⟨p, 0, none⟩), .int .i64 x] w fun e w' => e = .returned (.int .i64 (lenL ls x)) ∧ w' = w := by
  have HB := Lib.hid hB
  have HV := Lib.hid hv
  obtain ⟨A, c, y0, hR⟩ := hB.len
  clear hB hv
  by_cases hh : hasL ls x
  · have hd : decide (hasL ls x) = true := decide_eq_true hh
    obtain ⟨s, rfl⟩ := Int.eq_ofNat_of_zero_le hh.1
    have hsn : s < ls.length := by have := hh.2.1; omega
    have hll : lenL ls s = ls.getD s 0 := by unfold lenL; rw [if_pos hh]; rfl
    have HD := Lib.hid hd
    have HLL := Lib.hid hll
    obtain ⟨b, off, rfl, _, hcell⟩ := hR.at_ (k := s) (by rw [iv_len]; exact hsn)
    have hc := hcell s _ (ivs_get hsn)
    have hs0 : (0 : Int) ≤ (s : Int) := by omega
    have hs1 : (s : Int) < (ls.length : Int) := by omega
    clear hcell hh hd hll
    generalize ls.getD s 0 = l at *
    go_enter Try.func45, Try.ntmps45
    go_wp2_with fail
    refine (has_any p ls O C (s : Int) w HB.out HV.out).mono ?_; rintro e w1 ⟨rfl, rfl⟩
    rw [HD.out]
    go_wp2
    go_ret
    exact ⟨by rw [HLL.out]; rfl, rfl⟩
  · have hd : decide (hasL ls x) = false := decide_eq_false hh
    have hll : lenL ls x = 0 := if_neg hh
    have HD := Lib.hid hd
    have HLL := Lib.hid hll
    clear hh hd hll
    go_enter Try.func45, Try.ntmps45
    go_wp2_with fail
    refine (has_any p ls O C x w HB.out HV.out).mono ?_; rintro e w1 ⟨rfl, rfl⟩
    rw [HD.out]
    go_wp2
    go_ret
    exact ⟨by rw [HLL.out]; rfl, rfl⟩
end Go.Proofs.Ytlhappecjjbopaa
namespace Go.Proofs.Ytlhappecjjbopaa
open Go.RowKit
set_option linter.unusedVariables false
set_option maxRecDepth 100000

theorem read_nil (rv : Option Addr) (w : World) : Calls Try.prog 63 #[.pointer none, .pointer rv] w fun e w' => e = .returned (.tuple #[.int .i64 0, errV 2]) ∧ w' = w := by
  unfold errV
  go_enter Try.func63, Try.ntmps63
  go_wp2
  go_ret2
  exact ⟨rfl, rfl⟩
set_option maxHeartbeats 1000000 in
theorem read_none (rv : Option Addr) (p : Nat) (ls C : List Int) (w : World) (hB : Bk w p ls [] C) : Calls Try.prog 63 #[.pointer (some ⟨p, 0, none⟩), .pointer rv] w fun e w' => e = .returned (.tuple #[.int .i64 0, errV 2]) ∧ Below w.heap.size w w' := by
  unfold errV
  obtain ⟨A, c, y0, _⟩ := hB.ord
  have hb0 : ∀ n, Below w.heap.size w (w.drewN n) := fun n => ⟨rfl, rfl, rfl, Nat.le_refl _, fun _ _ => rfl⟩
  clear hB
  go_enter Try.func63, Try.ntmps63
  go_upto_region 3 with fail
  go_quiet (fail)
  go_wp2
  go_loopw [7, 8] (fun o i wr => o = .int .i64 0 ∧ i = .int .i64 1 ∧ Below w.heap.size w wr) (fun _ _ _ => 0)
  case atStart => exact ⟨rfl, rfl, hb0 _⟩
  case round =>
    obtain ⟨rfl, rfl, hb⟩ := hrel
    go_wp2
    go_ret2
    exact ⟨rfl, hb⟩

theorem write_nil (wv : Option Addr) (x : Int) (w : World) : Calls Try.prog 65 #[.pointer none, .pointer wv, .int .i64 x] w fun e w' => e = .returned (errV 6) ∧ w' = w := by
  unfold errV
  go_enter Try.func65, Try.ntmps65
  go_wp2_with fail
  refine (has_nil x w).mono ?_; rintro e w1 ⟨rfl, rfl⟩
  go_wp2
  go_ret
  exact ⟨rfl, rfl⟩
theorem write_bad (wv : Option Addr) (p : Nat) (ls : List Int) (O : List Nat) (C : List Int) (x : Int) (w : World) (hB : Bk w p ls O C) (hv : Vl ls) (hh : ¬ hasL ls x ∨ wv = none) : Calls Try.prog 65 #[.pointer (some ⟨p, 0, none⟩), .pointer wv, .int .i64 x] w fun e w' => e = .returned (errV 6) ∧ w' = w := by
  unfold errV
  by_cases h1 : hasL ls x
  · have hd : decide (hasL ls x) = true := decide_eq_true h1
    obtain rfl : wv = none := hh.elim (fun h => absurd h1 h) id
    have HD := Lib.hid hd
    clear hh h1 hd
    go_enter Try.func65, Try.ntmps65
    go_wp2_with fail
    refine (has_any p ls O C x w hB hv).mono ?_; rintro e w1 ⟨rfl, rfl⟩
    rw [HD.out]
    go_wp2
    go_ret
    exact ⟨rfl, rfl⟩
  · have hd : decide (hasL ls x) = false := decide_eq_false h1
    have HD := Lib.hid hd
    clear hh h1 hd
    go_enter Try.func65, Try.ntmps65
    go_wp2_with fail
    refine (has_any p ls O C x w hB hv).mono ?_; rintro e w1 ⟨rfl, rfl⟩
    rw [HD.out]
    go_wp2
    go_ret
    exact ⟨rfl, rfl⟩
end Go.Proofs.Ytlhappecjjbopaa
namespace Go.Proofs.Ytlhappecjjbopaa
set_option linter.unusedVariables false

/-- the code of the i-th is b -/
def Hit (Z : List Int) (i : Nat) (b : List Int) : Prop := i < Z.length ∧ cb Z i = b
/-- b is a beginning of the i-th's code, not all of it -/
def Pre (Z : List Int) (i : Nat) (b : List Int) : Prop := i < Z.length ∧ b.length < (cb Z i).length ∧ (cb Z i).take b.length = b

theorem hv_inj {a b : List Int} (ha : B01 a) (hb : B01 b) (hl : a.length = b.length) (h : hv a = hv b) : a = b := by
  rw [← digs_hv ha, ← digs_hv hb, h, hl]
theorem cb_acc {Z : List Int} (hz : Zs Z) {i : Nat} (h : i < Z.length) : hv (cb Z i) * wt (Z.getD i 0) = acc Z i := by
  rw [(cb_hv hz i h).1]; exact acc_dvd hz i h
theorem cb_lenI {Z : List Int} (hz : Zs Z) {i : Nat} (h : i < Z.length) : ((cb Z i).length : Int) = Z.getD i 0 := by
  have := hz.rng _ (getD_in h)
  rw [cb_len]; omega
theorem wt_len {Z : List Int} (hz : Zs Z) {i : Nat} (h : i < Z.length) : wt (Z.getD i 0) = 2 ^ (16 - (cb Z i).length) := by
  have := hz.rng _ (getD_in h)
  rw [wt_pos (by omega), cb_len]
theorem len16 {Z : List Int} (hz : Zs Z) {i : Nat} (h : i < Z.length) : 1 ≤ (cb Z i).length ∧ (cb Z i).length ≤ 16 := by
  have := hz.rng _ (getD_in h)
  have := cb_lenI hz h; omega
/-- in numbers -/
theorem hit_iff {Z b : List Int} (hz : Zs Z) {i : Nat} (h : i < Z.length) (hb : B01 b) : Hit Z i b ↔ (cb Z i).length = b.length ∧ acc Z i = hv b * 2 ^ (16 - b.length) := by
  constructor
  · rintro ⟨_, rfl⟩
    exact ⟨rfl, by rw [← cb_acc hz h, wt_len hz h]⟩
  · rintro ⟨h1, h2⟩
    refine ⟨h, hv_inj (cb_01 Z i) hb h1 ?_⟩
    have h3 := cb_acc hz h
    rw [wt_len hz h, h1, h2] at h3
    have := two_pos (16 - b.length)
    exact Int.eq_of_mul_eq_mul_right (by omega) h3
theorem hv_take {l : List Int} (hl : B01 l) (n : Nat) (hn : n ≤ l.length) : hv (l.take n) * 2 ^ (l.length - n) ≤ hv l ∧ hv l < (hv (l.take n) + 1) * 2 ^ (l.length - n) := by
  have h1 : hv l = hv (l.take n) * 2 ^ (l.length - n) + hv (l.drop n) := by
    have := hv_app (l.take n) (l.drop n)
    rwa [List.take_append_drop, List.length_drop] at this
  have h2 := hv_bd (l := l.drop n) (fun x hx => hl x (List.mem_of_mem_drop hx))
  rw [List.length_drop] at h2
  rw [h1, Int.add_mul, Int.one_mul]; omega
theorem two_split {a b : Nat} (h : a ≤ b) : (2 : Int) ^ b = 2 ^ (b - a) * 2 ^ a := by rw [← Int.pow_add]; congr 1; omega
theorem pre_iff {Z b : List Int} (hz : Zs Z) {i : Nat} (h : i < Z.length) (hb : B01 b) : Pre Z i b ↔ b.length < (cb Z i).length ∧ hv b * 2 ^ (16 - b.length) ≤ acc Z i ∧ acc Z i < (hv b + 1) * 2 ^ (16 - b.length) := by
  have hL := len16 hz h
  have hA := cb_acc hz h
  rw [wt_len hz h] at hA
  have hW := two_pos (16 - (cb Z i).length)
  constructor
  · rintro ⟨_, h1, h2⟩
    have h3 := hv_take (cb_01 Z i) b.length (by omega)
    rw [h2] at h3
    have hs : (2 : Int) ^ (16 - b.length) = 2 ^ ((cb Z i).length - b.length) * 2 ^ (16 - (cb Z i).length) := by rw [← Int.pow_add]; congr 1; omega
    refine ⟨h1, ?_, ?_⟩
    · rw [hs, ← hA, ← Int.mul_assoc]
      exact Int.mul_le_mul_of_nonneg_right h3.1 (by omega)
    · rw [hs, ← hA, ← Int.mul_assoc]
      exact Int.mul_lt_mul_of_pos_right h3.2 (by omega)
  · rintro ⟨h1, h2, h3⟩
    refine ⟨h, h1, ?_⟩
    have h4 := hv_take (cb_01 Z i) b.length (by omega)
    have hs : (2 : Int) ^ (16 - b.length) = 2 ^ ((cb Z i).length - b.length) * 2 ^ (16 - (cb Z i).length) := by rw [← Int.pow_add]; congr 1; omega
    rw [hs, ← hA, ← Int.mul_assoc] at h2 h3
    have h5 : hv b * 2 ^ ((cb Z i).length - b.length) ≤ hv (cb Z i) := Int.le_of_mul_le_mul_right h2 (by omega)
    have h6 : hv (cb Z i) < (hv b + 1) * 2 ^ ((cb Z i).length - b.length) := Int.lt_of_mul_lt_mul_right h3 (by omega)
    have hq := two_pos ((cb Z i).length - b.length)
    refine hv_inj ((cb_01 Z i).take _) hb (by rw [List.length_take]; omega) ?_
    generalize hv ((cb Z i).take b.length) = x at *
    generalize hv b = y at *
    generalize (2 : Int) ^ ((cb Z i).length - b.length) = q at *
    rcases Int.lt_trichotomy x y with h | h | h
    · have := Int.mul_le_mul_of_nonneg_right (show x + 1 ≤ y by omega) (show 0 ≤ q by omega)
      omega
    · exact h
    · have := Int.mul_le_mul_of_nonneg_right (show y + 1 ≤ x by omega) (show 0 ≤ q by omega)
      omega
theorem floor_uniq {x y v W : Int} (hW : 1 ≤ W) (h1 : x * W ≤ v) (h2 : v < (x + 1) * W) (h3 : y * W ≤ v) (h4 : v < (y + 1) * W) : x = y := by
  rcases Int.lt_trichotomy x y with h | h | h
  · have := Int.mul_le_mul_of_nonneg_right (show x + 1 ≤ y by omega) (show 0 ≤ W by omega)
    omega
  · exact h
  · have := Int.mul_le_mul_of_nonneg_right (show y + 1 ≤ x by omega) (show 0 ≤ W by omega)
    omega
theorem tile {Z : List Int} (v : Int) (hv : 0 ≤ v) : ∀ k : Nat, v < acc Z k → ∃ j, j < k ∧ acc Z j ≤ v ∧ v < acc Z (j + 1)
  | 0, h => by have : acc Z 0 = 0 := rfl; omega
  | k + 1, h => by
    rcases Int.lt_or_le v (acc Z k) with h1 | h1
    · obtain ⟨j, hj, h2⟩ := tile v hv k h1
      exact ⟨j, by omega, h2⟩
    · exact ⟨k, by omega, h1, h⟩
theorem hv_nn {b : List Int} (h : B01 b) : 0 ≤ hv b := by have := hv_bd h; omega
theorem len_mono {Z : List Int} (hz : Zs Z) {i j : Nat} (h : i ≤ j) (hj : j < Z.length) : (cb Z i).length ≤ (cb Z j).length := by
  rcases Nat.lt_or_ge i j with h1 | h1
  · have h2 := (List.pairwise_iff_getElem.1 hz.srt) i j (by omega) hj h1
    have h3 := cb_lenI hz (show i < Z.length by omega)
    have h4 := cb_lenI hz hj
    rw [List.getD_eq_getElem?_getD, List.getElem?_eq_getElem (show i < Z.length by omega)] at h3
    rw [List.getD_eq_getElem?_getD, List.getElem?_eq_getElem hj] at h4
    simp only [Option.getD_some] at h3 h4
    omega
  · have : i = j := by omega
    rw [this]; exact Nat.le_refl _
/-- where no beginning of b is a code, b lies behind all the codes that are not longer -/
theorem behind {Z b : List Int} (hz : Zs Z) (hb : B01 b) (hn : b.length ≤ 16) (hno : ∀ m, 1 ≤ m → m ≤ b.length → ∀ i, ¬ Hit Z i (b.take m)) {k : Nat} (hk : k ≤ Z.length) (hsh : ∀ j, j < k → (cb Z j).length ≤ b.length) :
    acc Z k ≤ hv b * 2 ^ (16 - b.length) := by
  rcases Int.lt_or_le (hv b * 2 ^ (16 - b.length)) (acc Z k) with h | h
  · exfalso
    have hU := two_pos (16 - b.length)
    obtain ⟨j, hj, h1, h2⟩ := tile _ (Int.mul_nonneg (hv_nn hb) (by omega)) k h
    have hjl : j < Z.length := by omega
    rw [acc_succ Z j hjl, wt_len hz hjl] at h2
    have h3 := cb_acc hz hjl
    rw [wt_len hz hjl] at h3
    have h4 := hsh j hj
    have h5 := len16 hz hjl
    obtain ⟨m, hm⟩ : ∃ m, m = (cb Z j).length := ⟨_, rfl⟩
    rw [← hm] at h2 h3 h4 h5
    have h6 := hv_take hb m h4
    have hs : (2 : Int) ^ (16 - m) = 2 ^ (b.length - m) * 2 ^ (16 - b.length) := by rw [← Int.pow_add]; congr 1; omega
    have h7 := Int.mul_le_mul_of_nonneg_right h6.1 (show (0 : Int) ≤ 2 ^ (16 - b.length) by omega)
    have h8 := Int.mul_lt_mul_of_pos_right h6.2 (show (0 : Int) < 2 ^ (16 - b.length) by omega)
    rw [Int.mul_assoc, ← hs] at h7 h8
    have hWm := two_pos (16 - m)
    rw [← h3] at h1 h2
    have he := floor_uniq hWm h1 (by rw [Int.add_mul, Int.one_mul]; exact h2) h7 h8
    refine hno m h5.1 h4 j ((hit_iff hz hjl (hb.take m)).2 ?_)
    have htl : (b.take m).length = m := by rw [List.length_take]; omega
    rw [htl, ← hm, ← he]
    exact ⟨rfl, h3.symm⟩
  · exact h
theorem least {Z : List Int} (hz : Zs Z) (v : Int) : ∀ L : Nat, v ≤ acc Z L → ∃ i, i ≤ L ∧ v ≤ acc Z i ∧ ∀ j, j < i → acc Z j < v
  | 0, h => ⟨0, Nat.le_refl _, h, fun j hj => by omega⟩
  | L + 1, h => by
    rcases Int.lt_or_le (acc Z L) v with h1 | h1
    · refine ⟨L + 1, Nat.le_refl _, h, fun j hj => ?_⟩
      have := acc_mono hz (show j ≤ L by omega)
      omega
    · obtain ⟨i, hi, h2⟩ := least hz v L h1
      exact ⟨i, by omega, h2⟩
/-- a longer code begins with b: iff b is not beyond the last one -/
theorem beyond_iff {Z b : List Int} (hz : Zs Z) (hb : B01 b) (hn : b.length ≤ 16) (hno : ∀ m, 1 ≤ m → m ≤ b.length → ∀ i, ¬ Hit Z i (b.take m)) {L : Nat} (hL : L + 1 = Z.length) :
    (∃ i, Pre Z i b) ↔ b.length < (cb Z L).length ∧ hv b * 2 ^ (16 - b.length) ≤ acc Z L := by
  have hU := two_pos (16 - b.length)
  constructor
  · rintro ⟨i, hp⟩
    have hi := hp.1
    obtain ⟨h1, h2, h3⟩ := (pre_iff hz hi hb).1 hp
    have h4 := len_mono hz (show i ≤ L by omega) (show L < Z.length by omega)
    have h5 := acc_mono hz (show i ≤ L by omega)
    exact ⟨by omega, by omega⟩
  · rintro ⟨h1, h2⟩
    obtain ⟨i, hi, h3, h4⟩ := least hz _ L h2
    have hil : i < Z.length := by omega
    have hlen : b.length < (cb Z i).length := by
      rcases Nat.lt_or_ge b.length (cb Z i).length with h | h
      · exact h
      · exfalso
        have h5 := behind hz hb hn hno (k := i + 1) (by omega) (fun j hj => Nat.le_trans (len_mono hz (show j ≤ i by omega) hil) h)
        rw [acc_succ Z i hil, wt_len hz hil] at h5
        have := two_pos (16 - (cb Z i).length)
        omega
    refine ⟨i, (pre_iff hz hil hb).2 ⟨hlen, h3, ?_⟩⟩
    rw [Int.add_mul, Int.one_mul]
    rcases Nat.eq_zero_or_pos i with h0 | h0
    · subst h0
      have h5 : acc Z 0 = 0 := rfl
      have := Int.mul_nonneg (hv_nn hb) (show (0 : Int) ≤ 2 ^ (16 - b.length) by omega)
      omega
    · obtain ⟨j, rfl⟩ : ∃ j, i = j + 1 := ⟨i - 1, by omega⟩
      have h5 := h4 j (by omega)
      have hjl : j < Z.length := by omega
      rcases Nat.lt_or_ge b.length (cb Z j).length with h | h
      · rw [acc_succ Z j hjl, wt_len hz hjl]
        have h6 := two_split (a := 16 - (cb Z j).length) (b := 16 - b.length) (by omega)
        have h7 := two_pos (16 - b.length - (16 - (cb Z j).length))
        have h8 := two_pos (16 - (cb Z j).length)
        have h9 := Int.mul_le_mul_of_nonneg_right h7 (show (0 : Int) ≤ 2 ^ (16 - (cb Z j).length) by omega)
        rw [← h6, Int.one_mul] at h9
        omega
      · have h6 := behind hz hb hn hno (k := j + 1) (by omega) (fun j' hj' => Nat.le_trans (len_mono hz (show j' ≤ j by omega) hjl) h)
        omega
end Go.Proofs.Ytlhappecjjbopaa
namespace Go.Proofs.Ytlhappecjjbopaa
set_option linter.unusedVariables false

def lt_ (ls : List Int) (O : List Nat) (n : Nat) : List Nat := O.filter fun s => decide (ls.getD s 0 < (n : Int))
def gt_ (ls : List Int) (O : List Nat) (n : Nat) : List Nat := O.filter fun s => decide ((n : Int) < ls.getD s 0)
/-- an order by lengths falls into those below, those at, those above a length -/
theorem three (ls : List Int) (n : Nat) : ∀ O : List Nat, (O.Pairwise fun a b => ls.getD a 0 ≤ ls.getD b 0) → O = lt_ ls O n ++ (pj ls O n ++ gt_ ls O n)
  | [], _ => rfl
  | s :: O, h => by
    rw [List.pairwise_cons] at h
    have ih := three ls n O h.2
    unfold lt_ pj gt_ at *
    rcases Int.lt_trichotomy (ls.getD s 0) n with h1 | h1 | h1
    · rw [List.filter_cons_of_pos (by simp only [decide_eq_true_eq]; omega), List.filter_cons_of_neg (by simp only [decide_eq_true_eq]; omega), List.filter_cons_of_neg (by simp only [decide_eq_true_eq]; omega), List.cons_append, ← ih]
    · have hlt : O.filter (fun s => decide (ls.getD s 0 < (n : Int))) = [] := List.filter_eq_nil_iff.2 (fun t ht => by have := h.1 t ht; simp only [decide_eq_true_eq]; omega)
      rw [hlt] at ih
      rw [List.filter_cons_of_neg (by simp only [decide_eq_true_eq]; omega), List.filter_cons_of_pos (by simp only [decide_eq_true_eq]; omega), List.filter_cons_of_neg (by simp only [decide_eq_true_eq]; omega), hlt, List.nil_append, List.cons_append, ← List.nil_append (List.filter _ O ++ List.filter _ O), ← ih]
    · have hlt : O.filter (fun s => decide (ls.getD s 0 < (n : Int))) = [] := List.filter_eq_nil_iff.2 (fun t ht => by have := h.1 t ht; simp only [decide_eq_true_eq]; omega)
      have heq : O.filter (fun s => decide (ls.getD s 0 = (n : Int))) = [] := List.filter_eq_nil_iff.2 (fun t ht => by have := h.1 t ht; simp only [decide_eq_true_eq]; omega)
      rw [hlt, heq] at ih
      rw [List.filter_cons_of_neg (by simp only [decide_eq_true_eq]; omega), List.filter_cons_of_neg (by simp only [decide_eq_true_eq]; omega), List.filter_cons_of_pos (by simp only [decide_eq_true_eq]; omega), hlt, heq, List.nil_append, List.nil_append]
      exact congrArg (s :: ·) (by simpa using ih)
/-- how many longer ones are left -/
theorem open_step (ls : List Int) (n : Nat) : ∀ O : List Nat, (gt_ ls O n).length = (pj ls O (n + 1)).length + (gt_ ls O (n + 1)).length
  | [] => rfl
  | s :: O => by
    have ih := open_step ls n O
    unfold gt_ pj at *
    rcases Int.lt_trichotomy (ls.getD s 0) ((n + 1 : Nat) : Int) with h1 | h1 | h1
    · rw [List.filter_cons_of_neg (by simp only [decide_eq_true_eq]; omega), List.filter_cons_of_neg (by simp only [decide_eq_true_eq]; omega), List.filter_cons_of_neg (by simp only [decide_eq_true_eq]; omega)]; exact ih
    · rw [List.filter_cons_of_pos (by simp only [decide_eq_true_eq]; omega), List.filter_cons_of_pos (by simp only [decide_eq_true_eq]; omega), List.filter_cons_of_neg (by simp only [decide_eq_true_eq]; omega), List.length_cons, List.length_cons, ih]; omega
    · rw [List.filter_cons_of_pos (by simp only [decide_eq_true_eq]; omega), List.filter_cons_of_neg (by simp only [decide_eq_true_eq]; omega), List.filter_cons_of_pos (by simp only [decide_eq_true_eq]; omega), List.length_cons, List.length_cons, ih]; omega
theorem open_zero {ls : List Int} {O : List Nat} (h : ∀ s ∈ O, 1 ≤ ls.getD s 0) : gt_ ls O 0 = O := by
  unfold gt_
  rw [List.filter_eq_self]
  intro s hs
  have := h s hs
  simp only [decide_eq_true_eq]; omega
/-- the row of a length is a part of the order -/
theorem row_at {ls : List Int} {O : List Nat} (hs : O.Pairwise fun a b => ls.getD a 0 ≤ ls.getD b 0) (n t : Nat) (ht : t < (pj ls O n).length) : O[(lt_ ls O n).length + t]? = (pj ls O n)[t]? := by
  have h := three ls n O hs
  have h1 : O[(lt_ ls O n).length + t]? = (lt_ ls O n ++ (pj ls O n ++ gt_ ls O n))[(lt_ ls O n).length + t]? := congrArg (fun l => l[(lt_ ls O n).length + t]?) h
  rw [h1, List.getElem?_append_right (by omega), Nat.add_sub_cancel_left, List.getElem?_append_left ht]
theorem pj_mem {ls : List Int} {O : List Nat} {n t s : Nat} (h : (pj ls O n)[t]? = some s) : ls.getD s 0 = (n : Int) := by
  have := List.mem_of_getElem? h
  unfold pj at this
  exact of_decide_eq_true (List.mem_filter.1 this).2
/-- an index whose code has the length lies in the row -/
theorem in_row {ls : List Int} {O : List Nat} (hs : O.Pairwise fun a b => ls.getD a 0 ≤ ls.getD b 0) (n : Nat) {i s : Nat} (hi : O[i]? = some s) (hl : ls.getD s 0 = (n : Int)) : ∃ t, i = (lt_ ls O n).length + t ∧ t < (pj ls O n).length := by
  have h := three ls n O hs
  rw [h] at hi
  rcases Nat.lt_or_ge i (lt_ ls O n).length with h1 | h1
  · rw [List.getElem?_append_left h1] at hi
    have := of_decide_eq_true (List.mem_filter.1 (List.mem_of_getElem? hi)).2
    omega
  · rw [List.getElem?_append_right h1] at hi
    rcases Nat.lt_or_ge (i - (lt_ ls O n).length) (pj ls O n).length with h2 | h2
    · exact ⟨i - (lt_ ls O n).length, by omega, h2⟩
    · rw [List.getElem?_append_right h2] at hi
      have := of_decide_eq_true (List.mem_filter.1 (List.mem_of_getElem? hi)).2
      omega
theorem row_acc {ls : List Int} {O : List Nat} (hs : O.Pairwise fun a b => ls.getD a 0 ≤ ls.getD b 0) {n : Nat} (hn : 1 ≤ n ∧ n ≤ 16) : ∀ t : Nat, t ≤ (pj ls O n).length → acc (sz ls O) ((lt_ ls O n).length + t) = acc (sz ls O) (lt_ ls O n).length + t * 2 ^ (16 - n)
  | 0, _ => by simp
  | t + 1, h => by
    have ih := row_acc hs hn t (by omega)
    obtain ⟨s, he⟩ : ∃ s, (pj ls O n)[t]? = some s := ⟨(pj ls O n)[t]'(by omega), List.getElem?_eq_getElem _⟩
    have h1 := row_at hs n t (by omega)
    rw [he] at h1
    have h2 := (List.getElem?_eq_some_iff.1 h1).1
    rw [← Nat.add_assoc, acc_succ _ _ (by rw [sz_len]; exact h2), ih, sz_at h1, pj_mem he, wt_pos (by omega), Int.toNat_natCast, Int.natCast_succ, Int.add_mul, Int.one_mul]; omega
theorem row_hit {ls : List Int} {O : List Nat} (hs : O.Pairwise fun a b => ls.getD a 0 ≤ ls.getD b 0) (hz : Zs (sz ls O)) {n : Nat} (hn : 1 ≤ n ∧ n ≤ 16) {b : List Int} (hb : B01 b) (hbl : b.length = n) {x : Int} (hx : ∀ s, (pj ls O n)[0]? = some s → x = hv (cb (sz ls O) (lt_ ls O n).length)) :
    (∀ (t s : Nat), hv b - x = (t : Int) → (pj ls O n)[t]? = some s → Hit (sz ls O) ((lt_ ls O n).length + t) b ∧ O[(lt_ ls O n).length + t]? = some s) ∧
    (∀ i, Hit (sz ls O) i b → ∃ t : Nat, hv b - x = (t : Int) ∧ t < (pj ls O n).length) := by
  have hU := two_pos (16 - n)
  have hfirst : ∀ t, t < (pj ls O n).length → (lt_ ls O n).length < (sz ls O).length ∧ (cb (sz ls O) (lt_ ls O n).length).length = n ∧ x * 2 ^ (16 - n) = acc (sz ls O) (lt_ ls O n).length := fun t ht => by
    obtain ⟨s, he⟩ : ∃ s, (pj ls O n)[0]? = some s := ⟨(pj ls O n)[0]'(by omega), List.getElem?_eq_getElem _⟩
    have h1 := row_at hs n 0 (by omega)
    rw [he, Nat.add_zero] at h1
    have h2 : (lt_ ls O n).length < (sz ls O).length := by rw [sz_len]; exact (List.getElem?_eq_some_iff.1 h1).1
    have h3 : (cb (sz ls O) (lt_ ls O n).length).length = n := by rw [cb_len, sz_at h1, pj_mem he, Int.toNat_natCast]
    refine ⟨h2, h3, ?_⟩
    rw [hx s he, ← cb_acc hz h2, wt_len hz h2, h3]
  constructor
  · intro t s ht he
    have htl := (List.getElem?_eq_some_iff.1 he).1
    have h1 := row_at hs n t htl
    rw [he] at h1
    have h2 : (lt_ ls O n).length + t < (sz ls O).length := by rw [sz_len]; exact (List.getElem?_eq_some_iff.1 h1).1
    refine ⟨(hit_iff hz h2 hb).2 ⟨?_, ?_⟩, h1⟩
    · rw [cb_len, sz_at h1, pj_mem he, Int.toNat_natCast, hbl]
    · rw [row_acc hs hn t (by omega), ← (hfirst t htl).2.2, hbl, ← ht, ← Int.add_mul]; congr 1; omega
  · intro i hi
    have hil := hi.1
    obtain ⟨h1, h2⟩ := (hit_iff hz hil hb).1 hi
    rw [sz_len] at hil
    obtain ⟨s, he⟩ : ∃ s, O[i]? = some s := ⟨O[i], List.getElem?_eq_getElem _⟩
    have h3 : ls.getD s 0 = (n : Int) := by
      have := cb_lenI hz hi.1
      rw [sz_at he] at this
      omega
    obtain ⟨t, rfl, ht⟩ := in_row hs n he h3
    refine ⟨t, ?_, ht⟩
    rw [row_acc hs hn t (by omega), ← (hfirst t ht).2.2, hbl, ← Int.add_mul] at h2
    have := Int.eq_of_mul_eq_mul_right (show (2 : Int) ^ (16 - n) ≠ 0 by omega) h2
    omega
end Go.Proofs.Ytlhappecjjbopaa
namespace Go.Proofs.Ytlhappecjjbopaa
set_option linter.unusedVariables false

/-- so many bits are read, and no code is found yet -/
def Cont (Z l : List Int) (n : Nat) : Prop := ∀ k, 1 ≤ k → k ≤ n → k ≤ l.length ∧ (∀ i, ¬ Hit Z i (l.take k)) ∧ ∃ i, Pre Z i (l.take k)
theorem Cont.zero (Z l : List Int) : Cont Z l 0 := fun k h1 h2 => by omega
theorem Cont.succ {Z l : List Int} {n : Nat} (h : Cont Z l n) (hn : n < l.length) (h1 : ∀ i, ¬ Hit Z i (l.take (n + 1))) (h2 : ∃ i, Pre Z i (l.take (n + 1))) : Cont Z l (n + 1) := fun k k1 k2 => by
  rcases Nat.lt_or_ge n k with hk | hk
  · obtain rfl : k = n + 1 := by omega
    exact ⟨by omega, h1, h2⟩
  · exact h k k1 hk
/-- symbol, bits, error of a reading -/
def RdS (syms Z l : List Int) (sym : Int) (n : Nat) (err : Int) : Prop :=
  (Z = [] ∧ sym = 0 ∧ n = 0 ∧ err = 2) ∨
  (Z ≠ [] ∧ ∃ k, Cont Z l k ∧ ((k = l.length ∧ sym = 0 ∧ n = k ∧ err = 8) ∨
    (k < l.length ∧ ((∃ i, Hit Z i (l.take (k + 1)) ∧ sym = syms.getD i 0 ∧ n = k + 1 ∧ err = 0) ∨
      ((∀ i, ¬ Hit Z i (l.take (k + 1))) ∧ (∀ i, ¬ Pre Z i (l.take (k + 1))) ∧ sym = 0 ∧ n = k + 1 ∧ err = 2)))))
theorem acc_inj {Z : List Int} (hz : Zs Z) {i j : Nat} (hi : i < Z.length) (hj : j < Z.length) (h : acc Z i = acc Z j) : i = j := by
  have key : ∀ a b : Nat, a < Z.length → a < b → acc Z a < acc Z b := fun a b ha hab => by
    have h1 := acc_succ Z a ha
    have h2 := acc_mono hz (show a + 1 ≤ b by omega)
    rw [wt_len hz ha] at h1
    have := two_pos (16 - (cb Z a).length)
    omega
  rcases Nat.lt_trichotomy i j with h1 | h1 | h1
  · have := key i j hi h1; omega
  · exact h1
  · have := key j i hj h1; omega
theorem hit_uniq {Z b : List Int} (hz : Zs Z) (hb : B01 b) {i j : Nat} (hi : Hit Z i b) (hj : Hit Z j b) : i = j := by
  have h1 := ((hit_iff hz hi.1 hb).1 hi).2
  have h2 := ((hit_iff hz hj.1 hb).1 hj).2
  exact acc_inj hz hi.1 hj.1 (h1.trans h2.symm)
theorem RdS.uniq {syms Z l : List Int} (hz : Zs Z) (hl : B01 l) {s s' : Int} {n n' : Nat} {e e' : Int} (h : RdS syms Z l s n e) (h' : RdS syms Z l s' n' e') : s = s' ∧ n = n' ∧ e = e' := by
  rcases h with ⟨h0, h1, h2, h3⟩ | ⟨h0, k, hc, h⟩
  · rcases h' with ⟨_, h1', h2', h3'⟩ | ⟨h0', _⟩
    · exact ⟨h1.trans h1'.symm, h2.trans h2'.symm, h3.trans h3'.symm⟩
    · exact absurd h0 h0'
  · rcases h' with ⟨h0', _⟩ | ⟨_, k', hc', h'⟩
    · exact absurd h0' h0
    · have hk : k = k' := by
        rcases Nat.lt_trichotomy k k' with h1 | h1 | h1
        · exfalso
          obtain ⟨a, b, c⟩ := hc' (k + 1) (by omega) (by omega)
          rcases h with ⟨h2, _⟩ | ⟨h2, ⟨i, hi, _⟩ | ⟨_, hp, _⟩⟩
          · omega
          · exact b i hi
          · obtain ⟨i, hi⟩ := c; exact hp i hi
        · exact h1
        · exfalso
          obtain ⟨a, b, c⟩ := hc (k' + 1) (by omega) (by omega)
          rcases h' with ⟨h2, _⟩ | ⟨h2, ⟨i, hi, _⟩ | ⟨_, hp, _⟩⟩
          · omega
          · exact b i hi
          · obtain ⟨i, hi⟩ := c; exact hp i hi
      subst hk
      rcases h with ⟨h1, h2, h3, h4⟩ | ⟨h1, ⟨i, hi, h2, h3, h4⟩ | ⟨hh, hp, h2, h3, h4⟩⟩
      · rcases h' with ⟨_, h2', h3', h4'⟩ | ⟨h1', _⟩
        · exact ⟨h2.trans h2'.symm, h3.trans h3'.symm, h4.trans h4'.symm⟩
        · omega
      · rcases h' with ⟨h1', _⟩ | ⟨_, ⟨j, hj, h2', h3', h4'⟩ | ⟨hh', _⟩⟩
        · omega
        · have := hit_uniq hz (hl.take _) hi hj
          subst this
          exact ⟨h2.trans h2'.symm, h3.trans h3'.symm, h4.trans h4'.symm⟩
        · exact absurd hi (hh' i)
      · rcases h' with ⟨h1', _⟩ | ⟨_, ⟨j, hj, _⟩ | ⟨_, _, h2', h3', h4'⟩⟩
        · omega
        · exact absurd hj (hh j)
        · exact ⟨h2.trans h2'.symm, h3.trans h3'.symm, h4.trans h4'.symm⟩
end Go.Proofs.Ytlhappecjjbopaa
namespace Go.Proofs.Ytlhappecjjbopaa
open Go.RowKit
set_option linter.unusedVariables false
set_option maxRecDepth 100000

set_option maxHeartbeats 2000000 in
theorem beyond_any (p : Nat) (ls : List Int) (O : List Nat) (C : List Int) (k s l n : Nat) (y x : Int) (w : World) (hB : Bk w p ls O C) (hO : O[k]? = some s) (hk : O.length = k + 1) (hk2 : k ≤ 100000) (hs : s < ls.length) (hl : ls.getD s 0 = (l : Int)) (hcl : C.length = ls.length) (hy : C.getD s 0 = y)
    (hnl : n ≤ l) (hl16 : l ≤ 16) (hyb : 0 ≤ y ∧ y ≤ 65536) :
    Calls Try.prog 112 #[.pointer (some ⟨p, 0, none⟩), .int .i64 x, .int .i64 (n : Int)] w fun e w' => e = .returned (.bool (decide (y / 2 ^ (l - n) < x))) ∧ ∃ j j2, w' = (w.drewN j).drewN j2 := by
  obtain ⟨A0, c0, y0, hR0⟩ := hB.len
  obtain ⟨A1, c1, y1, hR1⟩ := hB.cod
  obtain ⟨A2, c2, y2, hR2⟩ := hB.ord
  clear hB
  obtain ⟨b0, o0, rfl, _, h0⟩ := hR0.at_ (k := s) (by rw [iv_len]; exact hs)
  have e0 := h0 s _ (ivs_get hs)
  obtain ⟨b1, o1, rfl, _, h1⟩ := hR1.at_ (k := s) (by rw [iv_len, hcl]; exact hs)
  have e1 := h1 s _ (ivs_get (by rw [hcl]; exact hs))
  obtain ⟨b2, o2, rfl, _, h2⟩ := hR2.at_ (k := k) (by rw [nv]; simp; omega)
  have e2 := h2 k _ (nv_get hO)
  rw [hl] at e0
  rw [hy] at e1
  rw [hk] at y2
  generalize hn : ls.length = m at *
  have hsm : (s : Int) < (m : Int) := by omega
  have hs0 : (0 : Int) ≤ (s : Int) := by omega
  have hk0 : (0 : Int) ≤ (k : Int) := by omega
  have hw1 : IntKind.i64.wrap (((k + 1 : Nat) : Int) - 1) = (k : Int) := by rw [IntWalk.i64_in _ (by omega)]; omega
  have hw2 : IntKind.i64.wrap ((l : Int) - (n : Int)) = ((l - n : Nat) : Int) := by rw [IntWalk.i64_in _ (by omega)]; omega
  have hd : decide ((l : Int) < (n : Int)) = false := decide_eq_false (by omega)
  clear h0 h1 h2 hR0 hR1 hR2 hO hk hl hy hcl hn
  go_enter Try.func112, Try.ntmps112
  go_upto_region 1 with fail
  go_quiet (fail)
  go_upto_region 2 with fail
  go_quiet (fail)
  go_wp2
  go_ret
  exact ⟨by simp [show ¬ l < n by omega], _, _, rfl⟩
end Go.Proofs.Ytlhappecjjbopaa
namespace Go.Proofs.Ytlhappecjjbopaa
set_option linter.unusedVariables false

/-- an order by lengths, and each one's code -/
structure Ordd (ls : List Int) (O : List Nat) (C : List Int) : Prop where
  zs : Zs (sz ls O)
  srt : O.Pairwise fun a b => ls.getD a 0 ≤ ls.getD b 0
  mem : ∀ s ∈ O, s < ls.length ∧ 1 ≤ ls.getD s 0 ∧ ls.getD s 0 ≤ 16
  cod : ∀ i s, O[i]? = some s → C.getD s 0 = hv (cb (sz ls O) i)
  len : O.length ≤ 512
  lls : ls.length ≤ 512
  cln : C.length = ls.length
  bd : ∀ s, 0 ≤ C.getD s 0 ∧ C.getD s 0 ≤ 65536
theorem filter_two {α : Type} (p q r : α → Bool) : ∀ L : List α, (∀ x ∈ L, r x = (p x || q x) ∧ (p x && q x) = false) → (L.filter r).length = (L.filter p).length + (L.filter q).length
  | [], _ => rfl
  | x :: L, h => by
    have ih := filter_two p q r L (fun y hy => h y (by simp [hy]))
    obtain ⟨h1, h2⟩ := h x (by simp)
    simp only [List.filter_cons, h1]
    cases hp : p x <;> cases hq : q x <;> simp [hp, hq] at h2 ⊢ <;> omega
theorem ordU_cnt (ls : List Int) : ∀ m : Nat, (ordU ls m).length = ((List.range ls.length).filter fun s => decide (1 ≤ ls.getD s 0 ∧ ls.getD s 0 ≤ (m : Int))).length
  | 0 => by
    have : (List.range ls.length).filter (fun s => decide (1 ≤ ls.getD s 0 ∧ ls.getD s 0 ≤ ((0 : Nat) : Int))) = [] := List.filter_eq_nil_iff.2 (fun s _ => by simp only [decide_eq_true_eq]; omega)
    rw [this]; rfl
  | m + 1 => by
    rw [ordU_succ, List.length_append, ordU_cnt ls m]
    symm
    refine filter_two _ _ _ _ (fun s _ => ?_)
    constructor
    · rw [Bool.eq_iff_iff]; simp only [Bool.or_eq_true, decide_eq_true_eq]; omega
    · rw [Bool.eq_false_iff]; simp only [ne_eq, Bool.and_eq_true, decide_eq_true_eq]; omega
theorem ordU_le {ls : List Int} (hl : ls.length ≤ 512) : (ordU ls 16).length ≤ 512 := by
  rw [ordU_cnt]
  have := List.length_filter_le (fun s => decide (1 ≤ ls.getD s 0 ∧ ls.getD s 0 ≤ ((16 : Nat) : Int))) (List.range ls.length)
  rw [List.length_range] at this
  omega
theorem ordd_U {ls C : List Int} (hf : Fm ls) (hc : Cd ls C) : Ordd ls (ordU ls 16) C where
  zs := zs_ord hf
  srt := (ordU_sorted ls 16).imp (fun h => h.2)
  mem := fun s hs => by have := ordU_mem.1 hs; exact ⟨this.1, this.2.1, by simpa using this.2.2⟩
  cod := fun i s h => (hv_cd hf hc h).symm
  len := ordU_le hf.1
  lls := hf.1
  cln := hc.1
  bd := cd_bd hf hc
section
variable {ls : List Int} {O : List Nat} {C : List Int}
theorem Ordd.lenZ (h : Ordd ls O C) {i s : Nat} (hi : O[i]? = some s) : i < (sz ls O).length ∧ ((cb (sz ls O) i).length : Int) = ls.getD s 0 := by
  have h1 : i < (sz ls O).length := by rw [sz_len]; exact (List.getElem?_eq_some_iff.1 hi).1
  exact ⟨h1, by rw [cb_lenI h.zs h1, sz_at hi]⟩
/-- the last one's length is no less than any -/
theorem Ordd.last (h : Ordd ls O C) {L s : Nat} (hL : O.length = L + 1) (hs : O[L]? = some s) {i : Nat} {b : List Int} (hp : Pre (sz ls O) i b) : (b.length : Int) < ls.getD s 0 := by
  have h1 := h.lenZ hs
  have h2 := len_mono h.zs (show i ≤ L by have := hp.1; rw [sz_len] at this; omega) h1.1
  have h3 := hp.2.1
  omega
theorem Ordd.beyond (h : Ordd ls O C) {L s l : Nat} (hL : O.length = L + 1) (hs : O[L]? = some s) (hl : ls.getD s 0 = (l : Int)) {b : List Int} (hb : B01 b) (hnl : b.length ≤ l) (hno : ∀ m, 1 ≤ m → m ≤ b.length → ∀ i, ¬ Hit (sz ls O) i (b.take m)) :
    (C.getD s 0 / 2 ^ (l - b.length) < hv b) ↔ ¬ ∃ i, Pre (sz ls O) i b := by
  have h1 := h.lenZ hs
  have hl16 : 1 ≤ l ∧ l ≤ 16 := by have := h.mem s (List.mem_of_getElem? hs); omega
  have hlen : (cb (sz ls O) L).length = l := by have := h1.2; omega
  have hA := cb_acc h.zs h1.1
  rw [wt_len h.zs h1.1, hlen, ← h.cod L s hs] at hA
  have hW := two_pos (16 - l)
  have hP := two_pos (l - b.length)
  rw [beyond_iff h.zs hb (by omega) hno (L := L) (by rw [sz_len, hL]), hlen, ← hA]
  have hsp : (2 : Int) ^ (16 - b.length) = 2 ^ (l - b.length) * 2 ^ (16 - l) := by rw [← Int.pow_add]; congr 1; omega
  rw [hsp, ← Int.mul_assoc]
  by_cases hlt : b.length < l
  · constructor
    · rintro h2 ⟨_, h3⟩
      have h4 := Int.le_of_mul_le_mul_right h3 (by omega)
      have h5 := (Int.le_ediv_iff_mul_le (show (0 : Int) < 2 ^ (l - b.length) by omega)).2 h4
      omega
    · intro h2
      refine Int.lt_of_not_ge fun h3 => h2 ⟨hlt, ?_⟩
      exact Int.mul_le_mul_of_nonneg_right ((Int.le_ediv_iff_mul_le (show (0 : Int) < 2 ^ (l - b.length) by omega)).1 h3) (by omega)
  · have he : b.length = l := by omega
    refine ⟨fun _ h2 => hlt h2.1, fun _ => ?_⟩
    have h2 := behind h.zs hb (by omega) hno (k := L + 1) (by rw [sz_len, hL]; exact Nat.le_refl _) (fun j hj => by
      have := len_mono h.zs (show j ≤ L by omega) h1.1
      omega)
    rw [acc_succ _ _ h1.1, wt_len h.zs h1.1, hlen, ← hA, he] at h2
    have h3 : (C.getD s 0 + 1) * 2 ^ (16 - l) ≤ hv b * 2 ^ (16 - l) := by rw [Int.add_mul, Int.one_mul]; exact h2
    have h4 := Int.le_of_mul_le_mul_right h3 (by omega)
    rw [he, Nat.sub_self, Int.pow_zero, Int.ediv_one]
    omega
/-- the first code of a row -/
theorem Ordd.first (h : Ordd ls O C) {n : Nat} {x : Int} (hx : ∀ s, (pj ls O n)[0]? = some s → x = C.getD s 0) : ∀ s, (pj ls O n)[0]? = some s → x = hv (cb (sz ls O) (lt_ ls O n).length) := fun s hs => by
  have h1 := row_at h.srt n 0 (List.getElem?_eq_some_iff.1 hs).1
  rw [hs, Nat.add_zero] at h1
  rw [hx s hs, h.cod _ s h1]
theorem Ordd.none16 (h : Ordd ls O C) {i : Nat} {b : List Int} (hb : 16 ≤ b.length) : ¬ Pre (sz ls O) i b := fun hp => by
  have := len16 h.zs hp.1
  have := hp.2.1
  omega
theorem Ordd.gt16 (h : Ordd ls O C) : gt_ ls O 16 = [] := by
  unfold gt_
  rw [List.filter_eq_nil_iff]
  intro s hs
  have := h.mem s hs
  simp only [decide_eq_true_eq]
  omega
theorem Ordd.gt_pos (h : Ordd ls O C) {i : Nat} {b : List Int} (hp : Pre (sz ls O) i b) : 0 < (gt_ ls O b.length).length := by
  obtain ⟨s, hs⟩ : ∃ s, O[i]? = some s := ⟨O[i]'(by have := hp.1; rwa [sz_len] at this), List.getElem?_eq_getElem _⟩
  have h1 := h.lenZ hs
  have h2 := hp.2.1
  refine List.length_pos_of_mem (a := s) ?_
  unfold gt_
  exact List.mem_filter.2 ⟨List.mem_of_getElem? hs, by simp only [decide_eq_true_eq]; omega⟩
end
theorem take_take_le {l : List Int} {m n : Nat} (h : m ≤ n) : (l.take n).take m = l.take m := by rw [List.take_take, Nat.min_eq_left h]
theorem hv_next {l : List Int} {k : Nat} (hk : k < l.length) : hv (l.take (k + 1)) = 2 * hv (l.take k) + l.getD k 0 := by rw [take_get l k hk, hv_snoc]
theorem hv_take16 {l : List Int} (hl : B01 l) {k : Nat} (hk : k ≤ 16) : 0 ≤ hv (l.take k) ∧ hv (l.take k) < 65536 := by
  have h := hv_bd (hl.take k)
  have h1 : (l.take k).length ≤ 16 := by rw [List.length_take]; omega
  have h2 : (2 : Int) ^ (l.take k).length ≤ 2 ^ 16 := by
    have := Nat.pow_le_pow_right (show 0 < 2 by omega) h1
    rw [← two_cast, ← two_cast]; omega
  have h3 : (2 : Int) ^ 16 = 65536 := by decide
  omega
theorem or_next {c b : Int} (hc : 0 ≤ c ∧ c < 65536) (hb : b = 0 ∨ b = 1) : bits BinOp.or IntKind.i64 (2 * c) b = 2 * c + b := by
  obtain ⟨n, rfl⟩ := Int.eq_ofNat_of_zero_le hc.1
  obtain ⟨m, hm⟩ := Int.eq_ofNat_of_zero_le (show 0 ≤ b by omega)
  rw [hm, show (2 * (n : Int)) = ((2 * n : Nat) : Int) by omega, i64_ors (2 * n) m (by omega) (by omega)]
  have h := Nat.two_pow_add_eq_or_of_lt (i := 1) (b := m) (by omega) n
  rw [Nat.pow_one] at h
  rw [← h]; omega
/-- no hit so far -/
theorem Cont.no {Z l : List Int} {k : Nat} (h : Cont Z l k) (h1 : ∀ i, ¬ Hit Z i (l.take (k + 1))) : ∀ m, 1 ≤ m → m ≤ (l.take (k + 1)).length → ∀ i, ¬ Hit Z i ((l.take (k + 1)).take m) := fun m m1 m2 i => by
  rw [List.length_take] at m2
  rw [take_take_le (by omega)]
  rcases Nat.lt_or_ge k m with hk | hk
  · obtain rfl : m = k + 1 := by omega
    exact h1 i
  · exact (h m m1 hk).2.1 i
end Go.Proofs.Ytlhappecjjbopaa
