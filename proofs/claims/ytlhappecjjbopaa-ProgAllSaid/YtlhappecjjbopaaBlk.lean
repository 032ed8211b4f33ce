/-
  Blocks in a slice; two blocks compared. No condition.
-/
import Derived.Test.YtlhappecjjbopaaScN
import Derived.Test.YtlhappecjjbopaaScF
import Derived.Test.YtlhappecjjbopaaArw
namespace Go.Proofs.Ytlhappecjjbopaa
open Go.ChangeShapes Go.WideShapes Go.ChangeAt Go.WideMaps Go.WideElems Go.RowKit Go.Joins
set_option linter.unusedVariables false
set_option maxRecDepth 100000

theorem eq_blk (xs ys : List Int) (hx : xs.length = 64) (hy : ys.length = 64) (W : World) : (Op.equalIn 10000 70 (.agg (iv xs).toArray) (.agg (iv ys).toArray)).run Try.prog W = .ok (xs == ys) W :=
  run_equalIn_ints W 9998 70 3 64 Try.underlying70 Try.underlying3 Try.size_int xs ys hx hy
theorem eq_blk1 (xs : List Int) (hx : xs.length = 64) (W : World) : (Op.equalIn 10000 70 (.agg (iv xs).toArray) (.agg (iv xs).toArray)).run Try.prog W = .ok true W := by
  rw [eq_blk xs xs hx hx, beq_self_eq_true]
theorem eqG70 : Try.prog.eqGuardType Try.prog.depth 70 = false := by kernel_rfl
theorem wpList_eql_agg {P : Program} {ops : Array Oper} {rest : List Oper} {op : Oper} {a : Act} {w : World} {Q : Exit → Act → World → Prop} (hgd : op.guard = none) (ty r : TypeId) (x y : Operand) (ho : op.op = .binOp .eql ty x y r)
    (A B : Array Value) (hx : a.eval x = .agg A) (hy : a.eval y = .agg B) (hg : P.eqGuardType P.depth ty = false) (z : Bool) (he : (Op.equalIn 10000 ty (.agg A) (.agg B)).run P w = .ok z w)
    (h : wpList P ops Q rest (a.put op.dst (.bool z)) w) : wpList P ops Q (op :: rest) a w :=
  wpList_plain hgd fun _ hK => by
    unfold Oper.wp execOp
    simp only [ho]
    rw [hx, hy]
    unfold eqGuard
    simp only [Sem.run_bind, Sem.run_pure, go_sem]
    simp only [Bool.not_true, Bool.false_eq_true, if_false, Sem.run_bind, run_program, Result.andThen_ok, hg, Bool.not_false, if_true, Sem.run_pure, he]
    exact hK _ _ h
/-- a block of noughts that a region makes, behind what follows -/
def Nb (w : World) (g : Nat) : Prop := Bln w g 70 (iv z64)
theorem Nb.new (w : World) : Nb (w.alloc (.cells (iv z64).toArray 70)) w.heap.size := Bln.new w _ _
theorem Nb.below {w w' : World} {g : Nat} (h : Nb w g) (hb : Below w.heap.size w w') : Nb w' g := Bln.below h hb
theorem Nb.sets {w : World} {g : Nat} (h : Nb w g) (D : List Int) (hD : D.length = 64) : Bln (w.setCells g 0 (iv D)) g 70 (iv D) := by
  have h1 := Bln.sets (iv D) 0 h
  rwa [setR_all (by rw [iv_len, iv_len, hD]; rfl)] at h1
theorem Nb.there {w : World} {g : Nat} (h : Nb w g) (D : List Int) (hD : D.length = 64) : w.there g 0 (iv D).length := by
  rw [iv_len, hD]
  exact Bln.there h 64 (by rw [iv_len]; decide)

theorem rows_ivs {n : Nat} : ∀ (rows : List (List Value)), (∀ r ∈ rows, r.length = n ∧ IvN n r) → ∃ G : List (List Int), rows = G.map iv ∧ ∀ x ∈ G, x.length = n ∧ Is x
  | [], _ => ⟨[], rfl, fun x hx => by cases hx⟩
  | r :: rows, h => by
    obtain ⟨l, h1, h2, h3⟩ := (h r List.mem_cons_self).2
    obtain ⟨G, hG, hI⟩ := rows_ivs rows (fun q hq => h q (List.mem_cons_of_mem _ hq))
    refine ⟨l :: G, by rw [h1, hG]; rfl, fun x hx => ?_⟩
    rcases List.mem_cons.1 hx with rfl | hx
    · exact ⟨h2, h3⟩
    · exact hI x hx
/-- a load of a whole array behind a guard that is met -/
theorem wpList_load_midV {P : Program} {ops : Array Oper} {rest : List Oper} {op : Oper} {a : Act} {w : World} {Q : Exit → Act → World → Prop} (hw : Region.wanted op (yielded ops a.tmps) = true) (ty : TypeId) (x : Operand) (ho : op.op = .load ty x)
    (b o : Nat) (hx : a.eval x = .pointer (some ⟨b, o, none⟩)) (cs : List Value) (d : TypeDesc) (hc : w.rangeAt b o cs)
    (hu : P.underlying ty = some d) (hd : d.isRow = true) (hi : (P.info? ty).map (·.size) = some cs.length)
    (h : wpList P ops Q rest (a.put op.dst (.agg cs.toArray)) w) : wpList P ops Q (op :: rest) a w := by
  unfold wpList
  rw [if_pos hw]
  exact .inl (wp_load_mid ty x ho b o hx cs d hc hu hd hi h)
theorem blk_ivn {H : Type} {enc : TypeId × Value → H} {W : World} {spare : Nat → Bool} {held : Bool} {nn : Nat} {cs : List Value} {y : DataW H × List MemPlace} (hl : cs.length = 64)
    (hy : DataW.trod enc Try.prog W 0 spare held nn 70 cs = some y) : IvN 64 cs := arr_ints Try.underlying70 Try.underlying3 (by kernel_rfl) (by kernel_rfl) hy
theorem goodB_is {x : List Int} (hx : x.length = 64) (hg : GoodB x) : Is x := fun y hy => by
  obtain ⟨j, hj, rfl⟩ := List.mem_iff_getElem.1 hy
  have h1 : x.getD j 0 = x[j] := by rw [List.getD_eq_getElem?_getD, List.getElem?_eq_getElem hj]; rfl
  rcases Nat.eq_zero_or_pos j with h0 | h0
  · subst h0
    have h2 := hg.2
    rw [h1] at h2
    obtain ⟨h3, h4⟩ := h2
    omega
  · have := hg.1 j h0 (by omega)
    rw [h1] at this
    omega
theorem wpList_neq_aggG {P : Program} {ops : Array Oper} {rest : List Oper} {op : Oper} {a : Act} {w : World} {Q : Exit → Act → World → Prop} (hw : Region.wanted op (yielded ops a.tmps) = true) (ty r : TypeId) (x y : Operand) (ho : op.op = .binOp .neq ty x y r)
    (A B : Array Value) (hx : a.eval x = .agg A) (hy : a.eval y = .agg B) (hg : P.eqGuardType P.depth ty = false) (z : Bool) (he : (Op.equalIn 10000 ty (.agg A) (.agg B)).run P w = .ok z w)
    (h : wpList P ops Q rest (a.put op.dst (.bool (!z))) w) : wpList P ops Q (op :: rest) a w := by
  unfold wpList
  rw [if_pos hw]
  refine .inl ?_
  unfold Oper.wp execOp
  simp only [ho]
  rw [hx, hy]
  unfold eqGuard
  simp only [Sem.run_bind, Sem.run_pure, go_sem]
  simp only [Bool.not_true, Bool.false_eq_true, if_false, Sem.run_bind, run_program, Result.andThen_ok, hg, Bool.not_false, if_true, Sem.run_pure, he]
  exact h
/-- blocks that came in -/
structure Blk (w : World) (A : Option Addr) (n : Nat) (G : List (List Int)) : Prop where
  len : G.length = n
  rd : Rd w w.heap.size A (G.map iv).flatten
  b64 : ∀ x ∈ G, x.length = 64 ∧ Is x
theorem Blk.below {w w' : World} {A : Option Addr} {n : Nat} {G : List (List Int)} (h : Blk w A n G) (hb : Below w.heap.size w w') : Blk w' A n G := ⟨h.len, (h.rd.below hb).more hb.size, h.b64⟩
/-- the i-th block -/
theorem Blk.at_ {w : World} {A : Option Addr} {n : Nat} {G : List (List Int)} (h : Blk w A n G) {i : Nat} (hi : i < n) :
    ∃ x b o, G[i]? = some x ∧ x ∈ G ∧ x.length = 64 ∧ Is x ∧ A = some ⟨b, o, none⟩ ∧ b < w.heap.size ∧ w.rangeAt b (o + i * 64) (iv x) := by
  have hl := h.len
  obtain ⟨x, hx⟩ : ∃ x, G[i]? = some x := ⟨G[i]'(by omega), List.getElem?_eq_getElem _⟩
  have hm := List.mem_of_getElem? hx
  obtain ⟨h64, hI⟩ := h.b64 x hm
  have hlen : ∀ r ∈ G.map iv, r.length = 64 := fun r hr => by
    obtain ⟨y, hy, rfl⟩ := List.mem_map.1 hr
    rw [iv_len]; exact (h.b64 y hy).1
  have hget : ∀ j u, (iv x)[j]? = some u → (G.map iv).flatten[i * 64 + j]? = some u := fun j u hu => flatten_get _ hlen i j (iv x) u (by rw [List.getElem?_map, hx]; rfl) hu
  have hpl : i * 64 < (G.map iv).flatten.length := by
    have := hget 0 _ (List.getElem?_eq_getElem (by rw [iv_len, h64]; decide))
    exact (List.getElem?_eq_some_iff.1 this).1
  obtain ⟨b1, o1, hA, hlt, hcr⟩ := h.rd.at_ hpl
  exact ⟨x, b1, o1, hx, hm, h64, hI, hA, hlt, fun j u hu => by rw [Nat.add_assoc]; exact hcr _ _ (hget j u hu)⟩

end Go.Proofs.Ytlhappecjjbopaa
