/-
  Prog: the chapter's example, by a contract. No condition.
-/
import Derived.Test.YtlhappecjjbopaaPrJ
namespace Go.Proofs.Ytlhappecjjbopaa
open Go.RowKit
set_option linter.unusedVariables false
set_option maxRecDepth 100000

theorem info_blk22 : (Try.prog.info? 70).map (fun i => (i.zero, i.size, i.bytes)) = some (some (.agg #[.int .i64 0, .int .i64 0, .int .i64 0, .int .i64 0, .int .i64 0, .int .i64 0, .int .i64 0, .int .i64 0, .int .i64 0, .int .i64 0, .int .i64 0, .int .i64 0, .int .i64 0, .int .i64 0, .int .i64 0, .int .i64 0, .int .i64 0, .int .i64 0, .int .i64 0, .int .i64 0, .int .i64 0, .int .i64 0, .int .i64 0, .int .i64 0, .int .i64 0, .int .i64 0, .int .i64 0, .int .i64 0, .int .i64 0, .int .i64 0, .int .i64 0, .int .i64 0, .int .i64 0, .int .i64 0, .int .i64 0, .int .i64 0, .int .i64 0, .int .i64 0, .int .i64 0, .int .i64 0, .int .i64 0, .int .i64 0, .int .i64 0, .int .i64 0, .int .i64 0, .int .i64 0, .int .i64 0, .int .i64 0, .int .i64 0, .int .i64 0, .int .i64 0, .int .i64 0, .int .i64 0, .int .i64 0, .int .i64 0, .int .i64 0, .int .i64 0, .int .i64 0, .int .i64 0, .int .i64 0, .int .i64 0, .int .i64 0, .int .i64 0, .int .i64 0]), 64, 512) := by kernel_rfl
theorem info_blk23 : ∃ i z, Try.prog.info? 70 = some i ∧ i.zero = some z ∧ i.size = 64 ∧ i.bytes = 512 ∧ z.cells.size = 64 ∧ z.cells = (iv z64).toArray := by
  obtain ⟨i, h1, h2, h3, h4⟩ := info_parts info_blk22
  exact ⟨i, _, h1, h2, h3, h4, by kernel_rfl, by kernel_rfl⟩
theorem mk128 : madeCells (iv z64).toArray ((2 : Int).toNat * 64) = (iv (z64 ++ z64)).toArray := by kernel_rfl
theorem make_blk2 (W : World) : (Instr.makeSlice 105 (.int .i64 2) (.int .i64 2)).run Try.prog W = .ok (.slice (some ⟨W.heap.size, 0, none⟩) 2 2) (W.alloc (.cells (iv (z64 ++ z64)).toArray 70)) := by
  obtain ⟨i0, z, hi, hz0, hz1, hz2, hz3, hz4⟩ := info_blk23
  have h1 := run_make (P := Try.prog) W 105 70 i0 z Try.underlying105 hi hz0 .i64 .i64 2 2 (by omega) (by omega) (by rw [hz2]; omega) (by omega)
  rw [h1, hz1]
  have h2 : madeCells z.cells ((2 : Int).toNat * 64) = (iv (z64 ++ z64)).toArray := by
    rw [hz4]; exact mk128
  rw [h2]; rfl
theorem blk2 (W : World) : Blk (W.alloc (.cells (iv (z64 ++ z64)).toArray 70)) (some ⟨W.heap.size, 0, none⟩) 2 [z64, z64] :=
  ⟨rfl, by
    have h := Rd.newN W 70 (iv (z64 ++ z64))
    have e : (List.map iv [z64, z64]).flatten = iv (z64 ++ z64) := by simp [iv]
    rw [e]
    refine h.more ?_
    simp, fun x hx => by
    simp only [List.mem_cons, List.not_mem_nil, or_false, or_self] at hx
    subst hx
    exact ⟨rfl, fun y hy => by have := (List.mem_replicate.1 hy).2; omega⟩⟩
theorem z64_goodL : GoodB z64 := by
  have h : ∀ j, z64.getD j 0 = 0 := fun j => by rw [z64, List.getD_eq_getElem?_getD, List.getElem?_replicate]; split <;> rfl
  exact ⟨fun j _ _ => by rw [h]; omega, by rw [h]; unfold DcB; omega⟩
theorem acP_ex : acP 1 63 0 0 [z64, z64] = [(true, 16, 0, 1)] := by decide +kernel
set_option maxHeartbeats 4000000 in
theorem alive22_any (w : World) : Calls Try.prog 68 #[] w fun e w' => e = .returned (.bool true) ∧ Below w.heap.size w w' := by
  have hb0 : Below w.heap.size w (w.alloc (.cells (iv (z64 ++ z64)).toArray 70)) := (Below.refl _ _).alloc (Nat.le_refl _) _
  have hmk := make_blk2
  have hB := blk2 w
  go_enter Try.func68, Try.ntmps68
  go_wp2_with fail
  generalize w.alloc (.cells (iv (z64 ++ z64)).toArray 70) = w0 at *
  refine (ac_any hB (by omega) 1 63 0 0).mono ?_; rintro e w1 ⟨h1, _, hb1⟩
  obtain ⟨v, rfl, hP⟩ := h1 ⟨by unfold Gd; omega, by omega, fun x hx => by
    simp only [List.mem_cons, List.not_mem_nil, or_false, or_self] at hx
    subst hx; exact z64_goodL⟩
  rw [show (63 : Int).toNat + 1 - (1 : Int).toNat = 63 from rfl, show (1 : Int).toNat = 1 from rfl, acP_ex] at hP
  obtain ⟨Av, cv, hve, _, _, hR⟩ := own_sliceN hP
  obtain ⟨b1, o1, hA, _, hc1⟩ := hR.at_ (k := 0) (by decide)
  subst hA
  subst hve
  have a0 := hc1 0 (.bool true) rfl
  have a1 := hc1 1 (.int .i64 16) rfl
  have a2 := hc1 2 (.int .i64 0) rfl
  have a3 := hc1 3 (.int .i64 1) rfl
  rw [Nat.add_zero] at a0
  have hb1' := hb0.trans (hb1.mono hb0.size)
  clear hc1 hR hP h1 hB hmk
  go_wp2
  go_ret
  exact ⟨rfl, hb1'⟩
end Go.Proofs.Ytlhappecjjbopaa
