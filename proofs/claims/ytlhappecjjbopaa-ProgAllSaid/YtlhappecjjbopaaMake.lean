/-
  make of a row of integers. No condition beyond the length.
-/
import Derived.Test.YtlhappecjjbopaaInts
import Derived.Laws.OwnMore
import Derived.Laws.MakeOwn
namespace Go.Proofs.Ytlhappecjjbopaa
open Go.RowKit
set_option linter.unusedVariables false
theorem make_ints (C : Nat) (h : C ≤ 2000000) (W : World) : (Instr.makeSlice 24 (.int .i64 (C : Int)) (.int .i64 (C : Int))).run Try.prog W = .ok (.slice (some ⟨W.heap.size, 0, none⟩) C C) (W.alloc (.cells (iv (List.replicate C 0)).toArray 3)) := by
  obtain ⟨i0, hi, hz0, hz1, hz2⟩ := info_parts Try.info_int
  have h1 := run_make (P := Try.prog) W 24 3 i0 (.int .i64 0) Try.underlying24 hi hz0 .i64 .i64 (C : Int) (C : Int) (by omega) (by omega) (by rw [hz2]; omega) (by omega)
  rw [h1, hz1, Int.toNat_natCast, Nat.mul_one]
  have h2 : madeCells (Value.int .i64 0).cells C = (iv (List.replicate C 0)).toArray := by
    apply Array.toList_inj.1
    show (madeCells #[Value.int .i64 0] C).toList = _
    rw [toList_madeCells_one]; simp [iv]
  rw [h2]
theorem own_ints (w : World) (l : List Int) (hm : l.length ≤ 2000000) : (w.alloc (.cells (iv l).toArray 3)).ownsRow w.heap.size 3 1 (.slice (some ⟨w.heap.size, 0, none⟩) l.length l.length) l.length (iv l) := by
  have := World.ownsRow_lit (e := 3) (size := 1) w (iv l).toArray l.length (Nat.le_refl w.heap.size) (by unfold maxLen; omega) (by simp [iv])
  simpa using this

end Go.Proofs.Ytlhappecjjbopaa
