/-
  canon's book: Read and Write where no code is; All, by contracts. No condition.
-/
import Derived.Test.YtlhappecjjbopaaCaI
namespace Go.Proofs.Ytlhappecjjbopaa
open Go.RowKit
set_option linter.unusedVariables false
set_option maxRecDepth 100000

theorem read_nil (rv : Option Addr) (w : World) : Calls Try.prog 63 #[.pointer none, .pointer rv] w fun e w' => e = .returned (.tuple #[.int .i64 0, errV 2]) ∧ w' = w := by
  unfold errV
  go_enter Try.func63, Try.ntmps63
  go_wp2
  go_ret2
  exact ⟨rfl, rfl⟩
set_option maxHeartbeats 1000000 in
theorem read_none (rv : Option Addr) (p : Nat) (ls C : List Int) (w : World) (hB : Bk w p ls [] C) : Calls Try.prog 63 #[.pointer (some ⟨p, 0, none⟩), .pointer rv] w fun e w' => e = .returned (.tuple #[.int .i64 0, errV 2]) ∧ Below w.heap.size w w' := by
  unfold errV
  obtain ⟨A, c, y0, _⟩ := hB.ord
  have hb0 : ∀ n, Below w.heap.size w (w.drewN n) := fun n => ⟨rfl, rfl, rfl, Nat.le_refl _, fun _ _ => rfl⟩
  clear hB
  go_enter Try.func63, Try.ntmps63
  go_upto_region 3 with fail
  go_quiet (fail)
  go_wp2
  go_loopw [7, 8] (fun o i wr => o = .int .i64 0 ∧ i = .int .i64 1 ∧ Below w.heap.size w wr) (fun _ _ _ => 0)
  case atStart => exact ⟨rfl, rfl, hb0 _⟩
  case round =>
    obtain ⟨rfl, rfl, hb⟩ := hrel
    go_wp2
    go_ret2
    exact ⟨rfl, hb⟩

theorem write_nil (wv : Option Addr) (x : Int) (w : World) : Calls Try.prog 65 #[.pointer none, .pointer wv, .int .i64 x] w fun e w' => e = .returned (errV 6) ∧ w' = w := by
  unfold errV
  go_enter Try.func65, Try.ntmps65
  go_wp2_with fail
  refine (has_nil x w).mono ?_; rintro e w1 ⟨rfl, rfl⟩
  go_wp2
  go_ret
  exact ⟨rfl, rfl⟩
theorem write_bad (wv : Option Addr) (p : Nat) (ls : List Int) (O : List Nat) (C : List Int) (x : Int) (w : World) (hB : Bk w p ls O C) (hv : Vl ls) (hh : ¬ hasL ls x ∨ wv = none) : Calls Try.prog 65 #[.pointer (some ⟨p, 0, none⟩), .pointer wv, .int .i64 x] w fun e w' => e = .returned (errV 6) ∧ w' = w := by
  unfold errV
  by_cases h1 : hasL ls x
  · have hd : decide (hasL ls x) = true := decide_eq_true h1
    obtain rfl : wv = none := hh.elim (fun h => absurd h1 h) id
    have HD := Lib.hid hd
    clear hh h1 hd
    go_enter Try.func65, Try.ntmps65
    go_wp2_with fail
    refine (has_any p ls O C x w hB hv).mono ?_; rintro e w1 ⟨rfl, rfl⟩
    rw [HD.out]
    go_wp2
    go_ret
    exact ⟨rfl, rfl⟩
  · have hd : decide (hasL ls x) = false := decide_eq_false h1
    have HD := Lib.hid hd
    clear hh h1 hd
    go_enter Try.func65, Try.ntmps65
    go_wp2_with fail
    refine (has_any p ls O C x w hB hv).mono ?_; rintro e w1 ⟨rfl, rfl⟩
    rw [HD.out]
    go_wp2
    go_ret
    exact ⟨rfl, rfl⟩
end Go.Proofs.Ytlhappecjjbopaa
