/-
  Contracts of burnishnum's Num, Is, Same. No condition but the arguments' own form.
-/
import Derived.Test.YtlhappecjjbopaaLib
import Derived.Test.YtlhappecjjbopaaRows
namespace Go.Proofs.Ytlhappecjjbopaa
open Go.RowKit
set_option linter.unusedVariables false

theorem Try.info_u8 : (Try.prog.info? 5).map (fun i => (i.zero, i.size, i.bytes)) = some (some (.int .u8 0), 1, 1) := by kernel_rfl
theorem Try.info_int : (Try.prog.info? 3).map (fun i => (i.zero, i.size, i.bytes)) = some (some (.int .i64 0), 1, 8) := by kernel_rfl

/-- an error of package api as a value -/
def errV (n : Int) : Value := .iface 53 (.int .i64 n)

theorem num_nil (w : World) : Calls Try.prog 87 #[.nilIface] w fun e w' => e = .returned (.int .i64 0) ∧ w = w' := by
  go_enter Try.func87, Try.ntmps87
  go_wp2
  go_ret
  exact ⟨rfl, rfl⟩

theorem num_err (n : Int) (hn : 1 ≤ n ∧ n ≤ 8) (w : World) : Calls Try.prog 87 #[.iface 53 (.int .i64 n)] w fun e w' => e = .returned (.int .i64 n) ∧ w = w' := by
  have hta : ∀ w : World, (Instr.typeAssert (.iface 53 (.int .i64 n)) 43 53 true).run Try.prog w = .ok (.tuple #[.int .i64 n, .bool true]) w := fun _ => by kernel_rfl
  go_enter Try.func87, Try.ntmps87
  go_wp2
  go_ret
  exact ⟨rfl, rfl⟩

theorem is_nil (k : Int) (hk : 1 ≤ k ∧ k ≤ 8) (w : World) : Calls Try.prog 35 #[.nilIface, .int .i64 k] w fun e w' => e = .returned (.bool false) ∧ w = w' := by
  go_enter Try.func35, Try.ntmps35
  go_wp2_with fail
  refine (num_nil _).mono ?_; rintro e w' ⟨rfl, rfl⟩
  go_wp2
  go_ret
  exact ⟨ret_bool (by simp; omega), rfl⟩

theorem is_err (n k : Int) (hn : 1 ≤ n ∧ n ≤ 8) (w : World) : Calls Try.prog 35 #[.iface 53 (.int .i64 n), .int .i64 k] w fun e w' => e = .returned (.bool (decide (n = k))) ∧ w = w' := by
  go_enter Try.func35, Try.ntmps35
  go_wp2_with fail
  refine (num_err _ hn _).mono ?_; rintro e w' ⟨rfl, rfl⟩
  go_wp2
  go_ret
  exact ⟨ret_bool (by rw [Bool.eq_iff_iff]; simp), rfl⟩

theorem same_any (A B : Option Addr) (n m c d : Nat) (a b : List Int) (Ba Bb : Nat) (w : World) (hA : Rd w Ba A (bv a)) (hB : Rd w Bb B (bv b)) (ha : Bs a) (hb : Bs b) (hn : n = a.length) (hm : m = b.length) :
    Calls Try.prog 82 #[.slice A n c, .slice B m d] w fun e w' => e = .returned (.bool (decide (a = b))) ∧ w = w' := by
  have h1 := run_str Try.underlying79 Try.underlying5 Try.underlying9 hA ha n c hn
  have h2 := run_str Try.underlying79 Try.underlying5 Try.underlying9 hB hb m d hm
  have h3 := bstr_eq ha hb
  have H3 := Lib.hid h3
  clear h3 hA hB ha hb hn hm
  generalize bstr a = sa at *
  generalize bstr b = sb at *
  go_enter Try.func82, Try.ntmps82
  go_wp2
  go_ret
  exact ⟨ret_bool H3.out, rfl⟩
theorem same_is (A B : Option Addr) (n m c d : Nat) (a b : List Int) (bl : Bool) (h : decide (a = b) = bl) (Ba Bb : Nat) (w : World) (hA : Rd w Ba A (bv a)) (hB : Rd w Bb B (bv b)) (ha : Bs a) (hb : Bs b) (hn : n = a.length) (hm : m = b.length) :
    Calls Try.prog 82 #[.slice A n c, .slice B m d] w fun e w' => e = .returned (.bool bl) ∧ w = w' := by
  subst h; exact same_any A B n m c d a b Ba Bb w hA hB ha hb hn hm
end Go.Proofs.Ytlhappecjjbopaa
