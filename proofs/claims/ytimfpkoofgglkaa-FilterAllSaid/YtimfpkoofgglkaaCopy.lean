/-
  Contracts of burnishnum's Copy and Kept: a copy of bytes with two marks in its spare room. Conditions: at most 1000000 bytes.
-/
import Derived.Test.YtimfpkoofgglkaaNum
namespace Go.Proofs.Ytimfpkoofgglkaa
open Go.RowKit
set_option linter.unusedVariables false
set_option maxRecDepth 100000


/-- two bytes in a new block -/
theorem Rd.new2 (w : World) (e : TypeId) (x y : Value) : Rd (w.alloc (.cells #[x, y] e)) (w.heap.size + 1) (some ⟨w.heap.size, 0, none⟩) [x, y] := by
  refine .inr ⟨_, 0, rfl, by omega, fun k u hu => ?_⟩
  match k, hu with
  | 0, hu =>
    simp only [List.getElem?_cons_zero, Option.some.injEq] at hu
    subst hu
    rw [World.cell?_alloc_at _ _ _ _ rfl]; rfl
  | 1, hu =>
    simp only [List.getElem?_cons_succ, List.getElem?_cons_zero, Option.some.injEq] at hu
    subst hu
    rw [World.cell?_alloc_at _ _ _ _ rfl]; rfl

set_option maxHeartbeats 400000 in
theorem copy_any (A : Option Addr) (n c : Nat) (b : List Int) (w : World) (hn : b.length = n) (hR : Rd w w.heap.size A (bv b)) (hm : n ≤ 1000000) :
    Calls Try.prog 12 #[.slice A n c] w fun e w' => ∃ g d, e = .returned (.slice (some ⟨g, 0, none⟩) n d) ∧
      w'.ownsRow w.heap.size 5 1 (.slice (some ⟨g, 0, none⟩) (n + 2) d) (n + 2) (bv (b ++ [165, 90])) ∧ Below w.heap.size w w' := by
  obtain ⟨i0, hi, hz0, hz1, hz2⟩ := info_parts Try.info_u8
  go_enter Try.func12, Try.ntmps12
  go_wp2_with fail
  have hmk := fun W => run_make (P := Try.prog) W 26 5 i0 (.int .u8 0) Try.underlying26 hi hz0 .i64 .i64 0 ((n : Int) + 2) (by omega) (by omega) (by rw [hz2]; omega) (by omega)
  rw [hmk]
  clear hmk
  have hown0 : (w.alloc (.cells (madeCells (Value.int .u8 0).cells (((n : Int) + 2).toNat * i0.size)) 5)).ownsRow w.heap.size 5 1 (.slice (some ⟨w.heap.size, 0, none⟩) 0 ((n : Int) + 2).toNat) 0 [] :=
    World.ownsRow_made w _ _ (Nat.le_refl _) (by unfold maxLen; omega) (by simp [madeCells, hz1])
  have hb0 : Below w.heap.size w (w.alloc (.cells (madeCells (Value.int .u8 0).cells (((n : Int) + 2).toNat * i0.size)) 5)) := (Below.refl _ _).alloc (Nat.le_refl _) _
  generalize w.alloc (.cells (madeCells (Value.int .u8 0).cells (((n : Int) + 2).toNat * i0.size)) 5) = w0 at *
  go_wp2_with (first
    | (at_builtin; refine wpList_app _ rfl (.tmp 6) (.tmp 7) 26 rfl Try.underlying26 hi hz0 hz1 hz2 rfl hown0 rfl rfl (hR.below hb0) (by rw [bv_len, hn]) (one_bv b) (by omega) (by omega) hb0.size ?_; intro v1 w1 hown1 hg1 hat1; have hb1 : Below w.heap.size w w1 := below_app hb0 hown0 hg1 (Nat.le_refl _) hb0.size; simp only [Nat.zero_add, List.nil_append] at hown1)
    | (at_builtin; refine wpList_app _ rfl (.tmp 8) (.tmp 9) 26 rfl Try.underlying26 hi hz0 hz1 hz2 rfl (hown1.alloc _) rfl rfl (Rd.new2 _ _ _ _) rfl (by simp [Value.oneCell']) (by omega) (by omega) (by have := hb1.size; simp; omega) ?_; intro v2 w2 hown2 hg2 hat2; have hb2 : Below w.heap.size w w2 := below_app (hb1.alloc hb1.size _) (hown1.alloc _) hg2 (Nat.le_refl _) (by have := hb1.size; simp; omega); obtain ⟨g, d, rfl, hcap, hdm, _, _⟩ := own_pos hown2 (by omega)))
  go_ret
  have hx : bv b ++ [Value.int .u8 165, Value.int .u8 90] = bv (b ++ [165, 90]) := by simp [bv]
  exact ⟨g, d, rfl, by rw [← hx]; exact hown2, hb2⟩

set_option maxHeartbeats 400000 in
theorem kept_any (A : Option Addr) (n c g d base : Nat) (b : List Int) (w : World) (hn : b.length = n) (hR : Rd w w.heap.size A (bv b)) (hB : Bs b) (hm : n ≤ 1000000)
    (hown : w.ownsRow base 5 1 (.slice (some ⟨g, 0, none⟩) (n + 2) d) (n + 2) (bv (b ++ [165, 90]))) :
    Calls Try.prog 15 #[.slice (some ⟨g, 0, none⟩) n d, .slice A n c] w fun e w' => e = .returned (.bool true) ∧ w = w' := by
  obtain ⟨g', d', hv, hcap, hdm, _, _⟩ := own_pos hown (by omega)
  injection hv with hg _ hd
  subst hd
  have hR2 : Rd w w.heap.size (some ⟨g, 0, none⟩) (bv b) := by
    have h := Rd.of_own hown
    rw [bv_app] at h
    exact h.pre
  have h1 := run_str Try.underlying26 Try.underlying5 Try.underlying9 hR2 hB n d hn.symm
  have h2 := run_str Try.underlying26 Try.underlying5 Try.underlying9 hR hB n c hn.symm
  have hc0 : w.cell? ⟨g, n, none⟩ = some (.int .u8 165) := by
    rw [hown.cellAt n (by omega)]; simp [bv, ← hn]
  have hc1 : w.cell? ⟨g, n + 1, none⟩ = some (.int .u8 90) := by
    rw [hown.cellAt (n + 1) (by omega)]; simp [bv, ← hn]
  clear hown hR hR2 hB hn hg
  generalize bstr b = sb at *
  go_enter Try.func15, Try.ntmps15
  go_wp2
  go_ret
  exact ⟨rfl, rfl⟩
end Go.Proofs.Ytimfpkoofgglkaa
