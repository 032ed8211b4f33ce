/-
  Contracts of burnishnum's Ints, CopyInts, KeptInts. Conditions: at most 2000000 numbers.
-/
import Derived.Test.YtlhappecjjbopaaNum
import Derived.Test.YtlhappecjjbopaaLib
namespace Go.Proofs.Ytlhappecjjbopaa
open Go.RowKit
set_option linter.unusedVariables false
set_option maxRecDepth 100000

theorem ivs_get {l : List Int} {i : Nat} (h : i < l.length) : (iv l)[i]? = some (.int .i64 (l.getD i 0)) := by
  simp [iv, h, List.getD_eq_getElem?_getD]

set_option maxHeartbeats 1000000 in
theorem ints_eq (A1 A2 : Option Addr) (n c d : Nat) (l : List Int) (w : World) (hn : l.length = n) (h1 : Rd w w.heap.size A1 (iv l)) (h2 : Rd w w.heap.size A2 (iv l)) (hm : n ≤ 2000000) :
    Calls Try.prog 25 #[.slice A1 n c, .slice A2 n d] w fun e w' => e = .returned (.bool true) ∧ Below w.heap.size w w' := by
  have HN := Lib.hid hn
  clear hn
  have hnn : ((n : Int) != (n : Int)) = false := by simp
  go_enter Try.func25, Try.ntmps25
  go_wp2
  go_loopw [13] (fun i wr => ∃ k : Nat, k ≤ n ∧ i = .int .i64 k ∧ Below w.heap.size w wr) (fun i _ => n - (intOf i).toNat)
  case atStart => exact ⟨0, Nat.zero_le _, rfl, Below.refl _ _⟩
  case round =>
    obtain ⟨k, hk, rfl, hb⟩ := hrel
    by_cases hlt : k < n
    · obtain ⟨b1, o1, rfl, _, g1⟩ := (h1.below hb).at_ (k := k) (by rw [iv_len, HN.out]; exact hlt)
      obtain ⟨b2, o2, rfl, _, g2⟩ := (h2.below hb).at_ (k := k) (by rw [iv_len, HN.out]; exact hlt)
      have c1 := g1 k _ (ivs_get (by rw [HN.out]; exact hlt))
      have c2 := g2 k _ (ivs_get (by rw [HN.out]; exact hlt))
      clear g1 g2 h1 h2
      generalize l.getD k 0 = x at *
      have hxx : (x != x) = false := by simp
      have hk0 : (0 : Int) ≤ (k : Int) := by omega
      have hk1 : (k : Int) < (n : Int) := by omega
      go_wp2
      go_quiet (fail)
      go_wp2
      go_roundw
      case rel => exact ⟨k + 1, by omega, by go_num, below_drewN hb _⟩
      case measure => simp [intOf]; omega
    · go_wp2
      go_ret
      exact ⟨rfl, hb⟩

set_option maxHeartbeats 400000 in
theorem copyInts_any (A : Option Addr) (n c : Nat) (b : List Int) (w : World) (hn : b.length = n) (hR : Rd w w.heap.size A (iv b)) (hm : n ≤ 2000000) :
    Calls Try.prog 31 #[.slice A n c] w fun e w' => ∃ g d, e = .returned (.slice (some ⟨g, 0, none⟩) n d) ∧
      w'.ownsRow w.heap.size 3 1 (.slice (some ⟨g, 0, none⟩) (n + 1) d) (n + 1) (iv (b ++ [-77])) ∧ Below w.heap.size w w' := by
  obtain ⟨i0, hi, hz0, hz1, hz2⟩ := info_parts Try.info_int
  go_enter Try.func31, Try.ntmps31
  go_wp2_with fail
  have hmk := fun W => run_make (P := Try.prog) W 24 3 i0 (.int .i64 0) Try.underlying24 hi hz0 .i64 .i64 0 ((n : Int) + 1) (by omega) (by omega) (by rw [hz2]; omega) (by omega)
  rw [hmk]
  clear hmk
  have hown0 : (w.alloc (.cells (madeCells (Value.int .i64 0).cells (((n : Int) + 1).toNat * i0.size)) 3)).ownsRow w.heap.size 3 1 (.slice (some ⟨w.heap.size, 0, none⟩) 0 ((n : Int) + 1).toNat) 0 [] :=
    World.ownsRow_made w _ _ (Nat.le_refl _) (by unfold maxLen; omega) (by simp [madeCells, hz1])
  have hb0 : Below w.heap.size w (w.alloc (.cells (madeCells (Value.int .i64 0).cells (((n : Int) + 1).toNat * i0.size)) 3)) := (Below.refl _ _).alloc (Nat.le_refl _) _
  generalize w.alloc (.cells (madeCells (Value.int .i64 0).cells (((n : Int) + 1).toNat * i0.size)) 3) = w0 at *
  go_wp2_with (first
    | (at_builtin; refine wpList_app _ rfl (.tmp 6) (.tmp 7) 24 rfl Try.underlying24 hi hz0 hz1 hz2 rfl hown0 rfl rfl (hR.below hb0) (by rw [iv_len, hn]) (one_iv b) (by omega) (by omega) hb0.size ?_; intro v1 w1 hown1 hg1 hat1; have hb1 : Below w.heap.size w w1 := below_app hb0 hown0 hg1 (Nat.le_refl _) hb0.size; simp only [Nat.zero_add, List.nil_append] at hown1)
    | (at_builtin; refine wpList_app _ rfl (.tmp 8) (.tmp 9) 24 rfl Try.underlying24 hi hz0 hz1 hz2 rfl (hown1.alloc _) rfl rfl (Rd.new1 _ _ _) rfl (by simp [Value.oneCell']) (by omega) (by omega) (by have := hb1.size; simp; omega) ?_; intro v2 w2 hown2 hg2 hat2; have hb2 : Below w.heap.size w w2 := below_app (hb1.alloc hb1.size _) (hown1.alloc _) hg2 (Nat.le_refl _) (by have := hb1.size; simp; omega); obtain ⟨g, d, rfl, hcap, hdm, _, _⟩ := own_pos hown2 (by omega)))
  go_ret
  have hx : iv b ++ [Value.int .i64 (-77)] = iv (b ++ [-77]) := by simp [iv]
  exact ⟨g, d, rfl, by rw [← hx]; exact hown2, hb2⟩

set_option maxHeartbeats 400000 in
theorem keptInts_any (A : Option Addr) (n c g d base : Nat) (b : List Int) (w : World) (hn : b.length = n) (hR : Rd w w.heap.size A (iv b)) (hm : n ≤ 2000000)
    (hown : w.ownsRow base 3 1 (.slice (some ⟨g, 0, none⟩) (n + 1) d) (n + 1) (iv (b ++ [-77]))) :
    Calls Try.prog 34 #[.slice (some ⟨g, 0, none⟩) n d, .slice A n c] w fun e w' => e = .returned (.bool true) ∧ Below w.heap.size w w' := by
  obtain ⟨g', d', hv, hcap, hdm, _, _⟩ := own_pos hown (by omega)
  injection hv with hg _ hd
  subst hd
  have hR2 : Rd w w.heap.size (some ⟨g, 0, none⟩) (iv b) := by
    have h := Rd.of_own hown
    rw [iv_app] at h
    exact h.pre
  have hc0 : w.cell? ⟨g, n, none⟩ = some (.int .i64 (-77)) := by
    rw [hown.cellAt n (by omega)]; simp [iv, ← hn]
  have hlt := (hown.lt g rfl).2
  clear hown hg
  have HN := Lib.hid hn
  clear hn
  go_enter Try.func34, Try.ntmps34
  go_wp2_with (go_at_call 25; refine (ints_eq _ _ n d c b _ HN.out hR2 hR hm).mono ?_; rintro e w1 ⟨rfl, hb1⟩; have hc1 : w1.cell? ⟨g, n, none⟩ = some (.int .i64 (-77)) := (hb1.cell hlt).trans hc0)
  go_ret
  exact ⟨rfl, hb1⟩
end Go.Proofs.Ytlhappecjjbopaa
