/-
  Prog: blocks copied, known blocks of a band; by contracts. Conditions: at most 1000 blocks.
-/
import Derived.Test.YtlhappecjjbopaaPrJ
import Derived.Test.YtlhappecjjbopaaPrN
namespace Go.Proofs.Ytlhappecjjbopaa
open Go.RowKit
set_option linter.unusedVariables false
set_option maxRecDepth 100000

theorem one_ivs (G : List (List Int)) : ∀ u ∈ (G.map iv).flatten, u.oneCell' = true := fun u hu => by
  obtain ⟨r, hr, hu⟩ := List.mem_flatten.1 hu
  obtain ⟨x, _, rfl⟩ := List.mem_map.1 hr
  exact one_iv x u hu
theorem flat_len64 : ∀ {G : List (List Int)}, (∀ x ∈ G, x.length = 64) → (G.map iv).flatten.length = G.length * 64
  | [], _ => rfl
  | x :: G, h => by
    rw [List.map_cons, List.flatten_cons, List.length_append, iv_len, h x List.mem_cons_self, flat_len64 (fun y hy => h y (List.mem_cons_of_mem _ hy)), List.length_cons]; omega
theorem Blk.l64 {w : World} {A : Option Addr} {n : Nat} {G : List (List Int)} (h : Blk w A n G) : ∀ x ∈ G, x.length = 64 := fun x hx => (h.b64 x hx).1
set_option maxHeartbeats 4000000 in
theorem cloneB_any (A : Option Addr) (n c : Nat) (G : List (List Int)) (w : World) (h : Blk w A n G) (hm : n ≤ 1000000) :
    Calls Try.prog 125 #[.slice A n c] w fun e w' => ∃ v, e = .returned v ∧ w'.ownsRow w.heap.size 70 64 v n (G.map iv).flatten ∧ Below w.heap.size w w' := by
  obtain ⟨j0, zb, hj0, hy0, hy1, hy2, hy3, hy4⟩ := info_blk23
  have HN := Lib.hid h.len
  have hfl := flat_len64 h.l64
  rw [h.len] at hfl
  have HFL := Lib.hid hfl
  have hR := h.rd
  clear h hfl hy4
  rcases A with _ | ad
  · have h0 : n = 0 := by
      rcases hR with h | ⟨b, off, hA, _⟩
      · have := congrArg List.length h
        rw [HFL.out] at this; simp at this; omega
      · cases hA
    obtain rfl : G = [] := List.eq_nil_of_length_eq_zero (by rw [HN.out, h0])
    subst h0
    have hnil := fun W : World => Lib.run_eql_slice_nil (P := Try.prog) W 105 70 none 0 c 0 0 Try.underlying105
    go_enter Try.func125, Try.ntmps125
    go_wp2
    go_ret
    exact ⟨_, rfl, World.ownsRow_nil _ _ _ _, Below.refl _ _⟩
  · have hb0 : Below w.heap.size w (w.alloc (.cells #[] 70)) := (Below.refl _ _).alloc (Nat.le_refl _) _
    have hown0 : (w.alloc (.cells #[] 70)).ownsRow w.heap.size 70 64 (.slice (some ⟨w.heap.size, 0, none⟩) 0 0) 0 [] :=
      World.ownsRow_made w #[] 0 (Nat.le_refl _) (by unfold maxLen; omega) (by simp)
    have hR0 := hR.below hb0
    have hone := one_ivs G
    have hnil := fun W : World => Lib.run_eql_slice_nil (P := Try.prog) W 105 70 (some ad) n c 0 0 Try.underlying105
    go_enter Try.func125, Try.ntmps125
    go_wp2_with (at_builtin; refine wpList_appN0 _ rfl (.tmp 5) (.tmp 6) 105 rfl Try.underlying105 hj0 hy0 hy1 hy2 hy3 (by omega) hown0 rfl rfl hR0 HFL.out hone (by omega) (by omega) hb0.size ?_; intro v1 w1 hown1 hap1; have hb1 : Below w.heap.size w w1 := hb0.trans (hap1.below (fun k hk => (hown0.lt k hk).1) hb0.size); simp only [Nat.zero_add, List.nil_append] at hown1)
    go_ret
    exact ⟨_, rfl, hown1, hb1⟩

/-- blocks in a slice of one's own -/
structure Gro (w : World) (B g c n : Nat) (L : List (List Int)) : Prop where
  own : w.ownsRow B 70 64 (.slice (some ⟨g, 0, none⟩) n c) n (L.map iv).flatten
  len : L.length = n
  b64 : ∀ x ∈ L, x.length = 64
theorem flat_get64 {L : List (List Int)} (h : ∀ x ∈ L, x.length = 64) {i z : Nat} {x : List Int} (hx : L[i]? = some x) (hz : z < 64) : (L.map iv).flatten[i * 64 + z]? = some (.int .i64 (x.getD z 0)) := by
  have hm := List.mem_of_getElem? hx
  refine flatten_get _ (fun r hr => ?_) i z (iv x) _ (by rw [List.getElem?_map, hx]; rfl) (ivs_get (by rw [h x hm]; exact hz))
  obtain ⟨y, hy, rfl⟩ := List.mem_map.1 hr
  rw [iv_len]; exact h y hy
theorem flat_set64 : ∀ {L : List (List Int)}, (∀ x ∈ L, x.length = 64) → ∀ {i z : Nat} {x : List Int} (u : Int), L[i]? = some x → z < 64 → (L.map iv).flatten.set (i * 64 + z) (.int .i64 u) = ((L.set i (x.set z u)).map iv).flatten
  | [], _, i, z, x, u, hx, _ => by simp at hx
  | y :: L, h, 0, z, x, u, hx, hz => by
    simp only [List.getElem?_cons_zero, Option.some.injEq] at hx
    subst hx
    have hl := h y List.mem_cons_self
    rw [Nat.zero_mul, Nat.zero_add, List.map_cons, List.flatten_cons, List.set_append_left _ _ (by rw [iv_len, hl]; exact hz), List.set_cons_zero, List.map_cons, List.flatten_cons]
    simp [iv]
  | y :: L, h, i + 1, z, x, u, hx, hz => by
    have hl := h y List.mem_cons_self
    have ih := flat_set64 (L := L) (fun q hq => h q (List.mem_cons_of_mem _ hq)) (i := i) (z := z) (x := x) u (by simpa using hx) hz
    rw [List.map_cons, List.flatten_cons, List.set_append_right _ _ (by rw [iv_len, hl]; omega), iv_len, hl, List.set_cons_succ, List.map_cons, List.flatten_cons, ← ih, show (i + 1) * 64 + z - 64 = i * 64 + z by omega]
section
variable {w w' : World} {B g c n : Nat} {L : List (List Int)}
theorem Gro.cell (h : Gro w B g c n L) {i z : Nat} {x : List Int} (hx : L[i]? = some x) (hz : z < 64) : w.cell? ⟨g, i * 64 + z, none⟩ = some (.int .i64 (x.getD z 0)) := by
  have hi := (List.getElem?_eq_some_iff.1 hx).1
  have hl := h.len
  rw [h.own.cellAt (i * 64 + z) (by omega)]
  exact flat_get64 h.b64 hx hz
theorem Gro.fz (h : Gro w B g c n L) (q : Nat) : w.frozen? ⟨g, q, none⟩ = false := h.own.frozenAt q
theorem Gro.set (h : Gro w B g c n L) {i z : Nat} {x : List Int} (hx : L[i]? = some x) (hz : z < 64) (u : Int) : Gro (w.setCell ⟨g, i * 64 + z, none⟩ (.int .i64 u)) B g c n (L.set i (x.set z u)) := by
  have h1 := (World.ownsRow.stored h.own (i * 64 + z) (.int .i64 u)).1
  rw [flat_set64 h.b64 u hx hz] at h1
  refine ⟨h1, by rw [List.length_set]; exact h.len, fun y hy => ?_⟩
  rcases List.mem_or_eq_of_mem_set hy with hy | rfl
  · exact h.b64 y hy
  · rw [List.length_set]; exact h.b64 x (List.mem_of_getElem? hx)
theorem Gro.below (h : Gro w B g c n L) (hb : Below w.heap.size w w') : Gro w' B g c n L := ⟨own_keepN h.own hb, h.len, h.b64⟩
theorem Gro.keep (h : Gro w B g c n L) {S : Nat → Prop} (hf : Fr S w w') (hs : ¬ S g) : Gro w' B g c n L := ⟨hf.ownN h.own (fun k hk => by injection hk with hk; rw [← hk]; exact hs), h.len, h.b64⟩
theorem Gro.drewN (h : Gro w B g c n L) (k : Nat) : Gro (w.drewN k) B g c n L := h.below ⟨rfl, rfl, rfl, Nat.le_refl _, fun _ _ => rfl⟩
theorem Gro.lt (h : Gro w B g c n L) : B ≤ g ∧ g < w.heap.size := h.own.lt g rfl
theorem Gro.blk (h : Gro w B g c n L) (hI : ∀ x ∈ L, Is x) : Blk w (some ⟨g, 0, none⟩) n L :=
  ⟨h.len, by obtain ⟨A, c1, he, _, _, hR⟩ := own_sliceN h.own; injection he with he1; subst he1; exact hR, fun x hx => ⟨h.b64 x hx, hI x hx⟩⟩
end
theorem zz_inj22 : ∀ i, i < 64 → ∀ j, j < 64 → zzN i = zzN j → i = j := by decide +kernel
/-- a block with a band's numbers rounded -/
def knG (x : List Int) (f : Nat) (l : Int) (dc : Bool) : Nat → List Int
  | 0 => x
  | i + 1 => (knG x f l dc i).set (zzN (f + i)) (tl (x.getD (zzN (f + i)) 0) l dc * 2 ^ l.toNat)
theorem knG_len (x : List Int) (f : Nat) (l : Int) (dc : Bool) : ∀ i, (knG x f l dc i).length = x.length
  | 0 => rfl
  | i + 1 => by rw [knG, List.length_set, knG_len x f l dc i]
theorem knG_at (x : List Int) (f : Nat) (l : Int) (dc : Bool) {j : Nat} (hj : f + j < 64) : ∀ i, i ≤ j → (knG x f l dc i).getD (zzN (f + j)) 0 = x.getD (zzN (f + j)) 0
  | 0, _ => rfl
  | i + 1, hi => by
    rw [knG, getD_set_ne _ (fun e => by
      have := zz_inj22 _ (show f + i < 64 by omega) _ hj e
      omega)]
    exact knG_at x f l dc hj i (by omega)
theorem tl_low2 {v l : Int} (h1 : -1024 ≤ v) (h2 : v ≤ 1023) (dc : Bool) : -1024 ≤ tl v l dc * 2 ^ l.toNat ∧ tl v l dc * 2 ^ l.toNat ≤ 1023 := by
  unfold tl
  split
  · omega
  · rename_i hl
    have hp := two_pos l.toNat
    have hp9 : (2 : Int) ^ l.toNat ≤ 512 := by
      have h2 : 2 ^ l.toNat ≤ 2 ^ 9 := Nat.pow_le_pow_right (by omega) (by omega)
      have := two_cast l.toNat
      omega
    have hd : ∃ k : Nat, k ≤ 9 ∧ l.toNat = k := ⟨l.toNat, by omega, rfl⟩
    obtain ⟨k, hk, hkl⟩ := hd
    rw [hkl] at hp hp9 ⊢
    have hdv : (1024 : Int) = 2 ^ k * 2 ^ (10 - k) := by
      rw [← Int.pow_add, show k + (10 - k) = 10 by omega]; rfl
    split
    · have e1 := Int.ediv_mul_le v (b := 2 ^ k) (by omega)
      have e2 : -(2 ^ (10 - k)) ≤ v / 2 ^ k := by
        have := Int.ediv_le_ediv (c := (2 : Int) ^ k) (by omega) h1
        rw [show (-1024 : Int) = 2 ^ k * (-(2 ^ (10 - k))) by rw [Int.mul_neg, ← hdv], Int.mul_ediv_cancel_left _ (by omega)] at this
        exact this
      refine ⟨?_, by omega⟩
      have e3 := Int.mul_le_mul_of_nonneg_right e2 (show (0 : Int) ≤ 2 ^ k by omega)
      rw [Int.neg_mul, Int.mul_comm (2 ^ (10 - k)), ← hdv] at e3
      exact e3
    · rename_i h0
      simp only [not_or] at h0
      have h1 := Int.ediv_mul_le (-v) (b := 2 ^ k) (by omega)
      have h2 : 0 ≤ -v / 2 ^ k := Int.ediv_nonneg (by omega) (by omega)
      have h4 : 0 ≤ -v / 2 ^ k * 2 ^ k := Int.mul_nonneg h2 (by omega)
      rw [Int.neg_mul]
      omega
end Go.Proofs.Ytlhappecjjbopaa
