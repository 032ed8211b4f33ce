/-
  Prog: what reading comes to; plain. No condition.
-/
import Derived.Test.YtlhappecjjbopaaPrX
import Derived.Test.YtlhappecjjbopaaPrU
namespace Go.Proofs.Ytlhappecjjbopaa
open Go.RowKit
set_option linter.unusedVariables false
theorem rdF_255 {S Z : List Int} (hS : ∀ x ∈ S, 0 ≤ x ∧ x ≤ 255) (l : List Int) : 0 ≤ (rdF S Z l).1 ∧ (rdF S Z l).1 ≤ 255 ∧ (rdF S Z l).2.1 ≤ l.length := by
  unfold rdF
  split
  · rename_i h
    have h1 : 0 ≤ (Classical.choose h).1 ∧ (Classical.choose h).1 ≤ 255 := by
      rcases Classical.choose_spec h with ⟨h0, h1, h2, h3⟩ | ⟨h0, k, hc, ⟨h1, h2, h3, h4⟩ | ⟨h1, ⟨i, hi, h2, h3, h4⟩ | ⟨_, _, h2, h3, h4⟩⟩⟩
      · omega
      · omega
      · rw [h2, List.getD_eq_getElem?_getD]
        rcases hq : S[i]? with _ | y
        · simp
        · exact hS y (List.mem_of_getElem? hq)
      · omega
    exact ⟨h1.1, h1.2, (Classical.choose_spec h).bd.1⟩
  · exact ⟨by decide, by decide, Nat.zero_le _⟩
theorem hv_take_bd2 (L : List Int) (hB : B01 L) (k : Nat) : 0 ≤ hv (L.take k) ∧ hv (L.take k) < 2 ^ k := by
  have h := hv_bd (hB.take k)
  have h2 : (L.take k).length ≤ k := List.length_take_le _ _
  have h3 : (2 : Int) ^ (L.take k).length ≤ 2 ^ k := by
    rw [← two_cast, ← two_cast]; exact Int.ofNat_le.2 (Nat.pow_le_pow_right (by omega) h2)
  omega
/-- places from j on are as they were -/
theorem rdP_after (b : List Int) (f n : Nat) (l : Int) (hfn : f + n ≤ 64) : ∀ (q k a z : Nat) (x : List Int), n - k ≤ q → ∀ j, (rdP b f n l k a z x).2.1 ≤ j → j < n → (rdP b f n l k a z x).1.getD (zzN (f + j)) 0 = x.getD (zzN (f + j)) 0
  | 0, k, a, z, x, hq, j, _, _ => by rw [rdP_out (by omega)]
  | q + 1, k, a, z, x, hq, j, h1, h2 => by
    by_cases hk : k < n
    · by_cases h : x.getD (zzN (f + k)) 0 = 0
      · by_cases hz : z = 0
        · rw [rdP_stop hk h hz]
        · rw [rdP_zero hk h hz] at h1 ⊢
          exact rdP_after b f n l hfn q (k + 1) a (z - 1) x (by omega) j h1 h2
      · by_cases hl : b.length ≤ a
        · rw [rdP_few hk h hl]
        · rw [rdP_on hk h hl] at h1 ⊢
          rw [rdP_after b f n l hfn q (k + 1) (a + 1) z _ (by omega) j h1 h2]
          have := rdP_ge b f n l (k + 1) (a + 1) z (x.set (zzN (f + k)) (bet (x.getD (zzN (f + k)) 0) (b.getD a 0) l))
          exact getD_set_ne _ (zz_ne (i := j) (j := k) (by omega) (by omega) (by omega))
    · rw [rdP_out hk]
/-- what a finer block comes to behind its symbols -/
def endG (b : List Int) (F n : Nat) (l : Int) (RG : List Int × Nat × Nat × Nat × Int) : List Int × Nat × Nat × Int :=
  if RG.2.2.2.2 ≠ 0 then ([], 0, 0, RG.2.2.2.2) else rdZ b F n l RG.2.1 RG.2.2.1 RG.2.2.2.1 RG.1
/-- blocks that are read ahead of others -/
def cmbR (D : List (List Int)) (R : List (List Int) × Nat × Int) : List (List Int) × Nat × Int := if R.2.2 ≠ 0 then ([], 0, R.2.2) else (D ++ R.1, R.2.1, 0)
theorem rdAll_err (S Z b : List Int) (f n : Nat) (h l : Int) : ∀ (G : List (List Int)) (a en : Nat), (rdAll S Z b f n h l G a en).2.2 ≠ 0 → ([], 0, (rdAll S Z b f n h l G a en).2.2) = rdAll S Z b f n h l G a en
  | [], a, en, h9 => absurd rfl h9
  | x :: G, a, en, h9 => by
    rw [rdAll]
    split
    · rfl
    · split
      · rfl
      · rename_i h1 h2
        rw [rdAll, if_neg h1, if_neg h2] at h9
        exact absurd rfl h9
theorem rdK_fine2 {S Z b : List Int} {left f n a en : Nat} {h l : Int} {x : List Int} (hh : 0 < h) : endG b f n l (if 0 < en then (x, 0, a, en, 0) else rdG S Z b left f n l 0 a x) = rdK S Z b left f n h l a en x := by
  rw [rdK, if_pos hh]
  unfold endG
  by_cases he : 0 < en
  · rw [if_pos he, if_pos he, if_neg (by simp)]
  · rw [if_neg he, if_neg he]
theorem rdK_first2 {S Z b : List Int} {left f n a en : Nat} {h l : Int} {x : List Int} (hh : ¬ 0 < h) : (if 0 < en then (zrN x f n, a, en, 0) else rdA S Z b left f n l 0 a (zrN x f n)) = rdK S Z b left f n h l a en x := by
  rw [rdK, if_neg hh]
theorem cmbR_go {S Z b : List Int} {f n a en a1 en1 : Nat} {h l : Int} {x x1 : List Int} {G D : List (List Int)} (hK : rdK S Z b (G.length + 1) f n h l a en x = (x1, a1, en1, 0)) : cmbR D (rdAll S Z b f n h l (x :: G) a en) = cmbR (D ++ [x1]) (rdAll S Z b f n h l G a1 (en1 - 1)) := by
  rw [rdAll_go hK]
  unfold cmbR
  by_cases h9 : (rdAll S Z b f n h l G a1 (en1 - 1)).2.2 = 0
  · have h8 : ¬ (rdAll S Z b f n h l G a1 (en1 - 1)).2.2 ≠ 0 := fun q => q h9
    rw [if_neg h8, if_neg h8, if_neg (by simp)]; simp
  · have h8 : (rdAll S Z b f n h l G a1 (en1 - 1)).2.2 ≠ 0 := h9
    rw [if_pos h8, if_pos h8, if_pos h8]
theorem rdE_en (b : List Int) (left a k : Nat) (x : List Int) : (rdE b left a k x).2.2.1 ≤ left := by
  unfold rdE
  split
  · exact Nat.zero_le _
  · split
    · exact Nat.zero_le _
    · dsimp only; omega
theorem rdA_en (S Z b : List Int) (left f n : Nat) (l : Int) : ∀ (q k a : Nat) (x : List Int), n - k ≤ q → (rdA S Z b left f n l k a x).2.2.1 ≤ left
  | 0, k, a, x, hq => by rw [rdA_out (by omega)]; exact Nat.zero_le _
  | q + 1, k, a, x, hq => by
    rw [rdA]
    split
    · split
      · exact Nat.zero_le _
      · split
        · exact rdE_en _ _ _ _ _
        · split
          · exact Nat.zero_le _
          · split
            · exact Nat.zero_le _
            · split
              · exact rdA_en S Z b left f n l q _ _ _ (by omega)
              · exact Nat.zero_le _
    · exact Nat.zero_le _
theorem rdG_en (S Z b : List Int) (left f n : Nat) (l : Int) : ∀ (q k a : Nat) (x : List Int), n - k ≤ q → (rdG S Z b left f n l k a x).2.2.2.1 ≤ left
  | 0, k, a, x, hq => by rw [rdG_out (by omega)]; exact Nat.zero_le _
  | q + 1, k, a, x, hq => by
    rw [rdG]
    split
    · split
      · exact Nat.zero_le _
      · split
        · exact rdE_en _ _ _ _ _
        · split
          · exact Nat.zero_le _
          · split
            · exact Nat.zero_le _
            · split
              · exact Nat.zero_le _
              · split
                · exact Nat.zero_le _
                · refine rdG_en S Z b left f n l q _ _ _ ?_
                  have := rdP_ge b f n l k (a + (rdF S Z (b.drop a)).2.1 + (rdF S Z (b.drop a)).1.toNat % 16) ((rdF S Z (b.drop a)).1.toNat / 16) x
                  omega
    · exact Nat.zero_le _
theorem rdK_en (S Z b : List Int) (left f n : Nat) (h l : Int) (a en : Nat) (x : List Int) (he : en ≤ 1000) (hl : left ≤ 1000) : (rdK S Z b left f n h l a en x).2.2.1 ≤ 1000 := by
  unfold rdK rdZ
  split
  · split
    · split
      · exact Nat.zero_le _
      · exact he
    · split
      · exact Nat.zero_le _
      · split
        · exact Nat.zero_le _
        · exact Nat.le_trans (rdG_en _ _ _ _ _ _ _ _ _ _ _ (Nat.le_refl _)) hl
  · split
    · exact he
    · exact Nat.le_trans (rdA_en _ _ _ _ _ _ _ _ _ _ _ (Nat.le_refl _)) hl
end Go.Proofs.Ytlhappecjjbopaa
