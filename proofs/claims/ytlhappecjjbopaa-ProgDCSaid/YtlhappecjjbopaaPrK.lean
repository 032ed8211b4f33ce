/-
  Prog: what a band's bits come to, as functions of the bits. No program.
-/
import Derived.Test.YtlhappecjjbopaaScN
import Derived.Test.YtlhappecjjbopaaPrF
namespace Go.Proofs.Ytlhappecjjbopaa
open Go.RowKit
set_option linter.unusedVariables false

/-- what is read of ends: k bits of their number -/
def rdE (b : List Int) (left a k : Nat) (x : List Int) : List Int × Nat × Nat × Int :=
  if b.length < a + k then ([], 0, 0, 8)
  else if (left : Int) < 2 ^ k + hv ((b.drop a).take k) then ([], 0, 0, 2)
  else (x, a + k, (2 ^ k + hv ((b.drop a).take k)).toNat, 0)
/-- a block of a first band from the k-th place on: the block, the bits, the ends, an error -/
noncomputable def rdA (S Z b : List Int) (left f n : Nat) (l : Int) (k a : Nat) (x : List Int) : List Int × Nat × Nat × Int :=
  if k < n then
    if (rdF S Z (b.drop a)).2.2 ≠ 0 then ([], 0, 0, (rdF S Z (b.drop a)).2.2)
    else if (rdF S Z (b.drop a)).1.toNat % 16 = 0 ∧ (rdF S Z (b.drop a)).1.toNat ≠ 240 then rdE b left (a + (rdF S Z (b.drop a)).2.1) ((rdF S Z (b.drop a)).1.toNat / 16) x
    else if 10 < (rdF S Z (b.drop a)).1.toNat % 16 ∨ n ≤ k + (rdF S Z (b.drop a)).1.toNat / 16 ∨ ((rdF S Z (b.drop a)).1.toNat = 240 ∧ n ≤ k + 16) then ([], 0, 0, 2)
    else if b.length < a + (rdF S Z (b.drop a)).2.1 + (rdF S Z (b.drop a)).1.toNat % 16 then ([], 0, 0, 8)
    else if -1023 ≤ vaZ (hv ((b.drop (a + (rdF S Z (b.drop a)).2.1)).take ((rdF S Z (b.drop a)).1.toNat % 16))) (((rdF S Z (b.drop a)).1.toNat % 16 : Nat) : Int) * 2 ^ l.toNat ∧ vaZ (hv ((b.drop (a + (rdF S Z (b.drop a)).2.1)).take ((rdF S Z (b.drop a)).1.toNat % 16))) (((rdF S Z (b.drop a)).1.toNat % 16 : Nat) : Int) * 2 ^ l.toNat ≤ 1023 then
      rdA S Z b left f n l (k + (rdF S Z (b.drop a)).1.toNat / 16 + 1) (a + (rdF S Z (b.drop a)).2.1 + (rdF S Z (b.drop a)).1.toNat % 16)
        (x.set (zzN (f + (k + (rdF S Z (b.drop a)).1.toNat / 16))) (vaZ (hv ((b.drop (a + (rdF S Z (b.drop a)).2.1)).take ((rdF S Z (b.drop a)).1.toNat % 16))) (((rdF S Z (b.drop a)).1.toNat % 16 : Nat) : Int) * 2 ^ l.toNat))
    else ([], 0, 0, 2)
  else (x, a, 0, 0)
termination_by n - k
decreasing_by all_goals omega

section
variable {S Z b : List Int} {left f n k a s m : Nat} {l e : Int} {x : List Int}
theorem rdA_out (hk : ¬ k < n) : rdA S Z b left f n l k a x = (x, a, 0, 0) := by rw [rdA, if_neg hk]
theorem rdA_bad (hk : k < n) (hF : rdF S Z (b.drop a) = ((s : Int), m, e)) (he : e ≠ 0) : rdA S Z b left f n l k a x = ([], 0, 0, e) := by
  rw [rdA, if_pos hk, hF]; exact if_pos he
theorem rdA_end (hk : k < n) (hF : rdF S Z (b.drop a) = ((s : Int), m, 0)) (h : s % 16 = 0 ∧ s ≠ 240) : rdA S Z b left f n l k a x = rdE b left (a + m) (s / 16) x := by
  rw [rdA, if_pos hk, hF, if_neg (by simp), if_pos (by simpa using h)]; rfl
theorem rdA_mal (hk : k < n) (hF : rdF S Z (b.drop a) = ((s : Int), m, 0)) (h : ¬ (s % 16 = 0 ∧ s ≠ 240)) (h2 : 10 < s % 16 ∨ n ≤ k + s / 16 ∨ (s = 240 ∧ n ≤ k + 16)) : rdA S Z b left f n l k a x = ([], 0, 0, 2) := by
  rw [rdA, if_pos hk, hF, if_neg (by simp), if_neg (by simpa using h), if_pos (by simpa using h2)]
theorem rdA_few (hk : k < n) (hF : rdF S Z (b.drop a) = ((s : Int), m, 0)) (h : ¬ (s % 16 = 0 ∧ s ≠ 240)) (h2 : ¬ (10 < s % 16 ∨ n ≤ k + s / 16 ∨ (s = 240 ∧ n ≤ k + 16))) (hl : b.length < a + m + s % 16) : rdA S Z b left f n l k a x = ([], 0, 0, 8) := by
  rw [rdA, if_pos hk, hF, if_neg (by simp), if_neg (by simpa using h), if_neg (by simpa using h2), if_pos (by simpa using hl)]
theorem rdA_big (hk : k < n) (hF : rdF S Z (b.drop a) = ((s : Int), m, 0)) (h : ¬ (s % 16 = 0 ∧ s ≠ 240)) (h2 : ¬ (10 < s % 16 ∨ n ≤ k + s / 16 ∨ (s = 240 ∧ n ≤ k + 16))) (hl : ¬ b.length < a + m + s % 16) {v : Int} (hv : vaZ (hv ((b.drop (a + m)).take (s % 16))) ((s % 16 : Nat) : Int) * 2 ^ l.toNat = v) (hb : ¬ (-1023 ≤ v ∧ v ≤ 1023)) : rdA S Z b left f n l k a x = ([], 0, 0, 2) := by
  subst hv
  rw [rdA, if_pos hk, hF, if_neg (by simp), if_neg (by simpa using h), if_neg (by simpa using h2), if_neg (by simpa using hl)]; exact if_neg hb
theorem rdA_go (hk : k < n) (hF : rdF S Z (b.drop a) = ((s : Int), m, 0)) (h : ¬ (s % 16 = 0 ∧ s ≠ 240)) (h2 : ¬ (10 < s % 16 ∨ n ≤ k + s / 16 ∨ (s = 240 ∧ n ≤ k + 16))) (hl : ¬ b.length < a + m + s % 16) {v : Int} (hv : vaZ (hv ((b.drop (a + m)).take (s % 16))) ((s % 16 : Nat) : Int) * 2 ^ l.toNat = v) (hb : -1023 ≤ v ∧ v ≤ 1023) :
    rdA S Z b left f n l k a x = rdA S Z b left f n l (k + s / 16 + 1) (a + m + s % 16) (x.set (zzN (f + (k + s / 16))) v) := by
  subst hv
  rw [rdA, if_pos hk, hF, if_neg (by simp), if_neg (by simpa using h), if_neg (by simpa using h2), if_neg (by simpa using hl)]; exact if_pos hb
end

/-- a known number with its bit -/
def bet (v d l : Int) : Int := if v < 0 then v - d * 2 ^ l.toNat else v + d * 2 ^ l.toNat
/-- over known places and z noughts: the block, the place, the bits, an error -/
def rdP (b : List Int) (f n : Nat) (l : Int) (k a z : Nat) (x : List Int) : List Int × Nat × Nat × Int :=
  if k < n then
    if x.getD (zzN (f + k)) 0 ≠ 0 then
      if b.length ≤ a then (x, k, a, 8)
      else rdP b f n l (k + 1) (a + 1) z (x.set (zzN (f + k)) (bet (x.getD (zzN (f + k)) 0) (b.getD a 0) l))
    else if z = 0 then (x, k, a, 0)
    else rdP b f n l (k + 1) a (z - 1) x
  else (x, k, a, 0)
termination_by n - k
decreasing_by all_goals omega
section
variable {b : List Int} {f n k a z : Nat} {l : Int} {x : List Int}
theorem rdP_out (hk : ¬ k < n) : rdP b f n l k a z x = (x, k, a, 0) := by rw [rdP, if_neg hk]
theorem rdP_few (hk : k < n) (h : x.getD (zzN (f + k)) 0 ≠ 0) (hl : b.length ≤ a) : rdP b f n l k a z x = (x, k, a, 8) := by rw [rdP, if_pos hk, if_pos h, if_pos hl]
theorem rdP_on (hk : k < n) (h : x.getD (zzN (f + k)) 0 ≠ 0) (hl : ¬ b.length ≤ a) : rdP b f n l k a z x = rdP b f n l (k + 1) (a + 1) z (x.set (zzN (f + k)) (bet (x.getD (zzN (f + k)) 0) (b.getD a 0) l)) := by rw [rdP, if_pos hk, if_pos h, if_neg hl]
theorem rdP_stop (hk : k < n) (h : x.getD (zzN (f + k)) 0 = 0) (hz : z = 0) : rdP b f n l k a z x = (x, k, a, 0) := by rw [rdP, if_pos hk, if_neg (by simpa using h), if_pos hz]
theorem rdP_zero (hk : k < n) (h : x.getD (zzN (f + k)) 0 = 0) (hz : z ≠ 0) : rdP b f n l k a z x = rdP b f n l (k + 1) a (z - 1) x := by rw [rdP, if_pos hk, if_neg (by simpa using h), if_neg hz]
theorem rdP_bd (b : List Int) (f n : Nat) (l : Int) : ∀ (q k a z : Nat) (x : List Int), n - k ≤ q → k ≤ (rdP b f n l k a z x).2.1 ∧ (rdP b f n l k a z x).1.length = x.length ∧ ((rdP b f n l k a z x).2.2.2 = 0 ∨ (rdP b f n l k a z x).2.2.2 = 8)
  | 0, k, a, z, x, hq => by rw [rdP_out (by omega)]; exact ⟨Nat.le_refl _, rfl, .inl rfl⟩
  | q + 1, k, a, z, x, hq => by
    by_cases hk : k < n
    · by_cases h : x.getD (zzN (f + k)) 0 = 0
      · by_cases hz : z = 0
        · rw [rdP_stop hk h hz]; exact ⟨Nat.le_refl _, rfl, .inl rfl⟩
        · rw [rdP_zero hk h hz]
          have := rdP_bd b f n l q (k + 1) a (z - 1) x (by omega)
          exact ⟨by omega, this.2⟩
      · by_cases hl : b.length ≤ a
        · rw [rdP_few hk h hl]; exact ⟨Nat.le_refl _, rfl, .inr rfl⟩
        · rw [rdP_on hk h hl]
          have := rdP_bd b f n l q (k + 1) (a + 1) z (x.set (zzN (f + k)) (bet (x.getD (zzN (f + k)) 0) (b.getD a 0) l)) (by omega)
          rw [List.length_set] at this
          exact ⟨by omega, this.2⟩
    · rw [rdP_out hk]; exact ⟨Nat.le_refl _, rfl, .inl rfl⟩
theorem rdP_ge (b : List Int) (f n : Nat) (l : Int) (k a z : Nat) (x : List Int) : k ≤ (rdP b f n l k a z x).2.1 := (rdP_bd b f n l (n - k) k a z x (Nat.le_refl _)).1
end
/-- a block of a finer band from the k-th place on, up to an end: the block, the place, the bits, the ends, an error -/
noncomputable def rdG (S Z b : List Int) (left f n : Nat) (l : Int) (k a : Nat) (x : List Int) : List Int × Nat × Nat × Nat × Int :=
  if k < n then
    if (rdF S Z (b.drop a)).2.2 ≠ 0 then ([], 0, 0, 0, (rdF S Z (b.drop a)).2.2)
    else if (rdF S Z (b.drop a)).1.toNat % 16 = 0 ∧ (rdF S Z (b.drop a)).1.toNat ≠ 240 then ((rdE b left (a + (rdF S Z (b.drop a)).2.1) ((rdF S Z (b.drop a)).1.toNat / 16) x).1, k, (rdE b left (a + (rdF S Z (b.drop a)).2.1) ((rdF S Z (b.drop a)).1.toNat / 16) x).2)
    else if 1 < (rdF S Z (b.drop a)).1.toNat % 16 then ([], 0, 0, 0, 2)
    else if b.length < a + (rdF S Z (b.drop a)).2.1 + (rdF S Z (b.drop a)).1.toNat % 16 then ([], 0, 0, 0, 8)
    else if (rdP b f n l k (a + (rdF S Z (b.drop a)).2.1 + (rdF S Z (b.drop a)).1.toNat % 16) ((rdF S Z (b.drop a)).1.toNat / 16) x).2.2.2 ≠ 0 then ([], 0, 0, 0, 8)
    else if n ≤ (rdP b f n l k (a + (rdF S Z (b.drop a)).2.1 + (rdF S Z (b.drop a)).1.toNat % 16) ((rdF S Z (b.drop a)).1.toNat / 16) x).2.1 ∨ ((rdF S Z (b.drop a)).1.toNat = 240 ∧ n ≤ (rdP b f n l k (a + (rdF S Z (b.drop a)).2.1 + (rdF S Z (b.drop a)).1.toNat % 16) ((rdF S Z (b.drop a)).1.toNat / 16) x).2.1 + 1) then ([], 0, 0, 0, 2)
    else rdG S Z b left f n l ((rdP b f n l k (a + (rdF S Z (b.drop a)).2.1 + (rdF S Z (b.drop a)).1.toNat % 16) ((rdF S Z (b.drop a)).1.toNat / 16) x).2.1 + 1) (rdP b f n l k (a + (rdF S Z (b.drop a)).2.1 + (rdF S Z (b.drop a)).1.toNat % 16) ((rdF S Z (b.drop a)).1.toNat / 16) x).2.2.1
      ((rdP b f n l k (a + (rdF S Z (b.drop a)).2.1 + (rdF S Z (b.drop a)).1.toNat % 16) ((rdF S Z (b.drop a)).1.toNat / 16) x).1.set (zzN (f + (rdP b f n l k (a + (rdF S Z (b.drop a)).2.1 + (rdF S Z (b.drop a)).1.toNat % 16) ((rdF S Z (b.drop a)).1.toNat / 16) x).2.1)) (if (rdF S Z (b.drop a)).1.toNat % 16 = 1 then (2 * b.getD (a + (rdF S Z (b.drop a)).2.1) 0 - 1) * 2 ^ l.toNat else 0))
  else (x, k, a, 0, 0)
termination_by n - k
decreasing_by
  have := rdP_ge b f n l k (a + (rdF S Z (b.drop a)).2.1 + (rdF S Z (b.drop a)).1.toNat % 16) ((rdF S Z (b.drop a)).1.toNat / 16) x
  omega
section
variable {S Z b : List Int} {left f n k a s m k1 a1 : Nat} {l e e1 : Int} {x x1 : List Int}
theorem rdG_out (hk : ¬ k < n) : rdG S Z b left f n l k a x = (x, k, a, 0, 0) := by rw [rdG, if_neg hk]
theorem rdG_bad (hk : k < n) (hF : rdF S Z (b.drop a) = ((s : Int), m, e)) (he : e ≠ 0) : rdG S Z b left f n l k a x = ([], 0, 0, 0, e) := by
  rw [rdG, if_pos hk, hF]; exact if_pos he
theorem rdG_end (hk : k < n) (hF : rdF S Z (b.drop a) = ((s : Int), m, 0)) (h : s % 16 = 0 ∧ s ≠ 240) : rdG S Z b left f n l k a x = ((rdE b left (a + m) (s / 16) x).1, k, (rdE b left (a + m) (s / 16) x).2) := by
  rw [rdG, if_pos hk, hF, if_neg (by simp), if_pos (by simpa using h)]; rfl
theorem rdG_mal (hk : k < n) (hF : rdF S Z (b.drop a) = ((s : Int), m, 0)) (h : ¬ (s % 16 = 0 ∧ s ≠ 240)) (h2 : 1 < s % 16) : rdG S Z b left f n l k a x = ([], 0, 0, 0, 2) := by
  rw [rdG, if_pos hk, hF, if_neg (by simp), if_neg (by simpa using h), if_pos (by simpa using h2)]
theorem rdG_few (hk : k < n) (hF : rdF S Z (b.drop a) = ((s : Int), m, 0)) (h : ¬ (s % 16 = 0 ∧ s ≠ 240)) (h2 : ¬ 1 < s % 16) (hl : b.length < a + m + s % 16) : rdG S Z b left f n l k a x = ([], 0, 0, 0, 8) := by
  rw [rdG, if_pos hk, hF, if_neg (by simp), if_neg (by simpa using h), if_neg (by simpa using h2), if_pos (by simpa using hl)]
theorem rdG_few2 (hk : k < n) (hF : rdF S Z (b.drop a) = ((s : Int), m, 0)) (h : ¬ (s % 16 = 0 ∧ s ≠ 240)) (h2 : ¬ 1 < s % 16) (hl : ¬ b.length < a + m + s % 16) (hP : rdP b f n l k (a + m + s % 16) (s / 16) x = (x1, k1, a1, e1)) (he : e1 ≠ 0) : rdG S Z b left f n l k a x = ([], 0, 0, 0, 8) := by
  rw [rdG, if_pos hk, hF]
  simp only [Int.toNat_natCast]
  rw [if_neg (by simp), if_neg h, if_neg h2, if_neg hl, hP, if_pos he]
theorem rdG_mal2 (hk : k < n) (hF : rdF S Z (b.drop a) = ((s : Int), m, 0)) (h : ¬ (s % 16 = 0 ∧ s ≠ 240)) (h2 : ¬ 1 < s % 16) (hl : ¬ b.length < a + m + s % 16) (hP : rdP b f n l k (a + m + s % 16) (s / 16) x = (x1, k1, a1, 0)) (h3 : n ≤ k1 ∨ (s = 240 ∧ n ≤ k1 + 1)) : rdG S Z b left f n l k a x = ([], 0, 0, 0, 2) := by
  rw [rdG, if_pos hk, hF]
  simp only [Int.toNat_natCast]
  rw [if_neg (by simp), if_neg h, if_neg h2, if_neg hl, hP, if_neg (by simp), if_pos h3]
theorem rdG_go (hk : k < n) (hF : rdF S Z (b.drop a) = ((s : Int), m, 0)) (h : ¬ (s % 16 = 0 ∧ s ≠ 240)) (h2 : ¬ 1 < s % 16) (hl : ¬ b.length < a + m + s % 16) (hP : rdP b f n l k (a + m + s % 16) (s / 16) x = (x1, k1, a1, 0)) (h3 : ¬ (n ≤ k1 ∨ (s = 240 ∧ n ≤ k1 + 1))) :
    rdG S Z b left f n l k a x = rdG S Z b left f n l (k1 + 1) a1 (x1.set (zzN (f + k1)) (if s % 16 = 1 then (2 * b.getD (a + m) 0 - 1) * 2 ^ l.toNat else 0)) := by
  rw [rdG, if_pos hk, hF]
  simp only [Int.toNat_natCast]
  rw [if_neg (by simp), if_neg h, if_neg h2, if_neg hl, hP, if_neg (by simp), if_neg h3]
end
/-- the band's numbers are noughts -/
def zrN (x : List Int) (f : Nat) : Nat → List Int
  | 0 => x
  | i + 1 => (zrN x f i).set (zzN (f + i)) 0
/-- what is left behind an end -/
def rdZ (b : List Int) (f n : Nat) (l : Int) (k a en : Nat) (x : List Int) : List Int × Nat × Nat × Int :=
  if (rdP b f n l k a n x).2.2.2 ≠ 0 then ([], 0, 0, (rdP b f n l k a n x).2.2.2) else ((rdP b f n l k a n x).1, (rdP b f n l k a n x).2.2.1, en, 0)
/-- a block of a band, ends that are left ahead of it -/
noncomputable def rdK (S Z b : List Int) (left f n : Nat) (h l : Int) (a en : Nat) (x : List Int) : List Int × Nat × Nat × Int :=
  if 0 < h then
    if 0 < en then rdZ b f n l 0 a en x
    else if (rdG S Z b left f n l 0 a x).2.2.2.2 ≠ 0 then ([], 0, 0, (rdG S Z b left f n l 0 a x).2.2.2.2)
    else rdZ b f n l (rdG S Z b left f n l 0 a x).2.1 (rdG S Z b left f n l 0 a x).2.2.1 (rdG S Z b left f n l 0 a x).2.2.2.1 (rdG S Z b left f n l 0 a x).1
  else if 0 < en then (zrN x f n, a, en, 0) else rdA S Z b left f n l 0 a (zrN x f n)
/-- blocks of a band -/
noncomputable def rdAll (S Z b : List Int) (f n : Nat) (h l : Int) : List (List Int) → Nat → Nat → List (List Int) × Nat × Int
  | [], a, _ => ([], a, 0)
  | x :: G, a, en => if (rdK S Z b (G.length + 1) f n h l a en x).2.2.2 ≠ 0 then ([], 0, (rdK S Z b (G.length + 1) f n h l a en x).2.2.2)
    else if (rdAll S Z b f n h l G (rdK S Z b (G.length + 1) f n h l a en x).2.1 ((rdK S Z b (G.length + 1) f n h l a en x).2.2.1 - 1)).2.2 ≠ 0 then ([], 0, (rdAll S Z b f n h l G (rdK S Z b (G.length + 1) f n h l a en x).2.1 ((rdK S Z b (G.length + 1) f n h l a en x).2.2.1 - 1)).2.2)
    else ((rdK S Z b (G.length + 1) f n h l a en x).1 :: (rdAll S Z b f n h l G (rdK S Z b (G.length + 1) f n h l a en x).2.1 ((rdK S Z b (G.length + 1) f n h l a en x).2.2.1 - 1)).1, (rdAll S Z b f n h l G (rdK S Z b (G.length + 1) f n h l a en x).2.1 ((rdK S Z b (G.length + 1) f n h l a en x).2.2.1 - 1)).2.1, 0)
theorem rdAll_bad {S Z b : List Int} {f n a en a1 en1 : Nat} {h l e : Int} {x x1 : List Int} {G : List (List Int)} (hK : rdK S Z b (G.length + 1) f n h l a en x = (x1, a1, en1, e)) (he : e ≠ 0) : rdAll S Z b f n h l (x :: G) a en = ([], 0, e) := by
  rw [rdAll, hK]; exact if_pos he
theorem rdAll_go {S Z b : List Int} {f n a en a1 en1 : Nat} {h l : Int} {x x1 : List Int} {G : List (List Int)} (hK : rdK S Z b (G.length + 1) f n h l a en x = (x1, a1, en1, 0)) :
    rdAll S Z b f n h l (x :: G) a en = if (rdAll S Z b f n h l G a1 (en1 - 1)).2.2 ≠ 0 then ([], 0, (rdAll S Z b f n h l G a1 (en1 - 1)).2.2) else (x1 :: (rdAll S Z b f n h l G a1 (en1 - 1)).1, (rdAll S Z b f n h l G a1 (en1 - 1)).2.1, 0) := by
  rw [rdAll, hK]; exact if_neg (by simp)
end Go.Proofs.Ytlhappecjjbopaa
