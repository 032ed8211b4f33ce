/-
  Prog: what a band's bits come to, as functions of the bits. No program.
  Prog, the plain law: what a band of blocks is written to is read as what is known behind it. No program.
  Prog, the plain law: a block of a first band and of a finer one is read as it was put. No program.
  Prog, the plain law: a band of blocks is read as it was put; what is known behind it; its pieces are in form. No program.
-/
import Derived.Test.YtlhappecjjbopaaScN
import Derived.Test.YtlhappecjjbopaaPrE
import Derived.Test.YtlhappecjjbopaaScU
import Derived.Test.YtlhappecjjbopaaPrJ
namespace Go.Proofs.Ytlhappecjjbopaa
section
open Go.RowKit
set_option linter.unusedVariables false

/-- what is read of ends: k bits of their number -/
def rdE (b : List Int) (left a k : Nat) (x : List Int) : List Int × Nat × Nat × Int :=
  if b.length < a + k then ([], 0, 0, 8)
  else if (left : Int) < 2 ^ k + hv ((b.drop a).take k) then ([], 0, 0, 2)
  else (x, a + k, (2 ^ k + hv ((b.drop a).take k)).toNat, 0)
/-- a block of a first band from the k-th place on: the block, the bits, the ends, an error -/
noncomputable def rdA (S Z b : List Int) (left f n : Nat) (l : Int) (k a : Nat) (x : List Int) : List Int × Nat × Nat × Int :=
  if k < n then
    if (rdF S Z (b.drop a)).2.2 ≠ 0 then ([], 0, 0, (rdF S Z (b.drop a)).2.2)
    else if (rdF S Z (b.drop a)).1.toNat % 16 = 0 ∧ (rdF S Z (b.drop a)).1.toNat ≠ 240 then rdE b left (a + (rdF S Z (b.drop a)).2.1) ((rdF S Z (b.drop a)).1.toNat / 16) x
    else if 10 < (rdF S Z (b.drop a)).1.toNat % 16 ∨ n ≤ k + (rdF S Z (b.drop a)).1.toNat / 16 ∨ ((rdF S Z (b.drop a)).1.toNat = 240 ∧ n ≤ k + 16) then ([], 0, 0, 2)
    else if b.length < a + (rdF S Z (b.drop a)).2.1 + (rdF S Z (b.drop a)).1.toNat % 16 then ([], 0, 0, 8)
    else if -1023 ≤ vaZ (hv ((b.drop (a + (rdF S Z (b.drop a)).2.1)).take ((rdF S Z (b.drop a)).1.toNat % 16))) (((rdF S Z (b.drop a)).1.toNat % 16 : Nat) : Int) * 2 ^ l.toNat ∧ vaZ (hv ((b.drop (a + (rdF S Z (b.drop a)).2.1)).take ((rdF S Z (b.drop a)).1.toNat % 16))) (((rdF S Z (b.drop a)).1.toNat % 16 : Nat) : Int) * 2 ^ l.toNat ≤ 1023 then
      rdA S Z b left f n l (k + (rdF S Z (b.drop a)).1.toNat / 16 + 1) (a + (rdF S Z (b.drop a)).2.1 + (rdF S Z (b.drop a)).1.toNat % 16)
        (x.set (zzN (f + (k + (rdF S Z (b.drop a)).1.toNat / 16))) (vaZ (hv ((b.drop (a + (rdF S Z (b.drop a)).2.1)).take ((rdF S Z (b.drop a)).1.toNat % 16))) (((rdF S Z (b.drop a)).1.toNat % 16 : Nat) : Int) * 2 ^ l.toNat))
    else ([], 0, 0, 2)
  else (x, a, 0, 0)
termination_by n - k
decreasing_by all_goals omega

section
variable {S Z b : List Int} {left f n k a s m : Nat} {l e : Int} {x : List Int}
theorem rdA_out (hk : ¬ k < n) : rdA S Z b left f n l k a x = (x, a, 0, 0) := by rw [rdA, if_neg hk]
theorem rdA_bad (hk : k < n) (hF : rdF S Z (b.drop a) = ((s : Int), m, e)) (he : e ≠ 0) : rdA S Z b left f n l k a x = ([], 0, 0, e) := by
  rw [rdA, if_pos hk, hF]; exact if_pos he
theorem rdA_end (hk : k < n) (hF : rdF S Z (b.drop a) = ((s : Int), m, 0)) (h : s % 16 = 0 ∧ s ≠ 240) : rdA S Z b left f n l k a x = rdE b left (a + m) (s / 16) x := by
  rw [rdA, if_pos hk, hF, if_neg (by simp), if_pos (by simpa using h)]; rfl
theorem rdA_mal (hk : k < n) (hF : rdF S Z (b.drop a) = ((s : Int), m, 0)) (h : ¬ (s % 16 = 0 ∧ s ≠ 240)) (h2 : 10 < s % 16 ∨ n ≤ k + s / 16 ∨ (s = 240 ∧ n ≤ k + 16)) : rdA S Z b left f n l k a x = ([], 0, 0, 2) := by
  rw [rdA, if_pos hk, hF, if_neg (by simp), if_neg (by simpa using h), if_pos (by simpa using h2)]
theorem rdA_few (hk : k < n) (hF : rdF S Z (b.drop a) = ((s : Int), m, 0)) (h : ¬ (s % 16 = 0 ∧ s ≠ 240)) (h2 : ¬ (10 < s % 16 ∨ n ≤ k + s / 16 ∨ (s = 240 ∧ n ≤ k + 16))) (hl : b.length < a + m + s % 16) : rdA S Z b left f n l k a x = ([], 0, 0, 8) := by
  rw [rdA, if_pos hk, hF, if_neg (by simp), if_neg (by simpa using h), if_neg (by simpa using h2), if_pos (by simpa using hl)]
theorem rdA_big (hk : k < n) (hF : rdF S Z (b.drop a) = ((s : Int), m, 0)) (h : ¬ (s % 16 = 0 ∧ s ≠ 240)) (h2 : ¬ (10 < s % 16 ∨ n ≤ k + s / 16 ∨ (s = 240 ∧ n ≤ k + 16))) (hl : ¬ b.length < a + m + s % 16) {v : Int} (hv : vaZ (hv ((b.drop (a + m)).take (s % 16))) ((s % 16 : Nat) : Int) * 2 ^ l.toNat = v) (hb : ¬ (-1023 ≤ v ∧ v ≤ 1023)) : rdA S Z b left f n l k a x = ([], 0, 0, 2) := by
  subst hv
  rw [rdA, if_pos hk, hF, if_neg (by simp), if_neg (by simpa using h), if_neg (by simpa using h2), if_neg (by simpa using hl)]; exact if_neg hb
theorem rdA_go (hk : k < n) (hF : rdF S Z (b.drop a) = ((s : Int), m, 0)) (h : ¬ (s % 16 = 0 ∧ s ≠ 240)) (h2 : ¬ (10 < s % 16 ∨ n ≤ k + s / 16 ∨ (s = 240 ∧ n ≤ k + 16))) (hl : ¬ b.length < a + m + s % 16) {v : Int} (hv : vaZ (hv ((b.drop (a + m)).take (s % 16))) ((s % 16 : Nat) : Int) * 2 ^ l.toNat = v) (hb : -1023 ≤ v ∧ v ≤ 1023) :
    rdA S Z b left f n l k a x = rdA S Z b left f n l (k + s / 16 + 1) (a + m + s % 16) (x.set (zzN (f + (k + s / 16))) v) := by
  subst hv
  rw [rdA, if_pos hk, hF, if_neg (by simp), if_neg (by simpa using h), if_neg (by simpa using h2), if_neg (by simpa using hl)]; exact if_pos hb
end

/-- a known number with its bit -/
def bet (v d l : Int) : Int := if v < 0 then v - d * 2 ^ l.toNat else v + d * 2 ^ l.toNat
/-- over known places and z noughts: the block, the place, the bits, an error -/
def rdP (b : List Int) (f n : Nat) (l : Int) (k a z : Nat) (x : List Int) : List Int × Nat × Nat × Int :=
  if k < n then
    if x.getD (zzN (f + k)) 0 ≠ 0 then
      if b.length ≤ a then (x, k, a, 8)
      else rdP b f n l (k + 1) (a + 1) z (x.set (zzN (f + k)) (bet (x.getD (zzN (f + k)) 0) (b.getD a 0) l))
    else if z = 0 then (x, k, a, 0)
    else rdP b f n l (k + 1) a (z - 1) x
  else (x, k, a, 0)
termination_by n - k
decreasing_by all_goals omega
section
variable {b : List Int} {f n k a z : Nat} {l : Int} {x : List Int}
theorem rdP_out (hk : ¬ k < n) : rdP b f n l k a z x = (x, k, a, 0) := by rw [rdP, if_neg hk]
theorem rdP_few (hk : k < n) (h : x.getD (zzN (f + k)) 0 ≠ 0) (hl : b.length ≤ a) : rdP b f n l k a z x = (x, k, a, 8) := by rw [rdP, if_pos hk, if_pos h, if_pos hl]
theorem rdP_on (hk : k < n) (h : x.getD (zzN (f + k)) 0 ≠ 0) (hl : ¬ b.length ≤ a) : rdP b f n l k a z x = rdP b f n l (k + 1) (a + 1) z (x.set (zzN (f + k)) (bet (x.getD (zzN (f + k)) 0) (b.getD a 0) l)) := by rw [rdP, if_pos hk, if_pos h, if_neg hl]
theorem rdP_stop (hk : k < n) (h : x.getD (zzN (f + k)) 0 = 0) (hz : z = 0) : rdP b f n l k a z x = (x, k, a, 0) := by rw [rdP, if_pos hk, if_neg (by simpa using h), if_pos hz]
theorem rdP_zero (hk : k < n) (h : x.getD (zzN (f + k)) 0 = 0) (hz : z ≠ 0) : rdP b f n l k a z x = rdP b f n l (k + 1) a (z - 1) x := by rw [rdP, if_pos hk, if_neg (by simpa using h), if_neg hz]
theorem rdP_bd (b : List Int) (f n : Nat) (l : Int) : ∀ (q k a z : Nat) (x : List Int), n - k ≤ q → k ≤ (rdP b f n l k a z x).2.1 ∧ (rdP b f n l k a z x).1.length = x.length ∧ ((rdP b f n l k a z x).2.2.2 = 0 ∨ (rdP b f n l k a z x).2.2.2 = 8)
  | 0, k, a, z, x, hq => by rw [rdP_out (by omega)]; exact ⟨Nat.le_refl _, rfl, .inl rfl⟩
  | q + 1, k, a, z, x, hq => by
    by_cases hk : k < n
    · by_cases h : x.getD (zzN (f + k)) 0 = 0
      · by_cases hz : z = 0
        · rw [rdP_stop hk h hz]; exact ⟨Nat.le_refl _, rfl, .inl rfl⟩
        · rw [rdP_zero hk h hz]
          have := rdP_bd b f n l q (k + 1) a (z - 1) x (by omega)
          exact ⟨by omega, this.2⟩
      · by_cases hl : b.length ≤ a
        · rw [rdP_few hk h hl]; exact ⟨Nat.le_refl _, rfl, .inr rfl⟩
        · rw [rdP_on hk h hl]
          have := rdP_bd b f n l q (k + 1) (a + 1) z (x.set (zzN (f + k)) (bet (x.getD (zzN (f + k)) 0) (b.getD a 0) l)) (by omega)
          rw [List.length_set] at this
          exact ⟨by omega, this.2⟩
    · rw [rdP_out hk]; exact ⟨Nat.le_refl _, rfl, .inl rfl⟩
theorem rdP_ge (b : List Int) (f n : Nat) (l : Int) (k a z : Nat) (x : List Int) : k ≤ (rdP b f n l k a z x).2.1 := (rdP_bd b f n l (n - k) k a z x (Nat.le_refl _)).1
end
/-- a block of a finer band from the k-th place on, up to an end: the block, the place, the bits, the ends, an error -/
noncomputable def rdG (S Z b : List Int) (left f n : Nat) (l : Int) (k a : Nat) (x : List Int) : List Int × Nat × Nat × Nat × Int :=
  if k < n then
    if (rdF S Z (b.drop a)).2.2 ≠ 0 then ([], 0, 0, 0, (rdF S Z (b.drop a)).2.2)
    else if (rdF S Z (b.drop a)).1.toNat % 16 = 0 ∧ (rdF S Z (b.drop a)).1.toNat ≠ 240 then ((rdE b left (a + (rdF S Z (b.drop a)).2.1) ((rdF S Z (b.drop a)).1.toNat / 16) x).1, k, (rdE b left (a + (rdF S Z (b.drop a)).2.1) ((rdF S Z (b.drop a)).1.toNat / 16) x).2)
    else if 1 < (rdF S Z (b.drop a)).1.toNat % 16 then ([], 0, 0, 0, 2)
    else if b.length < a + (rdF S Z (b.drop a)).2.1 + (rdF S Z (b.drop a)).1.toNat % 16 then ([], 0, 0, 0, 8)
    else if (rdP b f n l k (a + (rdF S Z (b.drop a)).2.1 + (rdF S Z (b.drop a)).1.toNat % 16) ((rdF S Z (b.drop a)).1.toNat / 16) x).2.2.2 ≠ 0 then ([], 0, 0, 0, 8)
    else if n ≤ (rdP b f n l k (a + (rdF S Z (b.drop a)).2.1 + (rdF S Z (b.drop a)).1.toNat % 16) ((rdF S Z (b.drop a)).1.toNat / 16) x).2.1 ∨ ((rdF S Z (b.drop a)).1.toNat = 240 ∧ n ≤ (rdP b f n l k (a + (rdF S Z (b.drop a)).2.1 + (rdF S Z (b.drop a)).1.toNat % 16) ((rdF S Z (b.drop a)).1.toNat / 16) x).2.1 + 1) then ([], 0, 0, 0, 2)
    else rdG S Z b left f n l ((rdP b f n l k (a + (rdF S Z (b.drop a)).2.1 + (rdF S Z (b.drop a)).1.toNat % 16) ((rdF S Z (b.drop a)).1.toNat / 16) x).2.1 + 1) (rdP b f n l k (a + (rdF S Z (b.drop a)).2.1 + (rdF S Z (b.drop a)).1.toNat % 16) ((rdF S Z (b.drop a)).1.toNat / 16) x).2.2.1
      ((rdP b f n l k (a + (rdF S Z (b.drop a)).2.1 + (rdF S Z (b.drop a)).1.toNat % 16) ((rdF S Z (b.drop a)).1.toNat / 16) x).1.set (zzN (f + (rdP b f n l k (a + (rdF S Z (b.drop a)).2.1 + (rdF S Z (b.drop a)).1.toNat % 16) ((rdF S Z (b.drop a)).1.toNat / 16) x).2.1)) (if (rdF S Z (b.drop a)).1.toNat % 16 = 1 then (2 * b.getD (a + (rdF S Z (b.drop a)).2.1) 0 - 1) * 2 ^ l.toNat else 0))
  else (x, k, a, 0, 0)
termination_by n - k
decreasing_by
  have := rdP_ge b f n l k (a + (rdF S Z (b.drop a)).2.1 + (rdF S Z (b.drop a)).1.toNat % 16) ((rdF S Z (b.drop a)).1.toNat / 16) x
  omega
section
variable {S Z b : List Int} {left f n k a s m k1 a1 : Nat} {l e e1 : Int} {x x1 : List Int}
theorem rdG_out (hk : ¬ k < n) : rdG S Z b left f n l k a x = (x, k, a, 0, 0) := by rw [rdG, if_neg hk]
theorem rdG_bad (hk : k < n) (hF : rdF S Z (b.drop a) = ((s : Int), m, e)) (he : e ≠ 0) : rdG S Z b left f n l k a x = ([], 0, 0, 0, e) := by
  rw [rdG, if_pos hk, hF]; exact if_pos he
theorem rdG_end (hk : k < n) (hF : rdF S Z (b.drop a) = ((s : Int), m, 0)) (h : s % 16 = 0 ∧ s ≠ 240) : rdG S Z b left f n l k a x = ((rdE b left (a + m) (s / 16) x).1, k, (rdE b left (a + m) (s / 16) x).2) := by
  rw [rdG, if_pos hk, hF, if_neg (by simp), if_pos (by simpa using h)]; rfl
theorem rdG_mal (hk : k < n) (hF : rdF S Z (b.drop a) = ((s : Int), m, 0)) (h : ¬ (s % 16 = 0 ∧ s ≠ 240)) (h2 : 1 < s % 16) : rdG S Z b left f n l k a x = ([], 0, 0, 0, 2) := by
  rw [rdG, if_pos hk, hF, if_neg (by simp), if_neg (by simpa using h), if_pos (by simpa using h2)]
theorem rdG_few (hk : k < n) (hF : rdF S Z (b.drop a) = ((s : Int), m, 0)) (h : ¬ (s % 16 = 0 ∧ s ≠ 240)) (h2 : ¬ 1 < s % 16) (hl : b.length < a + m + s % 16) : rdG S Z b left f n l k a x = ([], 0, 0, 0, 8) := by
  rw [rdG, if_pos hk, hF, if_neg (by simp), if_neg (by simpa using h), if_neg (by simpa using h2), if_pos (by simpa using hl)]
theorem rdG_few2 (hk : k < n) (hF : rdF S Z (b.drop a) = ((s : Int), m, 0)) (h : ¬ (s % 16 = 0 ∧ s ≠ 240)) (h2 : ¬ 1 < s % 16) (hl : ¬ b.length < a + m + s % 16) (hP : rdP b f n l k (a + m + s % 16) (s / 16) x = (x1, k1, a1, e1)) (he : e1 ≠ 0) : rdG S Z b left f n l k a x = ([], 0, 0, 0, 8) := by
  rw [rdG, if_pos hk, hF]
  simp only [Int.toNat_natCast]
  rw [if_neg (by simp), if_neg h, if_neg h2, if_neg hl, hP, if_pos he]
theorem rdG_mal2 (hk : k < n) (hF : rdF S Z (b.drop a) = ((s : Int), m, 0)) (h : ¬ (s % 16 = 0 ∧ s ≠ 240)) (h2 : ¬ 1 < s % 16) (hl : ¬ b.length < a + m + s % 16) (hP : rdP b f n l k (a + m + s % 16) (s / 16) x = (x1, k1, a1, 0)) (h3 : n ≤ k1 ∨ (s = 240 ∧ n ≤ k1 + 1)) : rdG S Z b left f n l k a x = ([], 0, 0, 0, 2) := by
  rw [rdG, if_pos hk, hF]
  simp only [Int.toNat_natCast]
  rw [if_neg (by simp), if_neg h, if_neg h2, if_neg hl, hP, if_neg (by simp), if_pos h3]
theorem rdG_go (hk : k < n) (hF : rdF S Z (b.drop a) = ((s : Int), m, 0)) (h : ¬ (s % 16 = 0 ∧ s ≠ 240)) (h2 : ¬ 1 < s % 16) (hl : ¬ b.length < a + m + s % 16) (hP : rdP b f n l k (a + m + s % 16) (s / 16) x = (x1, k1, a1, 0)) (h3 : ¬ (n ≤ k1 ∨ (s = 240 ∧ n ≤ k1 + 1))) :
    rdG S Z b left f n l k a x = rdG S Z b left f n l (k1 + 1) a1 (x1.set (zzN (f + k1)) (if s % 16 = 1 then (2 * b.getD (a + m) 0 - 1) * 2 ^ l.toNat else 0)) := by
  rw [rdG, if_pos hk, hF]
  simp only [Int.toNat_natCast]
  rw [if_neg (by simp), if_neg h, if_neg h2, if_neg hl, hP, if_neg (by simp), if_neg h3]
end
/-- the band's numbers are noughts -/
def zrN (x : List Int) (f : Nat) : Nat → List Int
  | 0 => x
  | i + 1 => (zrN x f i).set (zzN (f + i)) 0
/-- what is left behind an end -/
def rdZ (b : List Int) (f n : Nat) (l : Int) (k a en : Nat) (x : List Int) : List Int × Nat × Nat × Int :=
  if (rdP b f n l k a n x).2.2.2 ≠ 0 then ([], 0, 0, (rdP b f n l k a n x).2.2.2) else ((rdP b f n l k a n x).1, (rdP b f n l k a n x).2.2.1, en, 0)
/-- a block of a band, ends that are left ahead of it -/
noncomputable def rdK (S Z b : List Int) (left f n : Nat) (h l : Int) (a en : Nat) (x : List Int) : List Int × Nat × Nat × Int :=
  if 0 < h then
    if 0 < en then rdZ b f n l 0 a en x
    else if (rdG S Z b left f n l 0 a x).2.2.2.2 ≠ 0 then ([], 0, 0, (rdG S Z b left f n l 0 a x).2.2.2.2)
    else rdZ b f n l (rdG S Z b left f n l 0 a x).2.1 (rdG S Z b left f n l 0 a x).2.2.1 (rdG S Z b left f n l 0 a x).2.2.2.1 (rdG S Z b left f n l 0 a x).1
  else if 0 < en then (zrN x f n, a, en, 0) else rdA S Z b left f n l 0 a (zrN x f n)
/-- blocks of a band -/
noncomputable def rdAll (S Z b : List Int) (f n : Nat) (h l : Int) : List (List Int) → Nat → Nat → List (List Int) × Nat × Int
  | [], a, _ => ([], a, 0)
  | x :: G, a, en => if (rdK S Z b (G.length + 1) f n h l a en x).2.2.2 ≠ 0 then ([], 0, (rdK S Z b (G.length + 1) f n h l a en x).2.2.2)
    else if (rdAll S Z b f n h l G (rdK S Z b (G.length + 1) f n h l a en x).2.1 ((rdK S Z b (G.length + 1) f n h l a en x).2.2.1 - 1)).2.2 ≠ 0 then ([], 0, (rdAll S Z b f n h l G (rdK S Z b (G.length + 1) f n h l a en x).2.1 ((rdK S Z b (G.length + 1) f n h l a en x).2.2.1 - 1)).2.2)
    else ((rdK S Z b (G.length + 1) f n h l a en x).1 :: (rdAll S Z b f n h l G (rdK S Z b (G.length + 1) f n h l a en x).2.1 ((rdK S Z b (G.length + 1) f n h l a en x).2.2.1 - 1)).1, (rdAll S Z b f n h l G (rdK S Z b (G.length + 1) f n h l a en x).2.1 ((rdK S Z b (G.length + 1) f n h l a en x).2.2.1 - 1)).2.1, 0)
theorem rdAll_bad {S Z b : List Int} {f n a en a1 en1 : Nat} {h l e : Int} {x x1 : List Int} {G : List (List Int)} (hK : rdK S Z b (G.length + 1) f n h l a en x = (x1, a1, en1, e)) (he : e ≠ 0) : rdAll S Z b f n h l (x :: G) a en = ([], 0, e) := by
  rw [rdAll, hK]; exact if_pos he
theorem rdAll_go {S Z b : List Int} {f n a en a1 en1 : Nat} {h l : Int} {x x1 : List Int} {G : List (List Int)} (hK : rdK S Z b (G.length + 1) f n h l a en x = (x1, a1, en1, 0)) :
    rdAll S Z b f n h l (x :: G) a en = if (rdAll S Z b f n h l G a1 (en1 - 1)).2.2 ≠ 0 then ([], 0, (rdAll S Z b f n h l G a1 (en1 - 1)).2.2) else (x1 :: (rdAll S Z b f n h l G a1 (en1 - 1)).1, (rdAll S Z b f n h l G a1 (en1 - 1)).2.1, 0) := by
  rw [rdAll, hK]; exact if_neg (by simp)
end
section
open Go.RowKit
set_option linter.unusedVariables false

/-- a block y with the band's numbers of x, rounded at bit l, up to the i-th place -/
def upB (y x : List Int) (f : Nat) (l : Int) : Nat → List Int
  | 0 => y
  | i + 1 => (upB y x f l i).set (zzN (f + i)) (tn x f l i * 2 ^ l.toNat)
theorem upB_len (y x : List Int) (f : Nat) (l : Int) : ∀ i, (upB y x f l i).length = y.length
  | 0 => rfl
  | i + 1 => by rw [upB, List.length_set, upB_len y x f l i]
theorem upB_off (y x : List Int) (f : Nat) (l : Int) {q : Nat} : ∀ i, (∀ j, j < i → zzN (f + j) ≠ q) → (upB y x f l i).getD q 0 = y.getD q 0
  | 0, _ => rfl
  | i + 1, h => by
    rw [upB, set_getD_ne' (h i (by omega))]
    exact upB_off y x f l i (fun j hj => h j (by omega))
theorem zz_ne {f j i : Nat} (hi : f + i < 64) (hj : f + j < 64) (h : j ≠ i) : zzN (f + j) ≠ zzN (f + i) := fun e => by
  have := zz_inj' _ hj _ hi e
  omega
theorem upB_after (y x : List Int) (f : Nat) (l : Int) {i j : Nat} (hj : f + j < 64) (hij : i ≤ j) : (upB y x f l i).getD (zzN (f + j)) 0 = y.getD (zzN (f + j)) 0 :=
  upB_off y x f l i (fun q hq => zz_ne (by omega) (by omega) (by omega))
theorem upB_before (y x : List Int) (f : Nat) (l : Int) (hy : y.length = 64) : ∀ i, f + i ≤ 64 → ∀ j, j < i → (upB y x f l i).getD (zzN (f + j)) 0 = tn x f l j * 2 ^ l.toNat
  | 0, _, j, hj => by omega
  | i + 1, hi, j, hj => by
    rw [upB]
    by_cases h : j = i
    · subst h
      exact set_getD_eq (by rw [upB_len, hy]; exact (zzN_bd (f + j) (by omega)).1)
    · rw [set_getD_ne' (zz_ne (by omega) (by omega) (fun e => h e.symm))]
      exact upB_before y x f l hy i (by omega) j (by omega)
theorem zrN_up (y : List Int) (x : List Int) (f : Nat) (l : Int) (hx : ∀ j, tn x f l j = 0) : ∀ i, zrN y f i = upB y x f l i
  | 0 => rfl
  | i + 1 => by rw [zrN, upB, zrN_up y x f l hx i, hx i, Int.zero_mul]
theorem zrN_len (y : List Int) (f : Nat) : ∀ i, (zrN y f i).length = y.length
  | 0 => rfl
  | i + 1 => by rw [zrN, List.length_set, zrN_len y f i]
theorem zrN_zero (y : List Int) (f : Nat) (hy : y.length = 64) : ∀ i, f + i ≤ 64 → ∀ j, j < i → (zrN y f i).getD (zzN (f + j)) 0 = 0
  | 0, _, j, hj => by omega
  | i + 1, hi, j, hj => by
    rw [zrN]
    by_cases h : j = i
    · subst h
      exact set_getD_eq (by rw [zrN_len, hy]; exact (zzN_bd (f + j) (by omega)).1)
    · rw [set_getD_ne' (zz_ne (by omega) (by omega) (fun e => h e.symm))]
      exact zrN_zero y f hy i (by omega) j (by omega)
/-- noughts on noughts -/
theorem upB_same {y x : List Int} {f : Nat} {l : Int} {k n : Nat} (hn : f + n ≤ 64) (hy : ∀ j, j < n → tn x f l j = 0 → y.getD (zzN (f + j)) 0 = 0) : ∀ i, k ≤ i → i ≤ n → (∀ j, k ≤ j → j < i → tn x f l j = 0) → upB y x f l i = upB y x f l k
  | 0, hk, _, _ => by rw [show k = 0 by omega]
  | i + 1, hk, hi, h => by
    by_cases he : k = i + 1
    · rw [he]
    · rw [upB, h i (by omega) (by omega), Int.zero_mul, set_self0 (by rw [upB_after y x f l (by omega) (Nat.le_refl _)]; exact hy i (by omega) (h i (by omega) (by omega)))]
      exact upB_same hn hy i (by omega) (by omega) (fun j h1 h2 => h j h1 (by omega))

section
variable {ls C : List Int} {O : List Nat} {b : List Int}
theorem drop_of {P T : List Int} (h : b = P ++ T) : b.drop P.length = T := by rw [h]; exact List.drop_left
/-- a symbol's code ahead of the bits -/
theorem sym_at (h : Has ls O C 256) (hb : B01 b) {s a : Nat} {r : List Int} (hs : s < 256) (hd : b.drop a = co ls C s ++ r) :
    rdF (sy O) (sz ls O) (b.drop a) = ((s : Int), (co ls C s).length, 0) ∧ b.drop (a + (co ls C s).length) = r := by
  have h3 : b.drop (a + (co ls C s).length) = r := by rw [← List.drop_drop, hd]; exact List.drop_left
  have hr := hb.drop (a + (co ls C s).length)
  rw [h3] at hr
  exact ⟨by rw [hd]; exact h.rd hs hr, h3⟩
/-- a number ahead of the bits -/
theorem num_at {a k : Nat} {e : Int} {r : List Int} (hd : b.drop a = digs true e k ++ r) : (b.drop a).take k = digs true e k ∧ b.drop (a + k) = r ∧ a + k ≤ b.length ∨ k = 0 := by
  rcases Nat.eq_zero_or_pos k with h | h
  · exact .inr h
  · refine .inl ⟨?_, ?_, ?_⟩
    · rw [hd]
      have := List.take_left (l₁ := digs true e k) (l₂ := r)
      rwa [digs_len] at this
    · rw [← List.drop_drop, hd]
      have := List.drop_left (l₁ := digs true e k) (l₂ := r)
      rwa [digs_len] at this
    · have := congrArg List.length hd
      rw [List.length_drop, List.length_append, digs_len] at this
      omega
theorem bitsQ_bit (u : Int) : bitsQ [] [] ls C (bitP u) = [((u.natAbs % 2 : Nat) : Int)] := by
  unfold bitP bitsQ bitsP
  simp only [if_true]
  rw [List.nil_append]
  exact digs_one true (by omega)
theorem bitsQ_on (u : Int) (z : Nat) : bitsQ [] [] ls C (onP u z) = co ls C (16 * z + 1) ++ [if u = 1 then 1 else 0] := by
  have h : onP u z = (true, ((16 * z + 1 : Nat) : Int), (if u = 1 then (1 : Int) else 0), ((1 : Nat) : Int)) := by unfold onP; rw [Int.natCast_add, Int.natCast_mul]; rfl
  rw [h, bitsQ_ac, digs_one true (by split <;> simp)]
theorem bitsQ_skip : bitsQ [] [] ls C skipP = co ls C 240 := by
  rw [show skipP = (true, ((240 : Nat) : Int), (0 : Int), ((0 : Nat) : Int)) from rfl, bitsQ_ac, show digs true 0 0 = [] from rfl, List.append_nil]
theorem bitsQ_eob (e : Nat) : bitsQ [] [] ls C (eobP e) = co ls C (16 * (bl e - 1)) ++ digs true ((e : Int) - 2 ^ (bl e - 1)) (bl e - 1) := by
  have h : eobP e = (true, ((16 * (bl e - 1) : Nat) : Int), (e : Int) - 2 ^ (bl e - 1), ((bl e - 1 : Nat) : Int)) := by unfold eobP; rw [Int.natCast_mul]; rfl
  rw [h, bitsQ_ac]
theorem getD_at {a : Nat} {x : Int} {r : List Int} (hd : b.drop a = x :: r) : b.getD a 0 = x ∧ b.drop (a + 1) = r ∧ ¬ b.length ≤ a := by
  refine ⟨?_, ?_, ?_⟩
  · have : (b.drop a)[0]? = some x := by rw [hd]; rfl
    rw [List.getElem?_drop, Nat.add_zero] at this
    rw [List.getD_eq_getElem?_getD, this]; rfl
  · rw [← List.drop_drop, hd]; rfl
  · intro h
    rw [List.drop_eq_nil_of_le h] at hd; cases hd
/-- an end's run -/
theorem rdE_eob (h : Has ls O C 256) (hb : B01 b) {a e left : Nat} {r x : List Int} (he : 1 ≤ e) (he2 : e ≤ left) (he3 : e ≤ 20000) (hd : b.drop a = bitsQ [] [] ls C (eobP e) ++ r) :
    ∃ (s m : Nat), s % 16 = 0 ∧ s ≠ 240 ∧ rdF (sy O) (sz ls O) (b.drop a) = ((s : Int), m, 0) ∧ rdE b left (a + m) (s / 16) x = (x, a + (bitsQ [] [] ls C (eobP e)).length, e, 0) := by
  have hk : bl e ≤ 15 := bl_bd (show e < 2 ^ 15 by omega)
  have hl := bl_le (x := e) (by omega)
  have hu := bl_lt e
  have h0 : 1 ≤ bl e := by
    rcases Nat.eq_zero_or_pos (bl e) with h | h
    · rw [h] at hu; omega
    · exact h
  obtain ⟨k, hkq⟩ : ∃ k, bl e = k + 1 := ⟨bl e - 1, by omega⟩
  rw [bitsQ_eob] at hd ⊢
  rw [hkq, Nat.add_sub_cancel] at hd hl ⊢
  rw [hkq] at hu hk
  rw [Nat.pow_succ] at hu
  have hlz : (2 : Int) ^ k ≤ (e : Int) := by rw [← two_cast]; exact Int.ofNat_le.2 hl
  have huz : (e : Int) < 2 ^ k * 2 := by rw [← two_cast]; omega
  have hds : 0 ≤ (e : Int) - 2 ^ k ∧ (e : Int) - 2 ^ k < 2 ^ k := by omega
  rw [List.append_assoc] at hd
  obtain ⟨h1, h2⟩ := sym_at h hb (by omega) hd
  refine ⟨16 * k, _, by omega, by omega, h1, ?_⟩
  rw [show 16 * k / 16 = k by omega]
  have h5 : (b.drop (a + (co ls C (16 * k)).length)).take k = digs true ((e : Int) - 2 ^ k) k ∧ a + (co ls C (16 * k)).length + k ≤ b.length := by
    rcases num_at h2 with h3 | h3
    · exact ⟨h3.1, h3.2.2⟩
    · subst h3
      refine ⟨rfl, ?_⟩
      have := congrArg List.length hd
      rw [List.length_drop, List.length_append] at this
      rcases Nat.eq_zero_or_pos (co ls C (16 * 0)).length with h6 | h6
      · exfalso
        have h7 := (h.pos 0 (by omega)).2
        rw [co_len] at h6
        simp only [Nat.mul_zero] at h6
        omega
      · omega
  unfold rdE
  rw [if_neg (by omega), h5.1, hv_digs _ _ hds, if_neg (by omega), show (2 : Int) ^ k + ((e : Int) - 2 ^ k) = (e : Int) by omega, Int.toNat_natCast, List.length_append, digs_len, Nat.add_assoc a]
end
/-- ends that are counted -/
def eobs (e : Nat) : List Pc := if 0 < e then [eobP e] else []
theorem eob_eobs (s : Pen) : s.eob = eobs s.ends := rfl
/-- a block's reading and what follows -/
noncomputable def rdThen (S Z b : List Int) (f n : Nat) (h l : Int) (G : List (List Int)) (r : List Int × Nat × Nat × Int) : List (List Int) × Nat × Int :=
  if r.2.2.2 ≠ 0 then ([], 0, r.2.2.2) else if (rdAll S Z b f n h l G r.2.1 (r.2.2.1 - 1)).2.2 ≠ 0 then ([], 0, (rdAll S Z b f n h l G r.2.1 (r.2.2.1 - 1)).2.2)
    else (r.1 :: (rdAll S Z b f n h l G r.2.1 (r.2.2.1 - 1)).1, (rdAll S Z b f n h l G r.2.1 (r.2.2.1 - 1)).2.1, 0)
theorem rdAll_then (S Z b : List Int) (f n : Nat) (h l : Int) (x : List Int) (G : List (List Int)) (a en : Nat) : rdAll S Z b f n h l (x :: G) a en = rdThen S Z b f n h l G (rdK S Z b (G.length + 1) f n h l a en x) := by
  rw [rdAll]; rfl
theorem rdThen_ok {S Z b : List Int} {f n a1 en1 a' : Nat} {h l : Int} {x1 : List Int} {G L : List (List Int)} (hR : rdAll S Z b f n h l G a1 (en1 - 1) = (L, a', 0)) : rdThen S Z b f n h l G (x1, a1, en1, 0) = (x1 :: L, a', 0) := by
  unfold rdThen
  rw [if_neg (by simp)]
  dsimp only
  rw [hR, if_neg (by simp)]
theorem rdThen_inv {S Z b : List Int} {f n a' : Nat} {h l : Int} {r : List Int × Nat × Nat × Int} {G L : List (List Int)} (hR : rdThen S Z b f n h l G r = (L, a', 0)) : True := trivial
/-- the rest of a block -/
noncomputable def rdH (S Z b : List Int) (left f n : Nat) (h l : Int) (k a : Nat) (x : List Int) : List Int × Nat × Nat × Int :=
  if 0 < h then (if (rdG S Z b left f n l k a x).2.2.2.2 ≠ 0 then ([], 0, 0, (rdG S Z b left f n l k a x).2.2.2.2)
    else rdZ b f n l (rdG S Z b left f n l k a x).2.1 (rdG S Z b left f n l k a x).2.2.1 (rdG S Z b left f n l k a x).2.2.2.1 (rdG S Z b left f n l k a x).1)
  else rdA S Z b left f n l k a x
theorem rdK_fine {S Z b : List Int} {left f n a : Nat} {h l : Int} {x : List Int} (hh : 0 < h) : rdK S Z b left f n h l a 0 x = rdH S Z b left f n h l 0 a x := by
  unfold rdK rdH; rw [if_pos hh, if_pos hh, if_neg (by omega)]
theorem rdK_first {S Z b : List Int} {left f n a : Nat} {h l : Int} {x : List Int} (hh : ¬ 0 < h) : rdK S Z b left f n h l a 0 x = rdH S Z b left f n h l 0 a (zrN x f n) := by
  unfold rdK rdH; rw [if_neg hh, if_neg hh, if_neg (by omega)]
theorem rdH_fine {S Z b : List Int} {left f n k a k' a' : Nat} {h l : Int} {x x' : List Int} (hh : 0 < h) (he : rdG S Z b left f n l k a x = rdG S Z b left f n l k' a' x') : rdH S Z b left f n h l k a x = rdH S Z b left f n h l k' a' x' := by
  unfold rdH; rw [if_pos hh, if_pos hh, he]
theorem rdH_first {S Z b : List Int} {left f n k a : Nat} {h l : Int} {x : List Int} (hh : ¬ 0 < h) : rdH S Z b left f n h l k a x = rdA S Z b left f n l k a x := by
  unfold rdH; rw [if_neg hh]

section
variable (ls C : List Int) (O : List Nat) (f n : Nat) (h l : Int)
/-- what a pen has put is read as the blocks D; K0: all blocks, G: those that are left -/
def InvP (s : Pen) (K0 D G : List (List Int)) : Prop :=
  (s.ends = 0 → s.held = []) ∧ ∀ (b T : List Int) (m : Nat) (L : List (List Int)) (a' : Nat), B01 b → b = flatQ [] [] ls C (s.out ++ eobs (s.ends + m) ++ s.held) ++ T → (s.ends = 0 → m = 0) → m ≤ G.length →
    rdAll (sy O) (sz ls O) b f n h l G (flatQ [] [] ls C (s.out ++ eobs (s.ends + m) ++ s.held)).length m = (L, a', 0) → rdAll (sy O) (sz ls O) b f n h l K0 0 0 = (D ++ L, a', 0)
/-- the same within a block, up to the k-th place -/
def InB (s : Pen) (K0 D G : List (List Int)) (k : Nat) (x : List Int) : Prop :=
  ∀ (b T : List Int) (L : List (List Int)) (a' : Nat), B01 b → b = flatQ [] [] ls C s.fl.out ++ T →
    rdThen (sy O) (sz ls O) b f n h l G (rdH (sy O) (sz ls O) b (G.length + 1) f n h l k (flatQ [] [] ls C s.fl.out).length x) = (L, a', 0) → rdAll (sy O) (sz ls O) b f n h l K0 0 0 = (D ++ L, a', 0)
end
section
variable {ls C : List Int} {O : List Nat} {f n : Nat} {h l : Int} {s s' : Pen} {K0 D G : List (List Int)} {k k' : Nat} {x x' : List Int}
theorem InB.go (H : InB ls C O f n h l s K0 D G k x) {nw : List Pc} (ho : s'.fl.out = s.fl.out ++ nw)
    (hs : ∀ (b T : List Int) (a : Nat), B01 b → b.drop a = flatQ [] [] ls C nw ++ T → rdH (sy O) (sz ls O) b (G.length + 1) f n h l k a x = rdH (sy O) (sz ls O) b (G.length + 1) f n h l k' (a + (flatQ [] [] ls C nw).length) x') :
    InB ls C O f n h l s' K0 D G k' x' := fun b T L a' hb he hr => by
  rw [ho, flatQ_app] at he
  refine H b (flatQ [] [] ls C nw ++ T) L a' hb (by rw [he, List.append_assoc]) ?_
  rw [hs b T _ hb (drop_of (by rw [he, List.append_assoc]))]
  rw [ho, flatQ_app, List.length_append] at hr
  exact hr
theorem put_fl_out (s : Pen) (nw : List Pc) (he : s.ends = 0) (hh : s.held = []) : (s.put nw).fl.out = s.out ++ nw := by
  unfold Pen.fl Pen.put Pen.eob
  simp only [he, hh]
  simp
theorem fl_put_fl (s : Pen) (nw : List Pc) : (s.fl.put nw).fl.out = s.fl.out ++ nw := put_fl_out s.fl nw rfl rfl
theorem fl_out0 (he : s.ends = 0) (hh : s.held = []) : s.fl.out = s.out := by
  unfold Pen.fl Pen.eob
  simp only [he, hh]; simp
/-- a block begins -/
theorem InvP.begin_ {y : List Int} (H : InvP ls C O f n h l s K0 D (y :: G)) (hx : x = if 0 < h then y else zrN y f n) : InB ls C O f n h l s K0 D G 0 x := fun b T L a' hb he hr => by
  have h0 : s.out ++ eobs (s.ends + 0) ++ s.held = s.fl.out := rfl
  refine H.2 b T 0 L a' hb (by rw [h0]; exact he) (fun _ => rfl) (Nat.zero_le _) ?_
  rw [h0, rdAll_then]
  by_cases hh : 0 < h
  · rw [if_pos hh] at hx
    rw [rdK_fine hh, ← hx]; exact hr
  · rw [if_neg hh] at hx
    rw [rdK_first hh, ← hx]; exact hr
/-- a block ends by what it has -/
theorem InB.end0 {y1 : List Int} (H : InB ls C O f n h l s K0 D G k x) (he : s.ends = 0) (hh : s.held = [])
    (hs : ∀ (b T : List Int) (a : Nat), B01 b → b.drop a = T → rdH (sy O) (sz ls O) b (G.length + 1) f n h l k a x = (y1, a, 0, 0)) : InvP ls C O f n h l s K0 (D ++ [y1]) G :=
  ⟨fun _ => hh, fun b T m L a' hb hq hm hmG hr => by
    obtain rfl := hm he
    have h0 : s.out ++ eobs (s.ends + 0) ++ s.held = s.fl.out := rfl
    rw [h0] at hq hr
    rw [List.append_assoc, List.singleton_append]
    refine H b T (y1 :: L) a' hb hq ?_
    rw [hs b T _ hb (drop_of hq)]
    exact rdThen_ok hr⟩
/-- a block ends by an end, the first that is counted -/
theorem InB.endA {y1 : List Int} {hd : List Pc} (H : InB ls C O f n h l s K0 D G k x) (he : s.ends = 0) (hh : s.held = []) (hG : G.length ≤ 1000)
    (hs : ∀ (b T : List Int) (a e : Nat), B01 b → 1 ≤ e → e ≤ G.length + 1 → b.drop a = bitsQ [] [] ls C (eobP e) ++ (flatQ [] [] ls C hd ++ T) → rdH (sy O) (sz ls O) b (G.length + 1) f n h l k a x = (y1, a + (bitsQ [] [] ls C (eobP e)).length + (flatQ [] [] ls C hd).length, e, 0)) :
    InvP ls C O f n h l (s.end_ hd) K0 (D ++ [y1]) G :=
  ⟨fun q => by simp [Pen.end_] at q, fun b T m L a' hb hq hm hmG hr => by
    have h0 : (s.end_ hd).out ++ eobs ((s.end_ hd).ends + m) ++ (s.end_ hd).held = s.fl.out ++ (eobP (1 + m) :: hd) := by
      rw [fl_out0 he hh]
      unfold Pen.end_ eobs
      simp only [he, hh]
      rw [if_pos (by omega)]
      simp
    rw [h0, flatQ_app, flatQ_cons] at hq hr
    rw [List.append_assoc, List.singleton_append]
    have hq2 : b = flatQ [] [] ls C s.fl.out ++ (bitsQ [] [] ls C (eobP (1 + m)) ++ (flatQ [] [] ls C hd ++ T)) := by rw [hq]; simp only [List.append_assoc]
    refine H b _ (y1 :: L) a' hb hq2 ?_
    rw [hs b T _ (1 + m) hb (by omega) (by omega) (drop_of hq2)]
    refine rdThen_ok ?_
    rw [show 1 + m - 1 = m by omega]
    rw [List.length_append, List.length_append, ← Nat.add_assoc] at hr
    exact hr⟩
/-- a block ends by an end behind others -/
theorem InvP.more {y y1 : List Int} {hd : List Pc} (H : InvP ls C O f n h l s K0 D (y :: G)) (he : 0 < s.ends)
    (hs : ∀ (b T : List Int) (a en : Nat), B01 b → 1 ≤ en → b.drop a = flatQ [] [] ls C hd ++ T → rdK (sy O) (sz ls O) b (G.length + 1) f n h l a en y = (y1, a + (flatQ [] [] ls C hd).length, en, 0)) :
    InvP ls C O f n h l (s.end_ hd) K0 (D ++ [y1]) G :=
  ⟨fun q => by simp [Pen.end_] at q, fun b T m L a' hb hq hm hmG hr => by
    have h0 : (s.end_ hd).out ++ eobs ((s.end_ hd).ends + m) ++ (s.end_ hd).held = (s.out ++ eobs (s.ends + (m + 1)) ++ s.held) ++ hd := by
      unfold Pen.end_
      simp only
      rw [show s.ends + 1 + m = s.ends + (m + 1) by omega]
      simp
    rw [h0, flatQ_app] at hq hr
    rw [List.append_assoc, List.singleton_append]
    have hq2 : b = flatQ [] [] ls C (s.out ++ eobs (s.ends + (m + 1)) ++ s.held) ++ (flatQ [] [] ls C hd ++ T) := by rw [hq]; simp only [List.append_assoc]
    refine H.2 b _ (m + 1) (y1 :: L) a' hb hq2 (fun q => by omega) (by rw [List.length_cons]; omega) ?_
    rw [rdAll_then, hs b T _ (m + 1) hb (by omega) (drop_of hq2)]
    refine rdThen_ok ?_
    rw [Nat.add_sub_cancel]
    rw [List.length_append] at hr
    exact hr⟩
end
end
section
open Go.RowKit
set_option linter.unusedVariables false

section
variable {ls C : List Int} {O : List Nat} {b : List Int}
theorem sym_len (h : Has ls O C 256) {s a : Nat} {r : List Int} (hs : s < 256) (hd : b.drop a = co ls C s ++ r) : a + (co ls C s).length ≤ b.length := by
  have h7 := (h.pos s hs).2
  have h6 := co_len ls C s
  have := congrArg List.length hd
  rw [List.length_drop, List.length_append] at this
  omega
end
/-- over places without new numbers -/
def PassP (ls C : List Int) (f n : Nat) (l : Int) (y x : List Int) (k i z : Nat) (hd : List Pc) : Prop :=
  ∀ (b T : List Int) (a m : Nat), b.drop a = flatQ [] [] ls C hd ++ T → rdP b f n l k a (z + m) (upB y x f l k) = rdP b f n l i (a + (flatQ [] [] ls C hd).length) m (upB y x f l i)
/-- a block of a finer band, with what was known of it -/
structure FiH (y x : List Int) (f n : Nat) (l : Int) : Prop where
  len : y.length = 64
  fn : f + n ≤ 64
  zero : ∀ j, j < n → (tn x f l j = 0 ∨ tn x f l j = 1 ∨ tn x f l j = -1) → y.getD (zzN (f + j)) 0 = 0
  known : ∀ j, j < n → ¬ (tn x f l j = 0 ∨ tn x f l j = 1 ∨ tn x f l j = -1) → y.getD (zzN (f + j)) 0 ≠ 0 ∧ bet (y.getD (zzN (f + j)) 0) (((tn x f l j).natAbs % 2 : Nat) : Int) l = tn x f l j * 2 ^ l.toNat
section
variable {ls C : List Int} {O : List Nat} {f n k i z : Nat} {h l : Int} {y x : List Int} {hd : List Pc}
theorem PassP.refl_ : PassP ls C f n l y x k k 0 [] := fun b T a m hb => by rw [Nat.zero_add]; rfl
theorem up_zero (H : FiH y x f n l) (hi : i < n) (h0 : tn x f l i = 0) : upB y x f l (i + 1) = upB y x f l i := by
  have := H.fn
  rw [upB, h0, Int.zero_mul, set_self0 (by rw [upB_after y x f l (by omega) (Nat.le_refl _)]; exact H.zero i hi (.inl h0))]
theorem PassP.zero (P : PassP ls C f n l y x k i z hd) (H : FiH y x f n l) (hi : i < n) (h0 : tn x f l i = 0) : PassP ls C f n l y x k (i + 1) (z + 1) hd := fun b T a m hb => by
  have hfn := H.fn
  have h1 := P b T a (m + 1) hb
  rw [show z + 1 + m = z + (m + 1) by omega, h1, rdP_zero hi (by rw [upB_after y x f l (by omega) (Nat.le_refl _)]; exact H.zero i hi (.inl h0)) (by omega), Nat.add_sub_cancel, up_zero H hi h0]
theorem PassP.known (P : PassP ls C f n l y x k i z hd) (H : FiH y x f n l) (hi : i < n) (h0 : ¬ (tn x f l i = 0 ∨ tn x f l i = 1 ∨ tn x f l i = -1)) : PassP ls C f n l y x k (i + 1) z (hd ++ [bitP (tn x f l i)]) := fun b T a m hb => by
  have hfn := H.fn
  rw [flatQ_app, flatQ_one', bitsQ_bit, List.append_assoc] at hb
  rw [flatQ_app, flatQ_one', bitsQ_bit, List.length_append]
  have h1 := P b _ a m hb
  have h2 : b.drop (a + (flatQ [] [] ls C hd).length) = (((tn x f l i).natAbs % 2 : Nat) : Int) :: T := by rw [← List.drop_drop, hb]; exact List.drop_left
  obtain ⟨h3, h4, h5⟩ := getD_at h2
  have h6 : (upB y x f l i).getD (zzN (f + i)) 0 = y.getD (zzN (f + i)) 0 := upB_after y x f l (by omega) (Nat.le_refl _)
  obtain ⟨h7, h8⟩ := H.known i hi h0
  rw [h1, rdP_on hi (by rw [h6]; exact h7) h5, h3, h6, h8, ← Nat.add_assoc]
  rfl
end
theorem nwst_lt (x : List Int) (f : Nat) (l : Int) : ∀ n, nwst x f l n < (n : Int) ∧ -1 ≤ nwst x f l n
  | 0 => by rw [nwst]; omega
  | n + 1 => by
    have := nwst_lt x f l n
    rw [nwst]; split <;> omega
theorem nwst_ge {x : List Int} {f : Nat} {l : Int} {i : Nat} (h : tn x f l i = 1 ∨ tn x f l i = -1) : ∀ n, i < n → (i : Int) ≤ nwst x f l n
  | 0, hi => by omega
  | n + 1, hi => by
    rw [nwst]
    split
    · omega
    · rename_i h1
      by_cases he : i = n
      · subst he; exact absurd h h1
      · exact nwst_ge h n (by omega)
/-- within a block of a finer band -/
def FiI (ls C : List Int) (O : List Nat) (f n : Nat) (h l : Int) (y x : List Int) (s : Pen) (K0 D G : List (List Int)) (nw : Int) (i : Nat) (r : Pen × Nat × List Pc) : Prop :=
  ∃ k, k ≤ i ∧ (r.1 = s ∧ k = 0 ∨ r.1.ends = 0 ∧ r.1.held = []) ∧ InB ls C O f n h l r.1 K0 D G k (upB y x f l k) ∧ PassP ls C f n l y x k i r.2.1 r.2.2 ∧ ((i : Int) ≤ nw → r.2.1 ≤ 15) ∧ r.2.1 + r.2.2.length = i - k
section
variable {ls C : List Int} {O : List Nat} {f n : Nat} {h l : Int} {y x : List Int} {s : Pen} {K0 D G : List (List Int)}
theorem fine_go (hS : Has ls O C 256) (hh : 0 < h) (H : FiH y x f n l) (h0 : InB ls C O f n h l s K0 D G 0 y) : ∀ i, i ≤ n → FiI ls C O f n h l y x s K0 D G (nwst x f l n) i (fiN x f l (nwst x f l n) s i)
  | 0, _ => ⟨0, Nat.le_refl _, .inl ⟨rfl, rfl⟩, h0, PassP.refl_, fun _ => Nat.zero_le _, rfl⟩
  | i + 1, hi => by
    have hnw := nwst_lt x f l n
    have hfn := H.fn
    obtain ⟨⟨s', z, hd⟩, hst⟩ : ∃ r, fiN x f l (nwst x f l n) s i = r := ⟨_, rfl⟩
    have ih := fine_go hS hh H h0 i (by omega)
    rw [hst] at ih
    obtain ⟨k, hk, hse, hin, hp, hz, hzl⟩ := ih
    dsimp only at hse hin hp hz hzl
    have hyi : (upB y x f l i).getD (zzN (f + i)) 0 = y.getD (zzN (f + i)) 0 := upB_after y x f l (by omega) (Nat.le_refl _)
    by_cases hu : tn x f l i = 0
    · have hy0 := H.zero i (by omega) (.inl hu)
      by_cases h15 : z = 15 ∧ (i : Int) < nwst x f l n
      · obtain ⟨rfl, h1⟩ := h15
        rw [fi_skip hst hu h1]
        refine ⟨i + 1, Nat.le_refl _, .inr ⟨rfl, rfl⟩, ?_, PassP.refl_, fun _ => Nat.zero_le _, by simp⟩
        refine hin.go (fl_put_fl s' (skipP :: hd)) fun b T a hb hd1 => ?_
        rw [flatQ_cons, bitsQ_skip, List.append_assoc] at hd1
        rw [flatQ_cons, bitsQ_skip, List.length_append]
        obtain ⟨hF, h3⟩ := sym_at hS hb (by omega) hd1
        have hlen := sym_len hS (by omega) hd1
        have hP : rdP b f n l k (a + (co ls C 240).length + 240 % 16) (240 / 16) (upB y x f l k) = (upB y x f l i, i, a + (co ls C 240).length + (flatQ [] [] ls C hd).length, 0) := by
          rw [show 240 % 16 = 0 from rfl, show 240 / 16 = 15 + 0 from rfl, Nat.add_zero, hp b T _ 0 h3, rdP_stop (by omega) (by rw [hyi]; exact hy0) rfl]
        refine rdH_fine hh ?_
        rw [rdG_go (by omega) hF (by omega) (by omega) (by omega) hP (by omega), if_neg (by omega), ← Nat.add_assoc]
        rw [upB, hu, Int.zero_mul]
      · rw [fi_zero hst hu h15]
        refine ⟨k, by omega, hse, hin, hp.zero H (by omega) hu, fun q => ?_, by dsimp only; omega⟩
        dsimp only
        have := hz (by omega)
        omega
    · by_cases h1 : tn x f l i = 1 ∨ tn x f l i = -1
      · have hy0 := H.zero i (by omega) (.inr h1)
        have hge := nwst_ge h1 n (by omega)
        have hz15 := hz hge
        rw [fi_on hst h1]
        refine ⟨i + 1, Nat.le_refl _, .inr ⟨rfl, rfl⟩, ?_, PassP.refl_, fun _ => Nat.zero_le _, by simp⟩
        refine hin.go (fl_put_fl s' _) fun b T a hb hd1 => ?_
        rw [flatQ_cons, bitsQ_on, List.append_assoc, List.append_assoc, List.singleton_append] at hd1
        rw [flatQ_cons, bitsQ_on, List.length_append, List.length_append]
        obtain ⟨hF, h3⟩ := sym_at hS hb (by omega) hd1
        obtain ⟨h4, h5, h6⟩ := getD_at h3
        have hP : rdP b f n l k (a + (co ls C (16 * z + 1)).length + (16 * z + 1) % 16) ((16 * z + 1) / 16) (upB y x f l k) = (upB y x f l i, i, a + (co ls C (16 * z + 1)).length + 1 + (flatQ [] [] ls C hd).length, 0) := by
          rw [show (16 * z + 1) % 16 = 1 by omega, show (16 * z + 1) / 16 = z + 0 by omega, hp b T _ 0 h5, rdP_stop (by omega) (by rw [hyi]; exact hy0) rfl]
        refine rdH_fine hh ?_
        rw [rdG_go (by omega) hF (by omega) (by omega) (by omega) hP (by omega), if_pos (by omega), h4]
        have hv : (2 * (if tn x f l i = 1 then (1 : Int) else 0) - 1) = tn x f l i := by
          rcases h1 with h1 | h1
          · rw [if_pos h1, h1]; rfl
          · rw [if_neg (by omega), h1]; rfl
        rw [hv, show a + (co ls C (16 * z + 1)).length + 1 + (flatQ [] [] ls C hd).length = a + ((co ls C (16 * z + 1)).length + [if tn x f l i = 1 then (1 : Int) else 0].length + (flatQ [] [] ls C hd).length) by
          simp only [List.length_cons, List.length_nil]; omega]
        rfl
      · rw [fi_bit hst hu h1]
        refine ⟨k, by omega, hse, hin, hp.known H (by omega) (by omega), fun q => hz (by omega), ?_⟩
        dsimp only
        rw [List.length_append]
        simp only [List.length_cons, List.length_nil]
        omega
/-- a block of a finer band -/
theorem fine_step (hS : Has ls O C 256) (hh : 0 < h) (H : FiH y x f n l) (hn : 1 ≤ n) (hG : G.length ≤ 1000) (hI : InvP ls C O f n h l s K0 D (y :: G)) : InvP ls C O f n h l (fiB x f n l s) K0 (D ++ [upB y x f l n]) G := by
  have hfn := H.fn
  have h0 : InB ls C O f n h l s K0 D G 0 y := hI.begin_ (by rw [if_pos hh])
  obtain ⟨⟨s', z, hd⟩, hst⟩ : ∃ r, fiN x f l (nwst x f l n) s n = r := ⟨_, rfl⟩
  have hfi := fine_go hS hh H h0 n (Nat.le_refl _)
  rw [hst] at hfi
  obtain ⟨k, hk, hse, hin, hp, hz, hzl⟩ := hfi
  dsimp only at hse hin hp hz hzl
  unfold fiB
  rw [hst]
  unfold fiE
  dsimp only
  have hend : ∀ (b T : List Int) (a : Nat), b.drop a = flatQ [] [] ls C hd ++ T → rdP b f n l k a n (upB y x f l k) = (upB y x f l n, n, a + (flatQ [] [] ls C hd).length, 0) := fun b T a hb => by
    have h1 := hp b T a (n - z) hb
    rw [show z + (n - z) = n by omega] at h1
    rw [h1, rdP_out (by omega)]
  by_cases hzz : 0 < z ∨ 0 < hd.length
  · rw [if_pos hzz]
    by_cases he0 : s'.ends = 0 ∧ s'.held = []
    · refine hin.endA he0.1 he0.2 hG fun b T a e hb h1 h2 hd1 => ?_
      obtain ⟨sy1, m1, hs1, hs2, hF, hE⟩ := rdE_eob hS hb (left := G.length + 1) (x := upB y x f l k) h1 h2 (by omega) hd1
      have h3 : b.drop (a + (bitsQ [] [] ls C (eobP e)).length) = flatQ [] [] ls C hd ++ T := by rw [← List.drop_drop, hd1]; exact List.drop_left
      have h4 := hend b T _ h3
      unfold rdH
      rw [if_pos hh, rdG_end (by omega) hF ⟨hs1, hs2⟩, hE]
      dsimp only
      rw [if_neg (by simp)]
      unfold rdZ
      rw [h4, if_neg (by simp)]
    · obtain ⟨rfl, rfl⟩ : s' = s ∧ k = 0 := by
        rcases hse with h1 | h1
        · exact h1
        · exact absurd h1 he0
      have hpos : 0 < s'.ends := by
        rcases Nat.eq_zero_or_pos s'.ends with h1 | h1
        · exact absurd ⟨h1, hI.1 h1⟩ he0
        · exact h1
      refine hI.more hpos fun b T a en hb h1 hd1 => ?_
      have h4 := hend b T a hd1
      unfold rdK
      rw [if_pos hh, if_pos (by omega)]
      unfold rdZ
      rw [show upB y x f l 0 = y from rfl] at h4
      rw [h4, if_neg (by simp)]
  · rw [if_neg hzz]
    have hkn : k = n := by omega
    obtain ⟨he, hh2⟩ : s'.ends = 0 ∧ s'.held = [] := by
      rcases hse with h1 | h1
      · omega
      · exact h1
    subst hkn
    refine hin.end0 he hh2 fun b T a hb hd1 => ?_
    unfold rdH
    rw [if_pos hh, rdG_out (by omega)]
    dsimp only
    rw [if_neg (by simp)]
    unfold rdZ
    rw [rdP_out (by omega), if_neg (by simp)]
end

/-- runs of 16 noughts -/
theorem rdA_skips {ls C : List Int} {O : List Nat} {b : List Int} {left f n : Nat} {l : Int} {x : List Int} (hS : Has ls O C 256) (hb : B01 b) : ∀ (q k a : Nat) (r : List Int), b.drop a = flatQ [] [] ls C (List.replicate q skipP) ++ r → k + 16 * q < n →
    (∀ j, k ≤ j → j < k + 16 * q → x.getD (zzN (f + j)) 0 = 0) → rdA (sy O) (sz ls O) b left f n l k a x = rdA (sy O) (sz ls O) b left f n l (k + 16 * q) (a + (flatQ [] [] ls C (List.replicate q skipP)).length) x ∧ b.drop (a + (flatQ [] [] ls C (List.replicate q skipP)).length) = r
  | 0, k, a, r, hd, hi, hx => by simpa [flatQ] using hd
  | q + 1, k, a, r, hd, hi, hx => by
    rw [List.replicate_succ, flatQ_cons, bitsQ_skip, List.append_assoc] at hd
    rw [List.replicate_succ, flatQ_cons, bitsQ_skip, List.length_append]
    obtain ⟨hF, h3⟩ := sym_at hS hb (by omega) hd
    have hlen := sym_len hS (by omega) hd
    have ih := rdA_skips (left := left) (f := f) (n := n) (l := l) (x := x) hS hb q (k + 16) (a + (co ls C 240).length) r h3 (by omega) (fun j h1 h2 => hx j (by omega) (by omega))
    have hv : vaZ (hv ((b.drop (a + (co ls C 240).length)).take (240 % 16))) ((240 % 16 : Nat) : Int) * 2 ^ l.toNat = 0 := by
      rw [show 240 % 16 = 0 from rfl, vaZ_nought, Int.zero_mul]
    rw [rdA_go (by omega) hF (by omega) (by omega) (by omega) hv (by omega), show k + 240 / 16 + 1 = k + 16 by omega, show a + (co ls C 240).length + 240 % 16 = a + (co ls C 240).length by omega,
      set_self0 (hx (k + 240 / 16) (by omega) (by omega)), ih.1]
    refine ⟨?_, ?_⟩
    · rw [show k + 16 + 16 * q = k + 16 * (q + 1) by omega, Nat.add_assoc a]
    · rw [← Nat.add_assoc]; exact ih.2
/-- a number behind fewer than 16 noughts -/
theorem rdA_num {ls C : List Int} {O : List Nat} {b : List Int} {left f n k a z : Nat} {l v : Int} {x r : List Int} (hS : Has ls O C 256) (hb : B01 b) (hv1 : -1023 ≤ v) (hv2 : v ≤ 1023) (hv0 : v ≠ 0) (hw : -1023 ≤ v * 2 ^ l.toNat ∧ v * 2 ^ l.toNat ≤ 1023) (hk : z < 16) (hi : k + z < n)
    (hd : b.drop a = bitsQ [] [] ls C (numP true v z) ++ r) :
    rdA (sy O) (sz ls O) b left f n l k a x = rdA (sy O) (sz ls O) b left f n l (k + z + 1) (a + (bitsQ [] [] ls C (numP true v z)).length) (x.set (zzN (f + (k + z))) (v * 2 ^ l.toNat)) := by
  have hs10 : szN v ≤ 10 := sz_le (by omega)
  have hs1 : 1 ≤ szN v := by
    have h1 := szN_zero (n := v) (by omega) (by omega)
    have : szN v ≠ 0 := fun e => hv0 (h1.1 e)
    omega
  have hnum : numP true v z = (true, ((16 * z + szN v : Nat) : Int), exZ v, ((szN v : Nat) : Int)) := by
    unfold numP
    rw [Int.natCast_add, Int.natCast_mul]; rfl
  have hq : bitsQ [] [] ls C (numP true v z) = co ls C (16 * z + szN v) ++ digs true (exZ v) (szN v) := by rw [hnum, bitsQ_ac]
  obtain ⟨s, hs⟩ : ∃ s, s = 16 * z + szN v := ⟨_, rfl⟩
  obtain ⟨w, hw2⟩ : ∃ w, w = szN v := ⟨_, rfl⟩
  rw [hq, ← hs, ← hw2, List.append_assoc] at hd
  rw [hq, ← hs, ← hw2]
  have hsk : s / 16 = z := by omega
  have hsz : s % 16 = w := by omega
  obtain ⟨hF, h3⟩ := sym_at hS hb (by omega) hd
  obtain ⟨h4, h5, h6⟩ : (b.drop (a + (co ls C s).length)).take w = digs true (exZ v) w ∧ b.drop (a + (co ls C s).length + w) = r ∧ a + (co ls C s).length + w ≤ b.length := by
    rcases num_at h3 with h | h
    · exact h
    · omega
  have hvv : vaZ (hv ((b.drop (a + (co ls C s).length)).take (s % 16))) ((s % 16 : Nat) : Int) * 2 ^ l.toNat = v * 2 ^ l.toNat := by
    rw [hsz, h4, hw2, num_bits (by omega) (by omega)]
  rw [rdA_go (by omega) hF (by omega) (by omega) (by omega) hvv hw, hsk, hsz, List.length_append, digs_len, Nat.add_assoc a]
/-- a block of a first band -/
structure FsH (y x : List Int) (f n : Nat) (l : Int) : Prop where
  len : y.length = 64
  fn : f + n ≤ 64
  bd : ∀ j, j < n → (-1023 ≤ tn x f l j ∧ tn x f l j ≤ 1023) ∧ -1023 ≤ tn x f l j * 2 ^ l.toNat ∧ tn x f l j * 2 ^ l.toNat ≤ 1023
def FsI (ls C : List Int) (O : List Nat) (f n : Nat) (h l : Int) (y x : List Int) (s : Pen) (K0 D G : List (List Int)) (i : Nat) (r : Pen × Nat) : Prop :=
  ∃ k, k ≤ i ∧ (r.1 = s ∧ k = 0 ∨ r.1.ends = 0 ∧ r.1.held = []) ∧ InB ls C O f n h l r.1 K0 D G k (upB (zrN y f n) x f l k) ∧ r.2 = i - k ∧ ∀ j, k ≤ j → j < i → tn x f l j = 0
section
variable {ls C : List Int} {O : List Nat} {f n : Nat} {h l : Int} {y x : List Int} {s : Pen} {K0 D G : List (List Int)}
theorem FsH.up_same (H : FsH y x f n l) {k i : Nat} (hk : k ≤ i) (hi : i ≤ n) (h : ∀ j, k ≤ j → j < i → tn x f l j = 0) : upB (zrN y f n) x f l i = upB (zrN y f n) x f l k :=
  upB_same (n := n) H.fn (fun j hj _ => zrN_zero y f H.len n H.fn j hj) i hk hi h
theorem first_go (hS : Has ls O C 256) (hh : ¬ 0 < h) (H : FsH y x f n l) (h0 : InB ls C O f n h l s K0 D G 0 (zrN y f n)) : ∀ i, i ≤ n → FsI ls C O f n h l y x s K0 D G i (fsN x f l s i)
  | 0, _ => ⟨0, Nat.le_refl _, .inl ⟨rfl, rfl⟩, h0, rfl, fun j _ hj => by omega⟩
  | i + 1, hi => by
    have hfn := H.fn
    obtain ⟨⟨s', z⟩, hst⟩ : ∃ r, fsN x f l s i = r := ⟨_, rfl⟩
    have ih := first_go hS hh H h0 i (by omega)
    rw [hst] at ih
    obtain ⟨k, hk, hse, hin, hz, hzr⟩ := ih
    dsimp only at hse hin hz hzr
    by_cases hu : tn x f l i = 0
    · rw [tn_zero hst hu]
      refine ⟨k, by omega, hse, hin, by dsimp only; omega, fun j h1 h2 => ?_⟩
      by_cases h3 : j = i
      · rw [h3]; exact hu
      · exact hzr j h1 (by omega)
    · rw [tn_num hst hu]
      refine ⟨i + 1, Nat.le_refl _, .inr ⟨rfl, rfl⟩, ?_, by simp, fun j h1 h2 => by omega⟩
      refine hin.go (fl_put_fl s' _) fun b T a hb hd1 => ?_
      rw [flatQ_app, flatQ_one', List.append_assoc] at hd1
      rw [flatQ_app, flatQ_one', List.length_append, rdH_first hh, rdH_first hh]
      have hzq : k + 16 * (z / 16) + z % 16 = i := by omega
      have hup := H.up_same hk (by omega) hzr
      obtain ⟨h1, h2⟩ := rdA_skips (left := G.length + 1) (f := f) (n := n) (l := l) (x := upB (zrN y f n) x f l k) hS hb (z / 16) k a _ hd1 (by omega) (fun j h1 h2 => by
        rw [upB_after _ x f l (by omega) h1]
        exact zrN_zero y f H.len n hfn j (by omega))
      obtain ⟨⟨hb1, hb2⟩, hb3, hb4⟩ := H.bd i (by omega)
      rw [h1, rdA_num hS hb hb1 hb2 hu ⟨hb3, hb4⟩ (Nat.mod_lt _ (by omega)) (by omega) h2, hzq, Nat.add_assoc a, upB, hup]
theorem first_step (hS : Has ls O C 256) (hh : ¬ 0 < h) (H : FsH y x f n l) (hn : 1 ≤ n) (hG : G.length ≤ 1000) (hI : InvP ls C O f n h l s K0 D (y :: G)) : InvP ls C O f n h l (fsB x f n l s) K0 (D ++ [upB (zrN y f n) x f l n]) G := by
  have hfn := H.fn
  have h0 : InB ls C O f n h l s K0 D G 0 (zrN y f n) := hI.begin_ (by rw [if_neg hh])
  obtain ⟨⟨s', z⟩, hst⟩ : ∃ r, fsN x f l s n = r := ⟨_, rfl⟩
  have hfi := first_go hS hh H h0 n (Nat.le_refl _)
  rw [hst] at hfi
  obtain ⟨k, hk, hse, hin, hz, hzr⟩ := hfi
  dsimp only at hse hin hz hzr
  have hup := H.up_same hk (Nat.le_refl _) hzr
  unfold fsB
  rw [hst]
  dsimp only
  by_cases hzz : 0 < z
  · rw [if_pos hzz]
    by_cases he0 : s'.ends = 0 ∧ s'.held = []
    · refine hin.endA he0.1 he0.2 hG fun b T a e hb h1 h2 hd1 => ?_
      obtain ⟨sy1, m1, hs1, hs2, hF, hE⟩ := rdE_eob hS hb (left := G.length + 1) (x := upB (zrN y f n) x f l k) h1 h2 (by omega) hd1
      rw [rdH_first hh, rdA_end (by omega) hF ⟨hs1, hs2⟩, hE, hup]
      rfl
    · obtain ⟨rfl, rfl⟩ : s' = s ∧ k = 0 := by
        rcases hse with h1 | h1
        · exact h1
        · exact absurd h1 he0
      have hpos : 0 < s'.ends := by
        rcases Nat.eq_zero_or_pos s'.ends with h1 | h1
        · exact absurd ⟨h1, hI.1 h1⟩ he0
        · exact h1
      refine hI.more hpos fun b T a en hb h1 hd1 => ?_
      unfold rdK
      rw [if_neg hh, if_pos (by omega), hup]
      rfl
  · rw [if_neg hzz]
    have hkn : k = n := by omega
    obtain ⟨he, hh2⟩ : s'.ends = 0 ∧ s'.held = [] := by
      rcases hse with h1 | h1
      · omega
      · exact h1
    subst hkn
    refine hin.end0 he hh2 fun b T a hb hd1 => ?_
    rw [rdH_first hh, rdA_out (by omega)]
end
end
section
open Go.RowKit
set_option linter.unusedVariables false

/-- a block with what was known of it, and what is known behind the band -/
def BnH (f n : Nat) (h l : Int) (y x : List Int) : Prop := (0 < h → FiH y x f n l) ∧ (¬ 0 < h → FsH y x f n l)
def outB (f n : Nat) (h l : Int) (y x : List Int) : List Int := if 0 < h then upB y x f l n else upB (zrN y f n) x f l n
def outL (f n : Nat) (h l : Int) : List (List Int) → List (List Int) → List (List Int)
  | y :: Y, x :: X => outB f n h l y x :: outL f n h l Y X
  | _, _ => []
def BnL (f n : Nat) (h l : Int) : List (List Int) → List (List Int) → Prop
  | y :: Y, x :: X => BnH f n h l y x ∧ BnL f n h l Y X
  | [], [] => True
  | _, _ => False
section
variable {ls C : List Int} {O : List Nat} {f n : Nat} {h l : Int}
theorem ac_inv (hS : Has ls O C 256) (hn : 1 ≤ n) {K0 : List (List Int)} : ∀ (X Y D : List (List Int)) (s : Pen), X.length ≤ 1000 → BnL f n h l Y X → InvP ls C O f n h l s K0 D Y → InvP ls C O f n h l (acL f n h l X s) K0 (D ++ outL f n h l Y X) []
  | [], [], D, s, _, _, hI => by rw [outL, List.append_nil]; exact hI; all_goals (intros; simp_all)
  | [], y :: Y, D, s, _, hB, hI => by simp [BnL] at hB
  | x :: X, [], D, s, _, hB, hI => by simp [BnL] at hB
  | x :: X, y :: Y, D, s, hX, hB, hI => by
    rw [BnL] at hB
    have hYX : Y.length = X.length := by
      have : ∀ (X Y : List (List Int)), BnL f n h l Y X → Y.length = X.length := fun X => by
        induction X with
        | nil => intro Y hq; cases Y with
          | nil => rfl
          | cons y Y => simp [BnL] at hq
        | cons x X ih => intro Y hq; cases Y with
          | nil => simp [BnL] at hq
          | cons y Y => rw [BnL] at hq; simp [ih Y hq.2]
      exact this X Y hB.2
    have hG : Y.length ≤ 1000 := by rw [hYX]; rw [List.length_cons] at hX; omega
    have h1 : InvP ls C O f n h l (acB f n h l s x) K0 (D ++ [outB f n h l y x]) Y := by
      unfold acB outB
      by_cases hh : 0 < h
      · rw [if_pos hh, if_pos hh]; exact fine_step hS hh (hB.1.1 hh) hn hG hI
      · rw [if_neg hh, if_neg hh]; exact first_step hS hh (hB.1.2 hh) hn hG hI
    have h2 := ac_inv hS hn X Y _ _ (by rw [List.length_cons] at hX; omega) hB.2 h1
    rw [outL]
    rw [List.append_assoc, List.singleton_append] at h2
    exact h2
theorem ac_read (hS : Has ls O C 256) (hn : 1 ≤ n) {X Y : List (List Int)} (hX : X.length ≤ 1000) (hB : BnL f n h l Y X) {b T : List Int} (hb : B01 b) (he : b = flatQ [] [] ls C (acP f n h l X) ++ T) :
    rdAll (sy O) (sz ls O) b f n h l Y 0 0 = (outL f n h l Y X, (flatQ [] [] ls C (acP f n h l X)).length, 0) := by
  have h0 : InvP ls C O f n h l ⟨[], 0, []⟩ Y [] Y := ⟨fun _ => rfl, fun b T m L a' hb hq hm _ hr => by
    obtain rfl := hm rfl
    exact hr⟩
  have h1 := ac_inv hS hn X Y [] _ hX hB h0
  have h2 := h1.2 b T 0 [] (flatQ [] [] ls C (acP f n h l X)).length hb he (fun _ => rfl) (Nat.zero_le _) rfl
  rw [List.append_nil, List.nil_append] at h2
  exact h2
end
theorem list_ext0 {a b : List Int} (hl : a.length = b.length) (h : ∀ q, q < a.length → a.getD q 0 = b.getD q 0) : a = b := by
  refine List.ext_getElem hl fun q h1 h2 => ?_
  have := h q h1
  rw [List.getD_eq_getElem?_getD, List.getD_eq_getElem?_getD, List.getElem?_eq_getElem h1, List.getElem?_eq_getElem h2] at this
  exact this
/-- blocks that are alike beside the band -/
theorem upB_eq {y y' x : List Int} {f n : Nat} {l : Int} (hfn : f + n ≤ 64) (hy : y.length = 64) (hy' : y'.length = 64) (h : ∀ q, q < 64 → (∀ j, j < n → zzN (f + j) ≠ q) → y.getD q 0 = y'.getD q 0) : upB y x f l n = upB y' x f l n := by
  refine list_ext0 (by rw [upB_len, upB_len, hy, hy']) fun q hq => ?_
  rw [upB_len, hy] at hq
  by_cases hj : ∃ j, j < n ∧ zzN (f + j) = q
  · obtain ⟨j, h1, rfl⟩ := hj
    rw [upB_before y x f l hy n hfn j h1, upB_before y' x f l hy' n hfn j h1]
  · have h2 : ∀ j, j < n → zzN (f + j) ≠ q := fun j h1 e => hj ⟨j, h1, e⟩
    rw [upB_off y x f l n h2, upB_off y' x f l n h2]
    exact h q hq h2
theorem upB_over {x : List Int} {f n : Nat} (l l' : Int) (hfn : f + n ≤ 64) (hx : x.length = 64) : upB (upB x x f l' n) x f l n = upB x x f l n :=
  upB_eq hfn (by rw [upB_len, hx]) hx (fun q _ h => upB_off x x f l' n h)
theorem zrN_off (y : List Int) (f : Nat) {q : Nat} : ∀ i, (∀ j, j < i → zzN (f + j) ≠ q) → (zrN y f i).getD q 0 = y.getD q 0
  | 0, _ => rfl
  | i + 1, h => by
    rw [zrN, set_getD_ne' (h i (by omega))]
    exact zrN_off y f i (fun j hj => h j (by omega))
theorem upB_zr {y x : List Int} {f n : Nat} (l : Int) (hfn : f + n ≤ 64) (hy : y.length = 64) : upB (zrN y f n) x f l n = upB y x f l n :=
  upB_eq hfn (by rw [zrN_len, hy]) hy (fun q _ h => zrN_off y f n h)
theorem upB_self {x : List Int} {f n : Nat} (hfn : f + n ≤ 64) (hx : x.length = 64) : upB x x f 0 n = x := by
  refine list_ext0 (upB_len _ _ _ _ _) fun q hq => ?_
  by_cases hj : ∃ j, j < n ∧ zzN (f + j) = q
  · obtain ⟨j, h1, rfl⟩ := hj
    rw [upB_before x x f 0 hx n hfn j h1]
    unfold tn tl
    rw [if_neg (by omega)]
    split <;> simp
  · exact upB_off x x f 0 n (fun j h1 e => hj ⟨j, h1, e⟩)
/-- a number that is known up to bit l + 1 -/
theorem fi_rel {v l : Int} (hv1 : -1023 ≤ v) (hv2 : v ≤ 1023) (hl : 0 ≤ l ∧ l ≤ 9) :
    ((tl v l false = 0 ∨ tl v l false = 1 ∨ tl v l false = -1) → tl v (l + 1) false * 2 ^ (l + 1).toNat = 0) ∧
    (¬ (tl v l false = 0 ∨ tl v l false = 1 ∨ tl v l false = -1) → tl v (l + 1) false * 2 ^ (l + 1).toNat ≠ 0 ∧ bet (tl v (l + 1) false * 2 ^ (l + 1).toNat) (((tl v l false).natAbs % 2 : Nat) : Int) l = tl v l false * 2 ^ l.toNat) := by
  obtain ⟨k, rfl⟩ := Int.eq_ofNat_of_zero_le hl.1
  have hk : k ≤ 9 := by omega
  have e1 : ((k : Int) + 1).toNat = k + 1 := by omega
  have e2 : (k : Int).toNat = k := Int.toNat_natCast k
  have hp := two_pos k
  unfold bet
  rw [e1, e2, two_succ]
  obtain ⟨p, hpq⟩ : ∃ p : Int, p = 2 ^ k := ⟨_, rfl⟩
  have h512 : k = 9 → p = 512 := fun h => by rw [hpq, h]; rfl
  -- what both tell
  have hu : ∀ w : Int, tl w k false = if 0 ≤ w then w / p else -((-w) / p) := fun w => by
    unfold tl
    rw [if_neg (by omega), e2, ← hpq]
    simp
  have hw : tl v ((k : Int) + 1) false = if 0 ≤ v then v / (2 * p) else -((-v) / (2 * p)) := by
    unfold tl
    by_cases h9 : k = 9
    · rw [if_pos (by omega), h512 h9]
      split
      · omega
      · omega
    · rw [if_neg (by omega), e1, two_succ, ← hpq]
      simp
  rw [hu, hw, ← hpq]
  rw [← hpq] at hp
  have key : ∀ w : Int, 0 ≤ w → w / (2 * p) = w / p / 2 := fun w h0 => by rw [Int.mul_comm, ← Int.ediv_ediv_of_nonneg (by omega)]
  by_cases h0 : 0 ≤ v
  · rw [if_pos h0, if_pos h0, key v h0]
    have hq0 : 0 ≤ v / p := Int.ediv_nonneg h0 (by omega)
    generalize v / p = u at *
    constructor
    · intro h1
      have : u / 2 = 0 := by omega
      rw [this, Int.zero_mul]
    · intro h1
      have h2 : 1 ≤ u / 2 := by omega
      have h3 : 0 < u / 2 * (2 * p) := Int.mul_pos (by omega) (by omega)
      refine ⟨by omega, ?_⟩
      rw [if_neg (by omega)]
      have h4 : ((u.natAbs % 2 : Nat) : Int) = u % 2 := by omega
      rw [h4]
      have h5 : u = 2 * (u / 2) + u % 2 := by omega
      calc u / 2 * (2 * p) + u % 2 * p = (2 * (u / 2) + u % 2) * p := by rw [Int.add_mul, ← Int.mul_assoc, Int.mul_comm (u / 2) 2]
        _ = u * p := by rw [← h5]
  · rw [if_neg h0, if_neg h0, key (-v) (by omega)]
    have hq0 : 0 ≤ -v / p := Int.ediv_nonneg (by omega) (by omega)
    generalize -v / p = u at *
    constructor
    · intro h1
      have : u / 2 = 0 := by omega
      rw [this]; simp
    · intro h1
      have h2 : 1 ≤ u / 2 := by omega
      have h3 : 0 < u / 2 * (2 * p) := Int.mul_pos (by omega) (by omega)
      rw [Int.neg_mul]
      refine ⟨by omega, ?_⟩
      rw [if_pos (by omega)]
      have h4 : (((-u).natAbs % 2 : Nat) : Int) = u % 2 := by omega
      rw [h4]
      have h5 : u = 2 * (u / 2) + u % 2 := by omega
      have h6 : u / 2 * (2 * p) + u % 2 * p = u * p := by
        calc u / 2 * (2 * p) + u % 2 * p = (2 * (u / 2) + u % 2) * p := by rw [Int.add_mul, ← Int.mul_assoc, Int.mul_comm (u / 2) 2]
          _ = u * p := by rw [← h5]
      rw [Int.neg_mul]
      omega
/-- a band's numbers are at most 1023 -/
theorem tn_in {x : List Int} (hg : GoodB x) {f j : Nat} (hf : 1 ≤ f) (hj : f + j < 64) : -1023 ≤ x.getD (zzN (f + j)) 0 ∧ x.getD (zzN (f + j)) 0 ≤ 1023 := by
  have hz := zzN_bd (f + j) hj
  exact hg.1 _ (by have := hz.2.2; omega) hz.1
theorem tl_low {v l : Int} (hv1 : -1023 ≤ v) (hv2 : v ≤ 1023) : (-1023 ≤ tl v l false ∧ tl v l false ≤ 1023) ∧ -1023 ≤ tl v l false * 2 ^ l.toNat ∧ tl v l false * 2 ^ l.toNat ≤ 1023 := by
  unfold tl
  split
  · omega
  · rename_i hl
    have hp := two_pos l.toNat
    generalize (2 : Int) ^ l.toNat = p at *
    by_cases h0 : 0 ≤ v
    · rw [if_pos (.inr h0)]
      have h1 := Int.ediv_mul_le v (b := p) (by omega)
      have h2 : 0 ≤ v / p := Int.ediv_nonneg h0 (by omega)
      have h3 : v / p ≤ v := Int.ediv_le_self p h0
      have h4 : 0 ≤ v / p * p := Int.mul_nonneg h2 (by omega)
      omega
    · rw [if_neg (by simp; omega), Int.neg_mul]
      have h1 := Int.ediv_mul_le (-v) (b := p) (by omega)
      have h2 : 0 ≤ -v / p := Int.ediv_nonneg (by omega) (by omega)
      have h3 : -v / p ≤ -v := Int.ediv_le_self p (by omega)
      have h4 : 0 ≤ -v / p * p := Int.mul_nonneg h2 (by omega)
      omega
theorem fiH_of {x : List Int} {f n : Nat} {l : Int} (hx : x.length = 64) (hg : GoodB x) (hf : 1 ≤ f) (hfn : f + n ≤ 64) (hl : 0 ≤ l ∧ l ≤ 9) : FiH (upB x x f (l + 1) n) x f n l :=
  ⟨by rw [upB_len, hx], hfn, fun j hj h => by
    have hb := tn_in hg hf (show f + j < 64 by omega)
    rw [upB_before x x f (l + 1) hx n hfn j hj]
    exact (fi_rel hb.1 hb.2 hl).1 h, fun j hj h => by
    have hb := tn_in hg hf (show f + j < 64 by omega)
    rw [upB_before x x f (l + 1) hx n hfn j hj]
    exact (fi_rel hb.1 hb.2 hl).2 h⟩
theorem fsH_of {x y : List Int} {f n : Nat} {l : Int} (hy : y.length = 64) (hg : GoodB x) (hf : 1 ≤ f) (hfn : f + n ≤ 64) : FsH y x f n l :=
  ⟨hy, hfn, fun j hj => by
    have hb := tn_in hg hf (show f + j < 64 by omega)
    exact tl_low hb.1 hb.2⟩
/-- what is known of blocks behind a band -/
def knL (f n : Nat) (l : Int) (X : List (List Int)) : List (List Int) := X.map fun x => upB x x f l n
theorem bnL_fine {f n : Nat} {h l : Int} (hf : 1 ≤ f) (hfn : f + n ≤ 64) (hl : 0 ≤ l ∧ l ≤ 9) (hh : h = l + 1) : ∀ X : List (List Int), (∀ x ∈ X, x.length = 64 ∧ GoodB x) → BnL f n h l (knL f n h X) X ∧ outL f n h l (knL f n h X) X = knL f n l X
  | [], _ => ⟨trivial, rfl⟩
  | x :: X, hX => by
    obtain ⟨h1, h2⟩ := hX x List.mem_cons_self
    obtain ⟨h3, h4⟩ := bnL_fine hf hfn hl hh X (fun y hy => hX y (List.mem_cons_of_mem _ hy))
    refine ⟨⟨⟨fun _ => by subst hh; exact fiH_of h1 h2 hf hfn hl, fun q => by omega⟩, h3⟩, ?_⟩
    show outB f n h l (upB x x f h n) x :: outL f n h l (knL f n h X) X = upB x x f l n :: knL f n l X
    rw [h4]
    unfold outB
    rw [if_pos (by omega), upB_over l h hfn h1]
theorem bnL_first {f n : Nat} {h l : Int} (hf : 1 ≤ f) (hfn : f + n ≤ 64) (hh : ¬ 0 < h) : ∀ X Y : List (List Int), (∀ x ∈ X, x.length = 64 ∧ GoodB x) → Y.length = X.length → (∀ (i : Nat) (x y : List Int), X[i]? = some x → Y[i]? = some y → y.length = 64 ∧ ∀ q, q < 64 → (∀ j, j < n → zzN (f + j) ≠ q) → y.getD q 0 = x.getD q 0) → BnL f n h l Y X ∧ outL f n h l Y X = knL f n l X
  | [], [], _, _, _ => ⟨trivial, rfl⟩
  | [], y :: Y, _, hq, _ => by simp at hq
  | x :: X, [], _, hq, _ => by simp at hq
  | x :: X, y :: Y, hX, hq, hY => by
    obtain ⟨h1, h2⟩ := hX x List.mem_cons_self
    obtain ⟨h5, h6⟩ := hY 0 x y rfl rfl
    obtain ⟨h3, h4⟩ := bnL_first (h := h) (l := l) hf hfn hh X Y (fun y hy => hX y (List.mem_cons_of_mem _ hy)) (by simpa using hq) (fun i x y hx hy => hY (i + 1) x y (by simpa using hx) (by simpa using hy))
    refine ⟨⟨⟨fun q => absurd q hh, fun _ => fsH_of h5 h2 hf hfn⟩, h3⟩, ?_⟩
    show outB f n h l y x :: outL f n h l Y X = upB x x f l n :: knL f n l X
    rw [h4]
    unfold outB
    rw [if_neg hh, upB_zr l hfn h5, upB_eq hfn h5 h1 h6]

/-- a piece of ac's in form -/
def AcG (p : Pc) : Prop := p.1 = true ∧ (p.2.1 = -1 ∨ 0 ≤ p.2.1 ∧ p.2.1 ≤ 255) ∧ (0 ≤ p.2.2.2 ∧ p.2.2.2 ≤ 16) ∧ 0 ≤ p.2.2.1 ∧ p.2.2.1 < 2 ^ p.2.2.2.toNat
theorem AcG.okQ {ls C : List Int} {O : List Nat} (hS : Has ls O C 256) {p : Pc} (h : AcG p) : OkQ [] ls p := by
  obtain ⟨h1, h2, h3, h4, h5⟩ := h
  unfold OkQ OkP
  rw [h1, if_pos rfl]
  refine ⟨h3, h4, Int.ediv_eq_zero_of_lt h4 h5, ?_⟩
  rcases h2 with h2 | h2
  · exact .inl h2
  · right
    obtain ⟨s, hs⟩ := Int.eq_ofNat_of_zero_le h2.1
    rw [hs]
    exact hS.hasL (by omega)
theorem AcG.pib {p : Pc} (h : AcG p) : Pib p := by
  obtain ⟨h1, h2, h3, h4, h5⟩ := h
  have h6 : p.2.2.2.toNat ≤ 16 := by omega
  have h7 := pow_le15 h6
  unfold Pib
  omega
theorem skip_g : AcG skipP := by unfold AcG skipP; decide
theorem bit_g (u : Int) : AcG (bitP u) := by
  unfold AcG bitP
  refine ⟨rfl, .inl rfl, ⟨Int.zero_le_ofNat 1, (show (1 : Int) ≤ 16 by decide)⟩, Int.natCast_nonneg _, ?_⟩
  show ((u.natAbs % 2 : Nat) : Int) < 2
  omega
theorem on_g (u : Int) {z : Nat} (hz : z ≤ 15) : AcG (onP u z) := by
  unfold AcG onP
  refine ⟨rfl, .inr ?_, ⟨Int.zero_le_ofNat 1, (show (1 : Int) ≤ 16 by decide)⟩, ?_, ?_⟩
  · dsimp only; omega
  · dsimp only; split <;> decide
  · show (if u = 1 then (1 : Int) else 0) < 2
    split <;> decide
theorem num_g {u : Int} (h1 : -1023 ≤ u) (h2 : u ≤ 1023) {z : Nat} (hz : z ≤ 15) : AcG (numP true u z) := by
  have hs10 : szN u ≤ 10 := sz_le (by omega)
  have he := ex_bd (n := u) (by omega) (by omega)
  unfold AcG numP
  dsimp only
  refine ⟨rfl, .inr (by omega), by omega, he.1, ?_⟩
  rw [Int.toNat_natCast]; exact he.2
theorem eob_g {e : Nat} (h1 : 0 < e) (h2 : e ≤ 20000) : AcG (eobP e) := by
  have hk : bl e ≤ 15 := bl_bd (show e < 2 ^ 15 by omega)
  have hl := bl_le (x := e) (by omega)
  have hu := bl_lt e
  have h0 : 1 ≤ bl e := by
    rcases Nat.eq_zero_or_pos (bl e) with h | h
    · rw [h] at hu; omega
    · exact h
  unfold AcG eobP
  dsimp only
  obtain ⟨k, hkq⟩ : ∃ k, bl e = k + 1 := ⟨bl e - 1, by omega⟩
  rw [hkq, Nat.add_sub_cancel]
  rw [hkq, Nat.add_sub_cancel] at hl
  rw [hkq] at hu hk
  rw [Nat.pow_succ] at hu
  have hlz : (2 : Int) ^ k ≤ (e : Int) := by rw [← two_cast]; exact Int.ofNat_le.2 hl
  have huz : (e : Int) < 2 ^ k * 2 := by rw [← two_cast]; omega
  refine ⟨rfl, .inr (by omega), by omega, by omega, ?_⟩
  rw [Int.toNat_natCast]; omega
def PenG (s : Pen) : Prop := (∀ p ∈ s.out, AcG p) ∧ ∀ p ∈ s.held, AcG p
theorem PenG.fl {s : Pen} (h : PenG s) (he : s.ends ≤ 20000) : PenG s.fl := by
  refine ⟨fun p hp => ?_, fun p hp => by simp [Pen.fl] at hp⟩
  simp only [Pen.fl, List.mem_append] at hp
  rcases hp with (hp | hp) | hp
  · exact h.1 p hp
  · unfold Pen.eob at hp
    split at hp
    · rw [List.mem_singleton.1 hp]
      exact eob_g (by assumption) he
    · simp at hp
  · exact h.2 p hp
theorem PenG.put {s : Pen} (h : PenG s) {l : List Pc} (hl : ∀ p ∈ l, AcG p) : PenG (s.put l) :=
  ⟨fun p hp => by
    rcases List.mem_append.1 hp with hp | hp
    · exact h.1 p hp
    · exact hl p hp, h.2⟩
theorem PenG.end_ {s : Pen} (h : PenG s) {l : List Pc} (hl : ∀ p ∈ l, AcG p) : PenG (s.end_ l) :=
  ⟨h.1, fun p hp => by
    rcases List.mem_append.1 hp with hp | hp
    · exact h.2 p hp
    · exact hl p hp⟩
section
variable {x : List Int} {f n : Nat} {h l : Int} {s : Pen}
theorem fiN_g (hs : PenG s) (he : s.ends ≤ 20000) : ∀ i, i ≤ n → PenG (fiN x f l (nwst x f l n) s i).1 ∧ (∀ p ∈ (fiN x f l (nwst x f l n) s i).2.2, AcG p) ∧ ((i : Int) ≤ nwst x f l n → (fiN x f l (nwst x f l n) s i).2.1 ≤ 15)
  | 0, _ => ⟨hs, fun p hp => by simp [fiN] at hp, fun _ => Nat.zero_le _⟩
  | i + 1, hi => by
    obtain ⟨⟨s', z, hd⟩, hst⟩ : ∃ r, fiN x f l (nwst x f l n) s i = r := ⟨_, rfl⟩
    have ih := fiN_g hs he i (by omega)
    have hbd := fiN_bd x f l (nwst x f l n) s i
    rw [hst] at ih hbd
    dsimp only at ih hbd
    obtain ⟨h1, h2, h3⟩ := ih
    have hfl := h1.fl (by omega)
    by_cases hu : tn x f l i = 0
    · by_cases h15 : z = 15 ∧ (i : Int) < nwst x f l n
      · obtain ⟨rfl, h4⟩ := h15
        rw [fi_skip hst hu h4]
        refine ⟨hfl.put fun p hp => ?_, fun p hp => by simp at hp, fun _ => Nat.zero_le _⟩
        rcases List.mem_cons.1 hp with rfl | hp
        · exact skip_g
        · exact h2 p hp
      · rw [fi_zero hst hu h15]
        refine ⟨h1, h2, fun q => ?_⟩
        have := h3 (by omega)
        dsimp only
        omega
    · by_cases hon : tn x f l i = 1 ∨ tn x f l i = -1
      · rw [fi_on hst hon]
        have hz := h3 (nwst_ge hon n (by omega))
        refine ⟨hfl.put fun p hp => ?_, fun p hp => by simp at hp, fun _ => Nat.zero_le _⟩
        rcases List.mem_cons.1 hp with rfl | hp
        · exact on_g _ hz
        · exact h2 p hp
      · rw [fi_bit hst hu hon]
        refine ⟨h1, fun p hp => ?_, fun q => h3 (by omega)⟩
        rcases List.mem_append.1 hp with hp | hp
        · exact h2 p hp
        · rw [List.mem_singleton.1 hp]; exact bit_g _
theorem fiB_g (hs : PenG s) (he : s.ends ≤ 20000) : PenG (fiB x f n l s) := by
  obtain ⟨h1, h2, _⟩ := fiN_g (x := x) (f := f) (l := l) hs he n (Nat.le_refl _)
  unfold fiB fiE
  split
  · exact h1.end_ h2
  · exact h1
theorem fsN_g (hs : PenG s) (he : s.ends ≤ 20000) (hb : ∀ j, j < n → -1023 ≤ tn x f l j ∧ tn x f l j ≤ 1023) : ∀ i, i ≤ n → PenG (fsN x f l s i).1
  | 0, _ => hs
  | i + 1, hi => by
    obtain ⟨⟨s', z⟩, hst⟩ : ∃ r, fsN x f l s i = r := ⟨_, rfl⟩
    have ih := fsN_g hs he hb i (by omega)
    have hbd := fsN_bd x f l s i
    rw [hst] at ih hbd
    dsimp only at ih hbd
    by_cases hu : tn x f l i = 0
    · rw [tn_zero hst hu]; exact ih
    · rw [tn_num hst hu]
      refine (ih.fl (by omega)).put fun p hp => ?_
      rcases List.mem_append.1 hp with hp | hp
      · rw [List.eq_of_mem_replicate hp]; exact skip_g
      · rw [List.mem_singleton.1 hp]
        obtain ⟨h1, h2⟩ := hb i (by omega)
        exact num_g h1 h2 (by omega)
theorem acB_g (hs : PenG s) (he : s.ends ≤ 20000) (hb : ∀ j, j < n → -1023 ≤ tn x f l j ∧ tn x f l j ≤ 1023) : PenG (acB f n h l s x) := by
  unfold acB
  split
  · exact fiB_g hs he
  · unfold fsB
    split
    · exact (fsN_g hs he hb n (Nat.le_refl _)).end_ (fun p hp => by simp at hp)
    · exact fsN_g hs he hb n (Nat.le_refl _)
end
theorem acL_g {f n : Nat} {h l : Int} (hf : 1 ≤ f) (hfn : f + n ≤ 64) : ∀ (X : List (List Int)) (s : Pen), (∀ x ∈ X, GoodB x) → PenG s → s.ends + X.length ≤ 20000 → PenG (acL f n h l X s) ∧ (acL f n h l X s).ends ≤ 20000
  | [], s, _, hs, he => ⟨hs, by rw [List.length_nil] at he; exact he⟩
  | x :: X, s, hX, hs, he => by
    rw [List.length_cons] at he
    have hbd := acB_bd f n h l s x
    have h1 : PenG (acB f n h l s x) := acB_g hs (by omega) (fun j hj => by
      have hb := tn_in (hX x List.mem_cons_self) hf (show f + j < 64 by omega)
      exact (tl_low hb.1 hb.2).1)
    exact acL_g hf hfn X _ (fun y hy => hX y (List.mem_cons_of_mem _ hy)) h1 (by omega)
theorem acP_g {f n : Nat} {h l : Int} (hf : 1 ≤ f) (hfn : f + n ≤ 64) {X : List (List Int)} (hX : ∀ x ∈ X, GoodB x) (hl : X.length ≤ 1000) : ∀ p ∈ acP f n h l X, AcG p := by
  obtain ⟨h1, h2⟩ := acL_g (h := h) (l := l) hf hfn X ⟨[], 0, []⟩ hX ⟨fun p hp => by simp at hp, fun p hp => by simp at hp⟩ (by simp only; omega)
  exact (h1.fl h2).1
end
end Go.Proofs.Ytlhappecjjbopaa
