/-
  Prog: which pieces a band of blocks has, as functions. No program.
-/
import Derived.Test.YtlhappecjjbopaaPrD
namespace Go.Proofs.Ytlhappecjjbopaa
open Go.RowKit
set_option linter.unusedVariables false

/-- what the i-th number of a band that begins at f tells from bit l on -/
def tn (x : List Int) (f : Nat) (l : Int) (i : Nat) : Int := tl (x.getD (zzN (f + i)) 0) l false
/-- a first band: the pen and the noughts behind i numbers -/
def fsN (x : List Int) (f : Nat) (l : Int) (s : Pen) : Nat → Pen × Nat
  | 0 => (s, 0)
  | i + 1 => if tn x f l i = 0 then ((fsN x f l s i).1, (fsN x f l s i).2 + 1)
    else ((fsN x f l s i).1.fl.put (List.replicate ((fsN x f l s i).2 / 16) skipP ++ [numP true (tn x f l i) ((fsN x f l s i).2 % 16)]), 0)
def fsB (x : List Int) (f n : Nat) (l : Int) (s : Pen) : Pen := if 0 < (fsN x f l s n).2 then (fsN x f l s n).1.end_ [] else (fsN x f l s n).1
/-- the place behind the last number that is new -/
def nwst (x : List Int) (f : Nat) (l : Int) : Nat → Int
  | 0 => -1
  | i + 1 => if tn x f l i = 1 ∨ tn x f l i = -1 then (i : Int) else nwst x f l i
def bitP (n : Int) : Pc := (true, -1, ((n.natAbs % 2 : Nat) : Int), 1)
def onP (n : Int) (k : Nat) : Pc := (true, 16 * (k : Int) + 1, (if n = 1 then 1 else 0), 1)
/-- a finer band: the pen, the noughts, the bits of known numbers behind i numbers -/
def fiN (x : List Int) (f : Nat) (l nw : Int) (s : Pen) : Nat → Pen × Nat × List Pc
  | 0 => (s, 0, [])
  | i + 1 => if tn x f l i = 0 then
      if (fiN x f l nw s i).2.1 = 15 ∧ (i : Int) < nw then ((fiN x f l nw s i).1.fl.put (skipP :: (fiN x f l nw s i).2.2), 0, [])
      else ((fiN x f l nw s i).1, (fiN x f l nw s i).2.1 + 1, (fiN x f l nw s i).2.2)
    else if tn x f l i = 1 ∨ tn x f l i = -1 then ((fiN x f l nw s i).1.fl.put (onP (tn x f l i) (fiN x f l nw s i).2.1 :: (fiN x f l nw s i).2.2), 0, [])
    else ((fiN x f l nw s i).1, (fiN x f l nw s i).2.1, (fiN x f l nw s i).2.2 ++ [bitP (tn x f l i)])
def fiE (r : Pen × Nat × List Pc) : Pen := if 0 < r.2.1 ∨ 0 < r.2.2.length then r.1.end_ r.2.2 else r.1
def fiB (x : List Int) (f n : Nat) (l : Int) (s : Pen) : Pen := fiE (fiN x f l (nwst x f l n) s n)
/-- a block of a band -/
def acB (f n : Nat) (h l : Int) (s : Pen) (x : List Int) : Pen := if 0 < h then fiB x f n l s else fsB x f n l s
def acL (f n : Nat) (h l : Int) (G : List (List Int)) (s : Pen) : Pen := G.foldl (acB f n h l) s
def acP (f n : Nat) (h l : Int) (G : List (List Int)) : List Pc := (acL f n h l G ⟨[], 0, []⟩).fl.out

theorem fl_len (s : Pen) : s.fl.len ≤ s.len + 1 := by
  unfold Pen.fl Pen.len Pen.eob
  simp only [List.length_append, List.length_nil]
  split <;> simp <;> omega
theorem fl_ends (s : Pen) : s.fl.ends = 0 := rfl
theorem put_len (s : Pen) (l : List Pc) : (s.put l).len = s.len + l.length := by
  unfold Pen.put Pen.len; simp only [List.length_append]; omega
theorem end_len (s : Pen) (l : List Pc) : (s.end_ l).len = s.len + l.length := by
  unfold Pen.end_ Pen.len; simp only [List.length_append]; omega
theorem fsN_bd (x : List Int) (f : Nat) (l : Int) (s : Pen) : ∀ i, (fsN x f l s i).1.len + (fsN x f l s i).2 ≤ s.len + 3 * i ∧ (fsN x f l s i).1.ends ≤ s.ends ∧ (fsN x f l s i).2 ≤ i
  | 0 => ⟨Nat.le_refl _, Nat.le_refl _, Nat.le_refl _⟩
  | i + 1 => by
    have ih := fsN_bd x f l s i
    rw [fsN]
    split
    · dsimp only; omega
    · dsimp only
      rw [put_len, List.length_append, List.length_replicate]
      have := fl_len (fsN x f l s i).1
      refine ⟨?_, Nat.zero_le _, Nat.zero_le _⟩
      simp only [List.length_cons, List.length_nil]
      omega
theorem fsB_bd (x : List Int) (f n : Nat) (l : Int) (s : Pen) : (fsB x f n l s).len ≤ s.len + 3 * n ∧ (fsB x f n l s).ends ≤ s.ends + 1 := by
  have h := fsN_bd x f l s n
  unfold fsB
  split
  · rw [end_len]; unfold Pen.end_; simp only [List.length_nil]; omega
  · omega
theorem fiN_bd (x : List Int) (f : Nat) (l nw : Int) (s : Pen) : ∀ i, (fiN x f l nw s i).1.len + (fiN x f l nw s i).2.2.length ≤ s.len + 3 * i ∧ (fiN x f l nw s i).1.ends ≤ s.ends ∧ (fiN x f l nw s i).2.1 ≤ i ∧ (fiN x f l nw s i).2.2.length ≤ i
  | 0 => ⟨Nat.le_refl _, Nat.le_refl _, Nat.le_refl _, Nat.le_refl _⟩
  | i + 1 => by
    have ih := fiN_bd x f l nw s i
    have h1 := fl_len (fiN x f l nw s i).1
    rw [fiN]
    split
    · split
      · dsimp only
        rw [put_len]
        refine ⟨?_, Nat.zero_le _, Nat.zero_le _, Nat.zero_le _⟩
        simp only [List.length_cons, List.length_nil]; omega
      · dsimp only; omega
    · split
      · dsimp only
        rw [put_len]
        refine ⟨?_, Nat.zero_le _, Nat.zero_le _, Nat.zero_le _⟩
        simp only [List.length_cons, List.length_nil]; omega
      · dsimp only
        rw [List.length_append]; simp only [List.length_cons, List.length_nil]; omega
theorem fiB_bd (x : List Int) (f n : Nat) (l : Int) (s : Pen) : (fiB x f n l s).len ≤ s.len + 3 * n ∧ (fiB x f n l s).ends ≤ s.ends + 1 := by
  have h := fiN_bd x f l (nwst x f l n) s n
  unfold fiB fiE
  split
  · rw [end_len]; unfold Pen.end_; simp only; omega
  · omega
theorem acB_bd (f n : Nat) (h l : Int) (s : Pen) (x : List Int) : (acB f n h l s x).len ≤ s.len + 3 * n ∧ (acB f n h l s x).ends ≤ s.ends + 1 := by
  unfold acB
  split
  · exact fiB_bd x f n l s
  · exact fsB_bd x f n l s
theorem acL_bd (f n : Nat) (h l : Int) : ∀ (G : List (List Int)) (s : Pen), (acL f n h l G s).len ≤ s.len + 3 * n * G.length ∧ (acL f n h l G s).ends ≤ s.ends + G.length
  | [], s => ⟨Nat.le_refl _, Nat.le_refl _⟩
  | x :: G, s => by
    have h1 := acB_bd f n h l s x
    have h2 := acL_bd f n h l G (acB f n h l s x)
    show (acL f n h l G (acB f n h l s x)).len ≤ _ ∧ (acL f n h l G (acB f n h l s x)).ends ≤ _
    rw [List.length_cons, Nat.mul_succ]
    omega
theorem acL_snoc (f n : Nat) (h l : Int) (G : List (List Int)) (x : List Int) (s : Pen) : acL f n h l (G ++ [x]) s = acB f n h l (acL f n h l G s) x := by
  unfold acL; rw [List.foldl_append]; rfl
theorem tn_zero {x : List Int} {f i : Nat} {l : Int} {nz : Nat} {s s' : Pen} (h : fsN x f l s i = (s', nz)) (h0 : tn x f l i = 0) : fsN x f l s (i + 1) = (s', nz + 1) := by
  rw [fsN, if_pos h0, h]
theorem tn_num {x : List Int} {f i : Nat} {l : Int} {nz : Nat} {s s' : Pen} (h : fsN x f l s i = (s', nz)) (h0 : tn x f l i ≠ 0) : fsN x f l s (i + 1) = (s'.fl.put (List.replicate (nz / 16) skipP ++ [numP true (tn x f l i) (nz % 16)]), 0) := by
  rw [fsN, if_neg h0, h]
theorem fi_skip {x : List Int} {f i : Nat} {l nw : Int} {s s' : Pen} {hd : List Pc} (h : fiN x f l nw s i = (s', 15, hd)) (h0 : tn x f l i = 0) (h1 : (i : Int) < nw) : fiN x f l nw s (i + 1) = (s'.fl.put (skipP :: hd), 0, []) := by
  rw [fiN, if_pos h0, h, if_pos ⟨rfl, h1⟩]
theorem fi_zero {x : List Int} {f i nz : Nat} {l nw : Int} {s s' : Pen} {hd : List Pc} (h : fiN x f l nw s i = (s', nz, hd)) (h0 : tn x f l i = 0) (h1 : ¬ (nz = 15 ∧ (i : Int) < nw)) : fiN x f l nw s (i + 1) = (s', nz + 1, hd) := by
  rw [fiN, if_pos h0, h, if_neg h1]
theorem fi_on {x : List Int} {f i nz : Nat} {l nw : Int} {s s' : Pen} {hd : List Pc} (h : fiN x f l nw s i = (s', nz, hd)) (h1 : tn x f l i = 1 ∨ tn x f l i = -1) : fiN x f l nw s (i + 1) = (s'.fl.put (onP (tn x f l i) nz :: hd), 0, []) := by
  rw [fiN, if_neg (by omega), h, if_pos h1]
theorem fi_bit {x : List Int} {f i nz : Nat} {l nw : Int} {s s' : Pen} {hd : List Pc} (h : fiN x f l nw s i = (s', nz, hd)) (h0 : tn x f l i ≠ 0) (h1 : ¬ (tn x f l i = 1 ∨ tn x f l i = -1)) : fiN x f l nw s (i + 1) = (s', nz, hd ++ [bitP (tn x f l i)]) := by
  rw [fiN, if_neg h0, h, if_neg h1]
end Go.Proofs.Ytlhappecjjbopaa
