/-
  Reading by codes: what a reading comes to; plain. No condition.
-/
import Derived.Test.YtlhappecjjbopaaCaL
namespace Go.Proofs.Ytlhappecjjbopaa
set_option linter.unusedVariables false

/-- so many bits are read, and no code is found yet -/
def Cont (Z l : List Int) (n : Nat) : Prop := ∀ k, 1 ≤ k → k ≤ n → k ≤ l.length ∧ (∀ i, ¬ Hit Z i (l.take k)) ∧ ∃ i, Pre Z i (l.take k)
theorem Cont.zero (Z l : List Int) : Cont Z l 0 := fun k h1 h2 => by omega
theorem Cont.succ {Z l : List Int} {n : Nat} (h : Cont Z l n) (hn : n < l.length) (h1 : ∀ i, ¬ Hit Z i (l.take (n + 1))) (h2 : ∃ i, Pre Z i (l.take (n + 1))) : Cont Z l (n + 1) := fun k k1 k2 => by
  rcases Nat.lt_or_ge n k with hk | hk
  · obtain rfl : k = n + 1 := by omega
    exact ⟨by omega, h1, h2⟩
  · exact h k k1 hk
/-- symbol, bits, error of a reading -/
def RdS (syms Z l : List Int) (sym : Int) (n : Nat) (err : Int) : Prop :=
  (Z = [] ∧ sym = 0 ∧ n = 0 ∧ err = 2) ∨
  (Z ≠ [] ∧ ∃ k, Cont Z l k ∧ ((k = l.length ∧ sym = 0 ∧ n = k ∧ err = 8) ∨
    (k < l.length ∧ ((∃ i, Hit Z i (l.take (k + 1)) ∧ sym = syms.getD i 0 ∧ n = k + 1 ∧ err = 0) ∨
      ((∀ i, ¬ Hit Z i (l.take (k + 1))) ∧ (∀ i, ¬ Pre Z i (l.take (k + 1))) ∧ sym = 0 ∧ n = k + 1 ∧ err = 2)))))
theorem acc_inj {Z : List Int} (hz : Zs Z) {i j : Nat} (hi : i < Z.length) (hj : j < Z.length) (h : acc Z i = acc Z j) : i = j := by
  have key : ∀ a b : Nat, a < Z.length → a < b → acc Z a < acc Z b := fun a b ha hab => by
    have h1 := acc_succ Z a ha
    have h2 := acc_mono hz (show a + 1 ≤ b by omega)
    rw [wt_len hz ha] at h1
    have := two_pos (16 - (cb Z a).length)
    omega
  rcases Nat.lt_trichotomy i j with h1 | h1 | h1
  · have := key i j hi h1; omega
  · exact h1
  · have := key j i hj h1; omega
theorem hit_uniq {Z b : List Int} (hz : Zs Z) (hb : B01 b) {i j : Nat} (hi : Hit Z i b) (hj : Hit Z j b) : i = j := by
  have h1 := ((hit_iff hz hi.1 hb).1 hi).2
  have h2 := ((hit_iff hz hj.1 hb).1 hj).2
  exact acc_inj hz hi.1 hj.1 (h1.trans h2.symm)
theorem RdS.uniq {syms Z l : List Int} (hz : Zs Z) (hl : B01 l) {s s' : Int} {n n' : Nat} {e e' : Int} (h : RdS syms Z l s n e) (h' : RdS syms Z l s' n' e') : s = s' ∧ n = n' ∧ e = e' := by
  rcases h with ⟨h0, h1, h2, h3⟩ | ⟨h0, k, hc, h⟩
  · rcases h' with ⟨_, h1', h2', h3'⟩ | ⟨h0', _⟩
    · exact ⟨h1.trans h1'.symm, h2.trans h2'.symm, h3.trans h3'.symm⟩
    · exact absurd h0 h0'
  · rcases h' with ⟨h0', _⟩ | ⟨_, k', hc', h'⟩
    · exact absurd h0' h0
    · have hk : k = k' := by
        rcases Nat.lt_trichotomy k k' with h1 | h1 | h1
        · exfalso
          obtain ⟨a, b, c⟩ := hc' (k + 1) (by omega) (by omega)
          rcases h with ⟨h2, _⟩ | ⟨h2, ⟨i, hi, _⟩ | ⟨_, hp, _⟩⟩
          · omega
          · exact b i hi
          · obtain ⟨i, hi⟩ := c; exact hp i hi
        · exact h1
        · exfalso
          obtain ⟨a, b, c⟩ := hc (k' + 1) (by omega) (by omega)
          rcases h' with ⟨h2, _⟩ | ⟨h2, ⟨i, hi, _⟩ | ⟨_, hp, _⟩⟩
          · omega
          · exact b i hi
          · obtain ⟨i, hi⟩ := c; exact hp i hi
      subst hk
      rcases h with ⟨h1, h2, h3, h4⟩ | ⟨h1, ⟨i, hi, h2, h3, h4⟩ | ⟨hh, hp, h2, h3, h4⟩⟩
      · rcases h' with ⟨_, h2', h3', h4'⟩ | ⟨h1', _⟩
        · exact ⟨h2.trans h2'.symm, h3.trans h3'.symm, h4.trans h4'.symm⟩
        · omega
      · rcases h' with ⟨h1', _⟩ | ⟨_, ⟨j, hj, h2', h3', h4'⟩ | ⟨hh', _⟩⟩
        · omega
        · have := hit_uniq hz (hl.take _) hi hj
          subst this
          exact ⟨h2.trans h2'.symm, h3.trans h3'.symm, h4.trans h4'.symm⟩
        · exact absurd hi (hh' i)
      · rcases h' with ⟨h1', _⟩ | ⟨_, ⟨j, hj, _⟩ | ⟨_, _, h2', h3', h4'⟩⟩
        · omega
        · exact absurd hj (hh j)
        · exact ⟨h2.trans h2'.symm, h3.trans h3'.symm, h4.trans h4'.symm⟩
end Go.Proofs.Ytlhappecjjbopaa
