/-
  Reading by codes: plain laws. No condition.
-/
import Derived.Test.YtlhappecjjbopaaCaJ
namespace Go.Proofs.Ytlhappecjjbopaa
set_option linter.unusedVariables false

/-- the code of the i-th is b -/
def Hit (Z : List Int) (i : Nat) (b : List Int) : Prop := i < Z.length ∧ cb Z i = b
/-- b is a beginning of the i-th's code, not all of it -/
def Pre (Z : List Int) (i : Nat) (b : List Int) : Prop := i < Z.length ∧ b.length < (cb Z i).length ∧ (cb Z i).take b.length = b

theorem hv_inj {a b : List Int} (ha : B01 a) (hb : B01 b) (hl : a.length = b.length) (h : hv a = hv b) : a = b := by
  rw [← digs_hv ha, ← digs_hv hb, h, hl]
theorem cb_acc {Z : List Int} (hz : Zs Z) {i : Nat} (h : i < Z.length) : hv (cb Z i) * wt (Z.getD i 0) = acc Z i := by
  rw [(cb_hv hz i h).1]; exact acc_dvd hz i h
theorem cb_lenI {Z : List Int} (hz : Zs Z) {i : Nat} (h : i < Z.length) : ((cb Z i).length : Int) = Z.getD i 0 := by
  have := hz.rng _ (getD_in h)
  rw [cb_len]; omega
theorem wt_len {Z : List Int} (hz : Zs Z) {i : Nat} (h : i < Z.length) : wt (Z.getD i 0) = 2 ^ (16 - (cb Z i).length) := by
  have := hz.rng _ (getD_in h)
  rw [wt_pos (by omega), cb_len]
theorem len16 {Z : List Int} (hz : Zs Z) {i : Nat} (h : i < Z.length) : 1 ≤ (cb Z i).length ∧ (cb Z i).length ≤ 16 := by
  have := hz.rng _ (getD_in h)
  have := cb_lenI hz h; omega
/-- in numbers -/
theorem hit_iff {Z b : List Int} (hz : Zs Z) {i : Nat} (h : i < Z.length) (hb : B01 b) : Hit Z i b ↔ (cb Z i).length = b.length ∧ acc Z i = hv b * 2 ^ (16 - b.length) := by
  constructor
  · rintro ⟨_, rfl⟩
    exact ⟨rfl, by rw [← cb_acc hz h, wt_len hz h]⟩
  · rintro ⟨h1, h2⟩
    refine ⟨h, hv_inj (cb_01 Z i) hb h1 ?_⟩
    have h3 := cb_acc hz h
    rw [wt_len hz h, h1, h2] at h3
    have := two_pos (16 - b.length)
    exact Int.eq_of_mul_eq_mul_right (by omega) h3
theorem hv_take {l : List Int} (hl : B01 l) (n : Nat) (hn : n ≤ l.length) : hv (l.take n) * 2 ^ (l.length - n) ≤ hv l ∧ hv l < (hv (l.take n) + 1) * 2 ^ (l.length - n) := by
  have h1 : hv l = hv (l.take n) * 2 ^ (l.length - n) + hv (l.drop n) := by
    have := hv_app (l.take n) (l.drop n)
    rwa [List.take_append_drop, List.length_drop] at this
  have h2 := hv_bd (l := l.drop n) (fun x hx => hl x (List.mem_of_mem_drop hx))
  rw [List.length_drop] at h2
  rw [h1, Int.add_mul, Int.one_mul]; omega
theorem two_split {a b : Nat} (h : a ≤ b) : (2 : Int) ^ b = 2 ^ (b - a) * 2 ^ a := by rw [← Int.pow_add]; congr 1; omega
theorem pre_iff {Z b : List Int} (hz : Zs Z) {i : Nat} (h : i < Z.length) (hb : B01 b) : Pre Z i b ↔ b.length < (cb Z i).length ∧ hv b * 2 ^ (16 - b.length) ≤ acc Z i ∧ acc Z i < (hv b + 1) * 2 ^ (16 - b.length) := by
  have hL := len16 hz h
  have hA := cb_acc hz h
  rw [wt_len hz h] at hA
  have hW := two_pos (16 - (cb Z i).length)
  constructor
  · rintro ⟨_, h1, h2⟩
    have h3 := hv_take (cb_01 Z i) b.length (by omega)
    rw [h2] at h3
    have hs : (2 : Int) ^ (16 - b.length) = 2 ^ ((cb Z i).length - b.length) * 2 ^ (16 - (cb Z i).length) := by rw [← Int.pow_add]; congr 1; omega
    refine ⟨h1, ?_, ?_⟩
    · rw [hs, ← hA, ← Int.mul_assoc]
      exact Int.mul_le_mul_of_nonneg_right h3.1 (by omega)
    · rw [hs, ← hA, ← Int.mul_assoc]
      exact Int.mul_lt_mul_of_pos_right h3.2 (by omega)
  · rintro ⟨h1, h2, h3⟩
    refine ⟨h, h1, ?_⟩
    have h4 := hv_take (cb_01 Z i) b.length (by omega)
    have hs : (2 : Int) ^ (16 - b.length) = 2 ^ ((cb Z i).length - b.length) * 2 ^ (16 - (cb Z i).length) := by rw [← Int.pow_add]; congr 1; omega
    rw [hs, ← hA, ← Int.mul_assoc] at h2 h3
    have h5 : hv b * 2 ^ ((cb Z i).length - b.length) ≤ hv (cb Z i) := Int.le_of_mul_le_mul_right h2 (by omega)
    have h6 : hv (cb Z i) < (hv b + 1) * 2 ^ ((cb Z i).length - b.length) := Int.lt_of_mul_lt_mul_right h3 (by omega)
    have hq := two_pos ((cb Z i).length - b.length)
    refine hv_inj ((cb_01 Z i).take _) hb (by rw [List.length_take]; omega) ?_
    generalize hv ((cb Z i).take b.length) = x at *
    generalize hv b = y at *
    generalize (2 : Int) ^ ((cb Z i).length - b.length) = q at *
    rcases Int.lt_trichotomy x y with h | h | h
    · have := Int.mul_le_mul_of_nonneg_right (show x + 1 ≤ y by omega) (show 0 ≤ q by omega)
      omega
    · exact h
    · have := Int.mul_le_mul_of_nonneg_right (show y + 1 ≤ x by omega) (show 0 ≤ q by omega)
      omega
theorem floor_uniq {x y v W : Int} (hW : 1 ≤ W) (h1 : x * W ≤ v) (h2 : v < (x + 1) * W) (h3 : y * W ≤ v) (h4 : v < (y + 1) * W) : x = y := by
  rcases Int.lt_trichotomy x y with h | h | h
  · have := Int.mul_le_mul_of_nonneg_right (show x + 1 ≤ y by omega) (show 0 ≤ W by omega)
    omega
  · exact h
  · have := Int.mul_le_mul_of_nonneg_right (show y + 1 ≤ x by omega) (show 0 ≤ W by omega)
    omega
theorem tile {Z : List Int} (v : Int) (hv : 0 ≤ v) : ∀ k : Nat, v < acc Z k → ∃ j, j < k ∧ acc Z j ≤ v ∧ v < acc Z (j + 1)
  | 0, h => by have : acc Z 0 = 0 := rfl; omega
  | k + 1, h => by
    rcases Int.lt_or_le v (acc Z k) with h1 | h1
    · obtain ⟨j, hj, h2⟩ := tile v hv k h1
      exact ⟨j, by omega, h2⟩
    · exact ⟨k, by omega, h1, h⟩
theorem hv_nn {b : List Int} (h : B01 b) : 0 ≤ hv b := by have := hv_bd h; omega
theorem len_mono {Z : List Int} (hz : Zs Z) {i j : Nat} (h : i ≤ j) (hj : j < Z.length) : (cb Z i).length ≤ (cb Z j).length := by
  rcases Nat.lt_or_ge i j with h1 | h1
  · have h2 := (List.pairwise_iff_getElem.1 hz.srt) i j (by omega) hj h1
    have h3 := cb_lenI hz (show i < Z.length by omega)
    have h4 := cb_lenI hz hj
    rw [List.getD_eq_getElem?_getD, List.getElem?_eq_getElem (show i < Z.length by omega)] at h3
    rw [List.getD_eq_getElem?_getD, List.getElem?_eq_getElem hj] at h4
    simp only [Option.getD_some] at h3 h4
    omega
  · have : i = j := by omega
    rw [this]; exact Nat.le_refl _
/-- where no beginning of b is a code, b lies behind all the codes that are not longer -/
theorem behind {Z b : List Int} (hz : Zs Z) (hb : B01 b) (hn : b.length ≤ 16) (hno : ∀ m, 1 ≤ m → m ≤ b.length → ∀ i, ¬ Hit Z i (b.take m)) {k : Nat} (hk : k ≤ Z.length) (hsh : ∀ j, j < k → (cb Z j).length ≤ b.length) :
    acc Z k ≤ hv b * 2 ^ (16 - b.length) := by
  rcases Int.lt_or_le (hv b * 2 ^ (16 - b.length)) (acc Z k) with h | h
  · exfalso
    have hU := two_pos (16 - b.length)
    obtain ⟨j, hj, h1, h2⟩ := tile _ (Int.mul_nonneg (hv_nn hb) (by omega)) k h
    have hjl : j < Z.length := by omega
    rw [acc_succ Z j hjl, wt_len hz hjl] at h2
    have h3 := cb_acc hz hjl
    rw [wt_len hz hjl] at h3
    have h4 := hsh j hj
    have h5 := len16 hz hjl
    obtain ⟨m, hm⟩ : ∃ m, m = (cb Z j).length := ⟨_, rfl⟩
    rw [← hm] at h2 h3 h4 h5
    have h6 := hv_take hb m h4
    have hs : (2 : Int) ^ (16 - m) = 2 ^ (b.length - m) * 2 ^ (16 - b.length) := by rw [← Int.pow_add]; congr 1; omega
    have h7 := Int.mul_le_mul_of_nonneg_right h6.1 (show (0 : Int) ≤ 2 ^ (16 - b.length) by omega)
    have h8 := Int.mul_lt_mul_of_pos_right h6.2 (show (0 : Int) < 2 ^ (16 - b.length) by omega)
    rw [Int.mul_assoc, ← hs] at h7 h8
    have hWm := two_pos (16 - m)
    rw [← h3] at h1 h2
    have he := floor_uniq hWm h1 (by rw [Int.add_mul, Int.one_mul]; exact h2) h7 h8
    refine hno m h5.1 h4 j ((hit_iff hz hjl (hb.take m)).2 ?_)
    have htl : (b.take m).length = m := by rw [List.length_take]; omega
    rw [htl, ← hm, ← he]
    exact ⟨rfl, h3.symm⟩
  · exact h
theorem least {Z : List Int} (hz : Zs Z) (v : Int) : ∀ L : Nat, v ≤ acc Z L → ∃ i, i ≤ L ∧ v ≤ acc Z i ∧ ∀ j, j < i → acc Z j < v
  | 0, h => ⟨0, Nat.le_refl _, h, fun j hj => by omega⟩
  | L + 1, h => by
    rcases Int.lt_or_le (acc Z L) v with h1 | h1
    · refine ⟨L + 1, Nat.le_refl _, h, fun j hj => ?_⟩
      have := acc_mono hz (show j ≤ L by omega)
      omega
    · obtain ⟨i, hi, h2⟩ := least hz v L h1
      exact ⟨i, by omega, h2⟩
/-- a longer code begins with b: iff b is not beyond the last one -/
theorem beyond_iff {Z b : List Int} (hz : Zs Z) (hb : B01 b) (hn : b.length ≤ 16) (hno : ∀ m, 1 ≤ m → m ≤ b.length → ∀ i, ¬ Hit Z i (b.take m)) {L : Nat} (hL : L + 1 = Z.length) :
    (∃ i, Pre Z i b) ↔ b.length < (cb Z L).length ∧ hv b * 2 ^ (16 - b.length) ≤ acc Z L := by
  have hU := two_pos (16 - b.length)
  constructor
  · rintro ⟨i, hp⟩
    have hi := hp.1
    obtain ⟨h1, h2, h3⟩ := (pre_iff hz hi hb).1 hp
    have h4 := len_mono hz (show i ≤ L by omega) (show L < Z.length by omega)
    have h5 := acc_mono hz (show i ≤ L by omega)
    exact ⟨by omega, by omega⟩
  · rintro ⟨h1, h2⟩
    obtain ⟨i, hi, h3, h4⟩ := least hz _ L h2
    have hil : i < Z.length := by omega
    have hlen : b.length < (cb Z i).length := by
      rcases Nat.lt_or_ge b.length (cb Z i).length with h | h
      · exact h
      · exfalso
        have h5 := behind hz hb hn hno (k := i + 1) (by omega) (fun j hj => Nat.le_trans (len_mono hz (show j ≤ i by omega) hil) h)
        rw [acc_succ Z i hil, wt_len hz hil] at h5
        have := two_pos (16 - (cb Z i).length)
        omega
    refine ⟨i, (pre_iff hz hil hb).2 ⟨hlen, h3, ?_⟩⟩
    rw [Int.add_mul, Int.one_mul]
    rcases Nat.eq_zero_or_pos i with h0 | h0
    · subst h0
      have h5 : acc Z 0 = 0 := rfl
      have := Int.mul_nonneg (hv_nn hb) (show (0 : Int) ≤ 2 ^ (16 - b.length) by omega)
      omega
    · obtain ⟨j, rfl⟩ : ∃ j, i = j + 1 := ⟨i - 1, by omega⟩
      have h5 := h4 j (by omega)
      have hjl : j < Z.length := by omega
      rcases Nat.lt_or_ge b.length (cb Z j).length with h | h
      · rw [acc_succ Z j hjl, wt_len hz hjl]
        have h6 := two_split (a := 16 - (cb Z j).length) (b := 16 - b.length) (by omega)
        have h7 := two_pos (16 - b.length - (16 - (cb Z j).length))
        have h8 := two_pos (16 - (cb Z j).length)
        have h9 := Int.mul_le_mul_of_nonneg_right h7 (show (0 : Int) ≤ 2 ^ (16 - (cb Z j).length) by omega)
        rw [← h6, Int.one_mul] at h9
        omega
      · have h6 := behind hz hb hn hno (k := j + 1) (by omega) (fun j' hj' => Nat.le_trans (len_mono hz (show j' ≤ j by omega) hjl) h)
        omega
end Go.Proofs.Ytlhappecjjbopaa
