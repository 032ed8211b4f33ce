/-
  FilterAll, the plain law: rows that are filtered by any kinds come back. No program.
-/
import Derived.Test.YtimfpkoofgglkaaFlBack
import Derived.Test.YtimfpkoofgglkaaFlU
namespace Go.Proofs.Ytimfpkoofgglkaa
open Go.RowKit
set_option linter.unusedVariables false

/-- the i-th row; the one ahead of it; the kind that it is filtered by; what it comes to; what the first rows come to -/
def rowI (s : Nat) (R : List Int) (i : Nat) : List Int := (R.drop (i * s)).take s
def ahdI (s : Nat) (R : List Int) : Nat → List Int
  | 0 => []
  | i + 1 => rowI s R i
def kdI (s : Nat) (p : Int) (R K : List Int) (i : Nat) : Int := if K.getD i 0 < 0 then lightT p (rowI s R i) (ahdI s R i) 4 else K.getD i 0
def pieceI (s : Nat) (p : Int) (R K : List Int) (i : Nat) : List Int := kdI s p R K i :: fil (kdI s p R K i) p (rowI s R i) (ahdI s R i)
def rolT (s : Nat) (p : Int) (R K : List Int) : Nat → List Int
  | 0 => []
  | n + 1 => rolT s p R K n ++ pieceI s p R K n
/-- may the rows be filtered so? -/
def KOk (K : List Int) : Prop := ∀ x ∈ K, -1 ≤ x ∧ x ≤ 4
instance (K : List Int) : Decidable (KOk K) := by unfold KOk; infer_instance
section
variable {s n : Nat} {p : Int} {R K : List Int}
theorem rowI_len (h : R.length = n * s) {i : Nat} (hi : i < n) : (rowI s R i).length = s := by
  unfold rowI
  rw [List.length_take, List.length_drop, h]
  have h1 : (i + 1) * s ≤ n * s := Nat.mul_le_mul_right _ hi
  rw [Nat.succ_mul] at h1
  omega
theorem rowI_bs (h : Bs R) (i : Nat) : Bs (rowI s R i) := fun x hx => h x (List.mem_of_mem_drop (List.mem_of_mem_take hx))
theorem ahdI_len (h : R.length = n * s) {i : Nat} (hi : i ≤ n) : (ahdI s R i).length = 0 ∨ (ahdI s R i).length = s := by
  match i, hi with
  | 0, _ => exact .inl rfl
  | i + 1, hi => exact .inr (rowI_len h hi)
theorem ahdI_bs (h : Bs R) (i : Nat) : Bs (ahdI s R i) := by
  match i with
  | 0 => intro x hx; simp [ahdI] at hx
  | i + 1 => exact rowI_bs h i
theorem kdI_bd (hK : KOk K) (i : Nat) : 0 ≤ kdI s p R K i ∧ kdI s p R K i ≤ 4 := by
  have h := lightT_bd p (rowI s R i) (ahdI s R i) 4
  unfold kdI
  split
  · omega
  · by_cases hi : i < K.length
    · have hm : K.getD i 0 ∈ K := by rw [List.getD_eq_getElem?_getD, List.getElem?_eq_getElem hi]; exact List.getElem_mem _
      have := hK _ hm
      omega
    · rw [List.getD_eq_getElem?_getD, List.getElem?_eq_none (by omega)]; decide
theorem pieceI_len (h : R.length = n * s) {i : Nat} (hi : i < n) : (pieceI s p R K i).length = s + 1 := by
  unfold pieceI
  rw [List.length_cons, fil_len, rowI_len h hi]
theorem pieceI_bs (hK : KOk K) (i : Nat) : Bs (pieceI s p R K i) := by
  intro x hx
  rcases List.mem_cons.1 hx with rfl | hx
  · have := kdI_bd (s := s) (p := p) (R := R) hK i; omega
  · exact fil_bs _ _ _ _ x hx
theorem rolT_len (h : R.length = n * s) : ∀ {m : Nat}, m ≤ n → (rolT s p R K m).length = m * (s + 1)
  | 0, _ => by simp [rolT]
  | m + 1, hm => by
    rw [rolT, List.length_append, rolT_len h (by omega), pieceI_len h (by omega), Nat.succ_mul m]
theorem rolT_bs (hK : KOk K) : ∀ m : Nat, Bs (rolT s p R K m)
  | 0 => fun x hx => by simp [rolT] at hx
  | m + 1 => fun x hx => by
    rw [rolT] at hx
    rcases List.mem_append.1 hx with hx | hx
    · exact rolT_bs hK m x hx
    · exact pieceI_bs hK m x hx
theorem rolT_pre : ∀ (m j : Nat), j ≤ m → ∃ X, rolT s p R K m = rolT s p R K j ++ X
  | 0, j, hj => ⟨[], by rw [show j = 0 by omega]; simp⟩
  | m + 1, j, hj => by
    by_cases h : j = m + 1
    · exact ⟨[], by rw [h]; simp⟩
    · obtain ⟨X, hX⟩ := rolT_pre m j (by omega)
      exact ⟨X ++ pieceI s p R K m, by rw [rolT, hX, List.append_assoc]⟩
theorem rolT_drop (h : R.length = n * s) {j : Nat} (hj : j < n) :
    (rolT s p R K n).drop (j * (s + 1)) = pieceI s p R K j ++ (rolT s p R K n).drop ((j + 1) * (s + 1)) := by
  obtain ⟨X, hX⟩ := rolT_pre (s := s) (p := p) (R := R) (K := K) n (j + 1) hj
  have h1 : (rolT s p R K j).length = j * (s + 1) := rolT_len h (by omega)
  have h2 : (rolT s p R K (j + 1)).length = (j + 1) * (s + 1) := rolT_len h hj
  have e1 : (rolT s p R K n).drop ((j + 1) * (s + 1)) = X := by rw [hX, ← h2, List.drop_left]
  rw [e1, hX, rolT, List.append_assoc, ← h1, List.drop_left]
theorem rolT_at (h : R.length = n * s) {j : Nat} (hj : j < n) : (rolT s p R K n).getD (j * (s + 1)) 0 = kdI s p R K j := by
  have h1 := congrArg (fun l => l[0]?) (rolT_drop (p := p) (K := K) h hj)
  simp only [List.getElem?_drop, Nat.add_zero] at h1
  rw [List.getD_eq_getElem?_getD, h1, pieceI]
  rfl
theorem rolT_size (h : R.length = n * s) : (rolT s p R K n).length = R.length + n := by rw [rolT_len h (Nat.le_refl n), h, Nat.mul_succ]
theorem rolT_lt (h : R.length = n * s) {j : Nat} (hj : j < n) : j * (s + 1) < R.length + n := by
  have h1 : (j + 1) * (s + 1) ≤ n * (s + 1) := Nat.mul_le_mul_right _ hj
  rw [Nat.succ_mul, Nat.mul_succ n] at h1
  omega
theorem unr_rol (hp : 1 ≤ p) (h : R.length = n * s) (hB : Bs R) (hK : KOk K) : ∀ (q j : Nat), j + q = n → unr s p q ((rolT s p R K n).drop (j * (s + 1))) (ahdI s R j) (R.take (j * s)) = (R, 0)
  | 0, j, hj => by
    obtain rfl : j = n := by omega
    have h1 : (rolT s p R K j).length = j * (s + 1) := rolT_len h (by omega)
    have h2 : (rolT s p R K j).drop (j * (s + 1)) = [] := List.drop_of_length_le (by omega)
    rw [h2, unr, if_neg (by simp), List.take_of_length_le (by omega)]
  | q + 1, j, hj => by
    have hlt : j < n := by omega
    have hd := rolT_drop (p := p) (K := K) h hlt
    have hpl : (pieceI s p R K j).length = s + 1 := pieceI_len h hlt
    have hk := kdI_bd (s := s) (p := p) (R := R) hK j
    have hfl : (fil (kdI s p R K j) p (rowI s R j) (ahdI s R j)).length = s := by rw [fil_len, rowI_len h hlt]
    rw [hd, unr, if_neg (by rw [List.length_append, hpl]; omega)]
    have h0 : (pieceI s p R K j ++ (rolT s p R K n).drop ((j + 1) * (s + 1))).getD 0 0 = kdI s p R K j := by rw [pieceI]; rfl
    have h1 : ((pieceI s p R K j ++ (rolT s p R K n).drop ((j + 1) * (s + 1))).drop 1).take s = fil (kdI s p R K j) p (rowI s R j) (ahdI s R j) := by
      rw [pieceI, List.cons_append, List.drop_succ_cons, List.drop_zero]
      have := List.take_left (l₁ := fil (kdI s p R K j) p (rowI s R j) (ahdI s R j)) (l₂ := (rolT s p R K n).drop ((j + 1) * (s + 1)))
      rwa [hfl] at this
    have h2 : (pieceI s p R K j ++ (rolT s p R K n).drop ((j + 1) * (s + 1))).drop (1 + s) = (rolT s p R K n).drop ((j + 1) * (s + 1)) := by
      rw [Nat.add_comm, ← hpl, List.drop_left]
    rw [h0, h1, h2, if_neg (by omega), unf_fil hp (rowI_bs hB j)]
    have h3 : R.take (j * s) ++ rowI s R j = R.take ((j + 1) * s) := by
      rw [Nat.succ_mul, List.take_add]; rfl
    rw [h3]
    exact unr_rol hp h hB hK q (j + 1) (by omega)
theorem unroll_rol (hp : 1 ≤ p ∧ p ≤ 8) (hs : 1 ≤ s ∧ s ≤ 1048576) (hn : 1 ≤ n ∧ n ≤ 1048576) (h : R.length = n * s) (hB : Bs R) (hK : KOk K) : unroll (rolT s p R K n) s n p = (R, 0) := by
  have h1 := unr_rol hp.1 h hB hK n 0 (by omega)
  unfold unroll
  rw [if_neg (by unfold BadU; omega), Int.toNat_natCast, Int.toNat_natCast]
  simpa [ahdI] using h1
end
end Go.Proofs.Ytimfpkoofgglkaa
