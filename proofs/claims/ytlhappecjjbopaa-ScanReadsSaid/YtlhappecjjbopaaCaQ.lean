/-
  Reading by a book: plain laws of a book in the order of its codes. No condition.
-/
import Derived.Test.YtlhappecjjbopaaCaO
namespace Go.Proofs.Ytlhappecjjbopaa
set_option linter.unusedVariables false

/-- an order by lengths, and each one's code -/
structure Ordd (ls : List Int) (O : List Nat) (C : List Int) : Prop where
  zs : Zs (sz ls O)
  srt : O.Pairwise fun a b => ls.getD a 0 ≤ ls.getD b 0
  mem : ∀ s ∈ O, s < ls.length ∧ 1 ≤ ls.getD s 0 ∧ ls.getD s 0 ≤ 16
  cod : ∀ i s, O[i]? = some s → C.getD s 0 = hv (cb (sz ls O) i)
  len : O.length ≤ 512
  lls : ls.length ≤ 512
  cln : C.length = ls.length
  bd : ∀ s, 0 ≤ C.getD s 0 ∧ C.getD s 0 ≤ 65536
theorem filter_two {α : Type} (p q r : α → Bool) : ∀ L : List α, (∀ x ∈ L, r x = (p x || q x) ∧ (p x && q x) = false) → (L.filter r).length = (L.filter p).length + (L.filter q).length
  | [], _ => rfl
  | x :: L, h => by
    have ih := filter_two p q r L (fun y hy => h y (by simp [hy]))
    obtain ⟨h1, h2⟩ := h x (by simp)
    simp only [List.filter_cons, h1]
    cases hp : p x <;> cases hq : q x <;> simp [hp, hq] at h2 ⊢ <;> omega
theorem ordU_cnt (ls : List Int) : ∀ m : Nat, (ordU ls m).length = ((List.range ls.length).filter fun s => decide (1 ≤ ls.getD s 0 ∧ ls.getD s 0 ≤ (m : Int))).length
  | 0 => by
    have : (List.range ls.length).filter (fun s => decide (1 ≤ ls.getD s 0 ∧ ls.getD s 0 ≤ ((0 : Nat) : Int))) = [] := List.filter_eq_nil_iff.2 (fun s _ => by simp only [decide_eq_true_eq]; omega)
    rw [this]; rfl
  | m + 1 => by
    rw [ordU_succ, List.length_append, ordU_cnt ls m]
    symm
    refine filter_two _ _ _ _ (fun s _ => ?_)
    constructor
    · rw [Bool.eq_iff_iff]; simp only [Bool.or_eq_true, decide_eq_true_eq]; omega
    · rw [Bool.eq_false_iff]; simp only [ne_eq, Bool.and_eq_true, decide_eq_true_eq]; omega
theorem ordU_le {ls : List Int} (hl : ls.length ≤ 512) : (ordU ls 16).length ≤ 512 := by
  rw [ordU_cnt]
  have := List.length_filter_le (fun s => decide (1 ≤ ls.getD s 0 ∧ ls.getD s 0 ≤ ((16 : Nat) : Int))) (List.range ls.length)
  rw [List.length_range] at this
  omega
theorem ordd_U {ls C : List Int} (hf : Fm ls) (hc : Cd ls C) : Ordd ls (ordU ls 16) C where
  zs := zs_ord hf
  srt := (ordU_sorted ls 16).imp (fun h => h.2)
  mem := fun s hs => by have := ordU_mem.1 hs; exact ⟨this.1, this.2.1, by simpa using this.2.2⟩
  cod := fun i s h => (hv_cd hf hc h).symm
  len := ordU_le hf.1
  lls := hf.1
  cln := hc.1
  bd := cd_bd hf hc
section
variable {ls : List Int} {O : List Nat} {C : List Int}
theorem Ordd.lenZ (h : Ordd ls O C) {i s : Nat} (hi : O[i]? = some s) : i < (sz ls O).length ∧ ((cb (sz ls O) i).length : Int) = ls.getD s 0 := by
  have h1 : i < (sz ls O).length := by rw [sz_len]; exact (List.getElem?_eq_some_iff.1 hi).1
  exact ⟨h1, by rw [cb_lenI h.zs h1, sz_at hi]⟩
/-- the last one's length is no less than any -/
theorem Ordd.last (h : Ordd ls O C) {L s : Nat} (hL : O.length = L + 1) (hs : O[L]? = some s) {i : Nat} {b : List Int} (hp : Pre (sz ls O) i b) : (b.length : Int) < ls.getD s 0 := by
  have h1 := h.lenZ hs
  have h2 := len_mono h.zs (show i ≤ L by have := hp.1; rw [sz_len] at this; omega) h1.1
  have h3 := hp.2.1
  omega
theorem Ordd.beyond (h : Ordd ls O C) {L s l : Nat} (hL : O.length = L + 1) (hs : O[L]? = some s) (hl : ls.getD s 0 = (l : Int)) {b : List Int} (hb : B01 b) (hnl : b.length ≤ l) (hno : ∀ m, 1 ≤ m → m ≤ b.length → ∀ i, ¬ Hit (sz ls O) i (b.take m)) :
    (C.getD s 0 / 2 ^ (l - b.length) < hv b) ↔ ¬ ∃ i, Pre (sz ls O) i b := by
  have h1 := h.lenZ hs
  have hl16 : 1 ≤ l ∧ l ≤ 16 := by have := h.mem s (List.mem_of_getElem? hs); omega
  have hlen : (cb (sz ls O) L).length = l := by have := h1.2; omega
  have hA := cb_acc h.zs h1.1
  rw [wt_len h.zs h1.1, hlen, ← h.cod L s hs] at hA
  have hW := two_pos (16 - l)
  have hP := two_pos (l - b.length)
  rw [beyond_iff h.zs hb (by omega) hno (L := L) (by rw [sz_len, hL]), hlen, ← hA]
  have hsp : (2 : Int) ^ (16 - b.length) = 2 ^ (l - b.length) * 2 ^ (16 - l) := by rw [← Int.pow_add]; congr 1; omega
  rw [hsp, ← Int.mul_assoc]
  by_cases hlt : b.length < l
  · constructor
    · rintro h2 ⟨_, h3⟩
      have h4 := Int.le_of_mul_le_mul_right h3 (by omega)
      have h5 := (Int.le_ediv_iff_mul_le (show (0 : Int) < 2 ^ (l - b.length) by omega)).2 h4
      omega
    · intro h2
      refine Int.lt_of_not_ge fun h3 => h2 ⟨hlt, ?_⟩
      exact Int.mul_le_mul_of_nonneg_right ((Int.le_ediv_iff_mul_le (show (0 : Int) < 2 ^ (l - b.length) by omega)).1 h3) (by omega)
  · have he : b.length = l := by omega
    refine ⟨fun _ h2 => hlt h2.1, fun _ => ?_⟩
    have h2 := behind h.zs hb (by omega) hno (k := L + 1) (by rw [sz_len, hL]; exact Nat.le_refl _) (fun j hj => by
      have := len_mono h.zs (show j ≤ L by omega) h1.1
      omega)
    rw [acc_succ _ _ h1.1, wt_len h.zs h1.1, hlen, ← hA, he] at h2
    have h3 : (C.getD s 0 + 1) * 2 ^ (16 - l) ≤ hv b * 2 ^ (16 - l) := by rw [Int.add_mul, Int.one_mul]; exact h2
    have h4 := Int.le_of_mul_le_mul_right h3 (by omega)
    rw [he, Nat.sub_self, Int.pow_zero, Int.ediv_one]
    omega
/-- the first code of a row -/
theorem Ordd.first (h : Ordd ls O C) {n : Nat} {x : Int} (hx : ∀ s, (pj ls O n)[0]? = some s → x = C.getD s 0) : ∀ s, (pj ls O n)[0]? = some s → x = hv (cb (sz ls O) (lt_ ls O n).length) := fun s hs => by
  have h1 := row_at h.srt n 0 (List.getElem?_eq_some_iff.1 hs).1
  rw [hs, Nat.add_zero] at h1
  rw [hx s hs, h.cod _ s h1]
theorem Ordd.none16 (h : Ordd ls O C) {i : Nat} {b : List Int} (hb : 16 ≤ b.length) : ¬ Pre (sz ls O) i b := fun hp => by
  have := len16 h.zs hp.1
  have := hp.2.1
  omega
theorem Ordd.gt16 (h : Ordd ls O C) : gt_ ls O 16 = [] := by
  unfold gt_
  rw [List.filter_eq_nil_iff]
  intro s hs
  have := h.mem s hs
  simp only [decide_eq_true_eq]
  omega
theorem Ordd.gt_pos (h : Ordd ls O C) {i : Nat} {b : List Int} (hp : Pre (sz ls O) i b) : 0 < (gt_ ls O b.length).length := by
  obtain ⟨s, hs⟩ : ∃ s, O[i]? = some s := ⟨O[i]'(by have := hp.1; rwa [sz_len] at this), List.getElem?_eq_getElem _⟩
  have h1 := h.lenZ hs
  have h2 := hp.2.1
  refine List.length_pos_of_mem (a := s) ?_
  unfold gt_
  exact List.mem_filter.2 ⟨List.mem_of_getElem? hs, by simp only [decide_eq_true_eq]; omega⟩
end
theorem take_take_le {l : List Int} {m n : Nat} (h : m ≤ n) : (l.take n).take m = l.take m := by rw [List.take_take, Nat.min_eq_left h]
theorem hv_next {l : List Int} {k : Nat} (hk : k < l.length) : hv (l.take (k + 1)) = 2 * hv (l.take k) + l.getD k 0 := by rw [take_get l k hk, hv_snoc]
theorem hv_take16 {l : List Int} (hl : B01 l) {k : Nat} (hk : k ≤ 16) : 0 ≤ hv (l.take k) ∧ hv (l.take k) < 65536 := by
  have h := hv_bd (hl.take k)
  have h1 : (l.take k).length ≤ 16 := by rw [List.length_take]; omega
  have h2 : (2 : Int) ^ (l.take k).length ≤ 2 ^ 16 := by
    have := Nat.pow_le_pow_right (show 0 < 2 by omega) h1
    rw [← two_cast, ← two_cast]; omega
  have h3 : (2 : Int) ^ 16 = 65536 := by decide
  omega
theorem or_next {c b : Int} (hc : 0 ≤ c ∧ c < 65536) (hb : b = 0 ∨ b = 1) : bits BinOp.or IntKind.i64 (2 * c) b = 2 * c + b := by
  obtain ⟨n, rfl⟩ := Int.eq_ofNat_of_zero_le hc.1
  obtain ⟨m, hm⟩ := Int.eq_ofNat_of_zero_le (show 0 ≤ b by omega)
  rw [hm, show (2 * (n : Int)) = ((2 * n : Nat) : Int) by omega, i64_ors (2 * n) m (by omega) (by omega)]
  have h := Nat.two_pow_add_eq_or_of_lt (i := 1) (b := m) (by omega) n
  rw [Nat.pow_one] at h
  rw [← h]; omega
/-- no hit so far -/
theorem Cont.no {Z l : List Int} {k : Nat} (h : Cont Z l k) (h1 : ∀ i, ¬ Hit Z i (l.take (k + 1))) : ∀ m, 1 ≤ m → m ≤ (l.take (k + 1)).length → ∀ i, ¬ Hit Z i ((l.take (k + 1)).take m) := fun m m1 m2 i => by
  rw [List.length_take] at m2
  rw [take_take_le (by omega)]
  rcases Nat.lt_or_ge k m with hk | hk
  · obtain rfl : m = k + 1 := by omega
    exact h1 i
  · exact (h m m1 hk).2.1 i
end Go.Proofs.Ytlhappecjjbopaa
