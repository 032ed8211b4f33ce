/-
  A JPEG's codes: what is in form; plain laws. No condition.
-/
import Derived.Test.YtlhappecjjbopaaCaX
namespace Go.Proofs.Ytlhappecjjbopaa
set_option linter.unusedVariables false

/-- sizes by counts, of the lengths up to i; and k of the next one -/
def TzI (cn : List Int) (i : Nat) : List Int := (List.range i).flatMap fun j => List.replicate (cn.getD j 0).toNat ((j + 1 : Nat) : Int)
def TzK (cn : List Int) (i k : Nat) : List Int := TzI cn i ++ List.replicate k ((i + 1 : Nat) : Int)
theorem TzI_succ (cn : List Int) (i : Nat) : TzI cn (i + 1) = TzK cn i (cn.getD i 0).toNat := by
  unfold TzK TzI
  rw [List.range_succ, List.flatMap_append]
  simp
theorem TzK_zero (cn : List Int) (i : Nat) : TzK cn i 0 = TzI cn i := by simp [TzK]
theorem TzK_succ (cn : List Int) (i k : Nat) : TzK cn i (k + 1) = TzK cn i k ++ [((i + 1 : Nat) : Int)] := by
  unfold TzK
  rw [List.replicate_succ', List.append_assoc]
theorem TzI_len_le (cn : List Int) {i j : Nat} (h : i ≤ j) : (TzI cn i).length ≤ (TzI cn j).length := by
  obtain ⟨d, rfl⟩ : ∃ d, j = i + d := ⟨j - i, by omega⟩
  induction d with
  | zero => exact Nat.le_refl _
  | succ d ih =>
    have := ih (by omega)
    rw [← Nat.add_assoc, TzI_succ]
    unfold TzK
    rw [List.length_append]; omega
theorem TzK_len (cn : List Int) (i k : Nat) : (TzK cn i k).length = (TzI cn i).length + k := by simp [TzK]
theorem TzI_rng (cn : List Int) : ∀ i : Nat, (∀ x ∈ TzI cn i, 1 ≤ x ∧ x ≤ i) ∧ (TzI cn i).Pairwise fun a b => a ≤ b
  | 0 => ⟨by simp [TzI], by simp [TzI]⟩
  | i + 1 => by
    obtain ⟨h1, h2⟩ := TzI_rng cn i
    rw [TzI_succ]
    unfold TzK
    refine ⟨fun x hx => ?_, ?_⟩
    · rcases List.mem_append.1 hx with hx | hx
      · have := h1 x hx; omega
      · have := (List.mem_replicate.1 hx).2; omega
    · rw [List.pairwise_append]
      refine ⟨h2, List.pairwise_replicate.2 (.inr (Int.le_refl _)), fun a ha b hb => ?_⟩
      have := h1 a ha
      have := (List.mem_replicate.1 hb).2
      omega
/-- counts and symbols in form -/
def TabOk (cn ss : List Int) : Prop := (∀ i, i < 16 → 0 ≤ cn.getD i 0) ∧ (TzI cn 16).length = ss.length ∧ ss.Nodup ∧ su ((TzI cn 16).map wt) < 65536

theorem su_set : ∀ (l : List Int) (i : Nat) (x : Int), i < l.length → su ((l.set i x).map wt) = su (l.map wt) - wt (l.getD i 0) + wt x
  | [], i, x, h => by simp at h
  | a :: l, 0, x, h => by simp [su]; omega
  | a :: l, i + 1, x, h => by
    have := su_set l i x (by simpa using h)
    simp only [List.set_cons_succ, List.map_cons, su, List.getD_cons_succ] at this ⊢
    omega
/-- a table in the making -/
structure Tb (cn ss : List Int) (i k : Nat) (ls : List Int) (O : List Nat) : Prop where
  ll : ls.length = 256
  so : sy O = ss.take O.length
  szz : sz ls O = TzK cn i k
  nd : O.Nodup
  zr : ∀ s, s ∉ O → ls.getD s 0 = 0
  pos : ∀ s ∈ O, 0 < ls.getD s 0
  lt : ∀ s ∈ O, s < 256
  nn : ∀ j, j < i → 0 ≤ cn.getD j 0
  le : O.length ≤ ss.length
  vl : Vl ls
  krr : kr ls = su ((sz ls O).map wt)
section
variable {cn ss ls : List Int} {i k : Nat} {O : List Nat}
theorem Tb.zero (cn ss : List Int) : Tb cn ss 0 0 (List.replicate 256 0) [] where
  ll := List.length_replicate
  so := rfl
  szz := rfl
  nd := List.nodup_nil
  zr := fun s _ => by rw [List.getD_eq_getElem?_getD, List.getElem?_replicate]; split <;> rfl
  pos := fun s hs => by cases hs
  lt := fun s hs => by cases hs
  nn := fun j h => by omega
  le := Nat.zero_le _
  vl := fun x hx => by have := (List.mem_replicate.1 hx).2; omega
  krr := by decide +kernel
theorem Tb.len (h : Tb cn ss i k ls O) : O.length = (TzI cn i).length + k := by
  rw [← TzK_len, ← h.szz, sz_len]
theorem Tb.next (h : Tb cn ss i (cn.getD i 0).toNat ls O) (h0 : 0 ≤ cn.getD i 0) : Tb cn ss (i + 1) 0 ls O :=
  ⟨h.ll, h.so, by rw [TzK_zero, TzI_succ]; exact h.szz, h.nd, h.zr, h.pos, h.lt, fun j hj => by
    rcases Nat.lt_or_ge j i with h1 | h1
    · exact h.nn j h1
    · obtain rfl : j = i := by omega
      exact h0, h.le, h.vl, h.krr⟩
theorem Tb.step (h : Tb cn ss i k ls O) (hi : i < 16) {s : Nat} (hs : ss[O.length]? = some (s : Int)) (h256 : s < 256) (h0 : ls.getD s 0 = 0) : Tb cn ss i (k + 1) (ls.set s ((i + 1 : Nat) : Int)) (O ++ [s]) := by
  have hno : s ∉ O := fun hm => by have := h.pos s hm; omega
  have hsl : s < ls.length := by rw [h.ll]; exact h256
  have hnm : ∀ t ∈ O, t ≠ s := fun t ht e => hno (e ▸ ht)
  have hsz : sz (ls.set s ((i + 1 : Nat) : Int)) (O ++ [s]) = sz ls O ++ [((i + 1 : Nat) : Int)] := by
    unfold sz
    rw [List.map_append]
    congr 1
    · exact List.map_congr_left (fun t ht => getD_set_ne _ (fun e => hnm t ht e.symm))
    · simp only [List.map_cons, List.map_nil]
      rw [getD_set_eq _ hsl]
  have hl := (List.getElem?_eq_some_iff.1 hs).1
  refine ⟨by rw [List.length_set]; exact h.ll, ?_, by rw [hsz, h.szz, TzK_succ], ?_, fun t ht => ?_, fun t ht => ?_, fun t ht => ?_, h.nn, by rw [List.length_append]; simp; omega, fun x hx => ?_, ?_⟩
  · rw [sy_app, h.so, List.length_append]
    simp only [List.length_cons, List.length_nil, Nat.zero_add]
    rw [List.take_add_one, hs]; rfl
  · rw [List.nodup_append]
    refine ⟨h.nd, by simp, fun a ha b hb => ?_⟩
    simp only [List.mem_singleton] at hb
    subst hb
    exact hnm a ha
  · simp only [List.mem_append, List.mem_singleton, not_or] at ht
    rw [getD_set_ne _ (fun e => ht.2 e.symm)]
    exact h.zr t ht.1
  · rcases List.mem_append.1 ht with ht | ht
    · rw [getD_set_ne _ (fun e => hnm t ht e.symm)]
      exact h.pos t ht
    · simp only [List.mem_singleton] at ht
      subst ht
      rw [getD_set_eq _ hsl]; omega
  · rcases List.mem_append.1 ht with ht | ht
    · exact h.lt t ht
    · simp only [List.mem_singleton] at ht
      subst ht; exact h256
  · rcases List.mem_or_eq_of_mem_set hx with hx | hx
    · exact h.vl x hx
    · omega
  · unfold kr
    rw [su_set _ _ _ hsl, h0, hsz, List.map_append, su_app, ← h.krr]
    have h1 : wt 0 = 0 := by decide
    have h2 : su (List.map wt [((i + 1 : Nat) : Int)]) = wt ((i + 1 : Nat) : Int) := by simp [su]
    rw [h1, h2]
    unfold kr; omega
/-- a symbol that stands twice -/
theorem Tb.dup (h : Tb cn ss i k ls O) {s : Nat} (hs : ss[O.length]? = some (s : Int)) (h0 : 0 < ls.getD s 0) : ¬ TabOk cn ss := fun hok => by
  have hm : s ∈ O := Classical.byContradiction (fun hn => by have := h.zr s hn; omega)
  have hm2 : (s : Int) ∈ ss.take O.length := by rw [← h.so]; exact List.mem_map.2 ⟨s, hm, rfl⟩
  obtain ⟨j, hj⟩ := List.mem_iff_getElem?.1 hm2
  rw [List.getElem?_take] at hj
  split at hj
  · rename_i hlt
    have hn := hok.2.2.1
    have h1 := (List.getElem?_eq_some_iff.1 hj)
    have h2 := (List.getElem?_eq_some_iff.1 hs)
    obtain ⟨h1a, h1b⟩ := h1
    obtain ⟨h2a, h2b⟩ := h2
    have := (List.pairwise_iff_getElem.1 hn) j O.length h1a h2a hlt
    rw [h1b, h2b] at this
    exact this rfl
  · cases hj
theorem Tb.neg (h : Tb cn ss i k ls O) (hi : i < 16) (h0 : cn.getD i 0 < 0) : ¬ TabOk cn ss := fun hok => by have := hok.1 i hi; omega
theorem Tb.many (h : Tb cn ss i 0 ls O) (hi : i < 16) (h0 : (ss.length : Int) - O.length < cn.getD i 0) : ¬ TabOk cn ss := fun hok => by
  have h1 := h.len
  have h2 := TzI_len_le cn (show i + 1 ≤ 16 by omega)
  rw [TzI_succ, TzK_len, hok.2.1] at h2
  omega
theorem Tb.few (h : Tb cn ss 16 0 ls O) (h0 : O.length < ss.length) : ¬ TabOk cn ss := fun hok => by
  have h1 := h.len
  have h2 := hok.2.1
  omega
theorem Tb.sum (h : Tb cn ss 16 0 ls O) : kr ls = su ((TzI cn 16).map wt) := by rw [h.krr, h.szz, TzK_zero]
theorem Tb.ok (h : Tb cn ss 16 0 ls O) (h0 : O.length = ss.length) (hk : kr ls < 65536) : TabOk cn ss := by
  refine ⟨h.nn, ?_, ?_, ?_⟩
  · have h1 := h.len; omega
  · have h1 := h.so
    rw [h0, List.take_length] at h1
    rw [← h1]
    refine (List.pairwise_map.2 (h.nd.imp (fun {a b} hab e => hab (by omega))))
  · rw [← h.sum]; exact hk
theorem Tb.syms (h : Tb cn ss 16 0 ls O) (h0 : O.length = ss.length) : sy O = ss := by rw [h.so, h0, List.take_length]
theorem zs_of (h1 : su ((TzI cn 16).map wt) ≤ 65536) : Zs (TzI cn 16) :=
  ⟨fun z hz => by have := (TzI_rng cn 16).1 z hz; omega, (TzI_rng cn 16).2, h1⟩
theorem nodup_le {l : List Nat} {n : Nat} (hn : l.Nodup) (h : ∀ s ∈ l, s < n) : l.length ≤ n := by
  induction n generalizing l with
  | zero =>
    rcases l with _ | ⟨a, l⟩
    · simp
    · have := h a (by simp); omega
  | succ n ih =>
    have h1 := ih (l := l.filter (fun s => decide (s ≠ n))) (hn.filter _) (fun s hs => by
      have := List.mem_filter.1 hs
      have h2 := h s this.1
      have h3 := of_decide_eq_true this.2
      omega)
    have h2 : l.length = (l.filter (fun s => decide (s ≠ n))).length + (l.filter (fun s => decide (s = n))).length := by
      have := filter_two (fun s : Nat => decide (s ≠ n)) (fun s : Nat => decide (s = n)) (fun _ => true) l (fun x _ => by by_cases hx : x = n <;> simp [hx])
      rwa [List.filter_eq_self.2 (by simp)] at this
    have h3 : (l.filter (fun s => decide (s = n))).length ≤ 1 := by
      have h4 := hn.filter (fun s => decide (s = n))
      have h5 : ∀ x ∈ l.filter (fun s => decide (s = n)), x = n := fun x hx => of_decide_eq_true (List.mem_filter.1 hx).2
      match l.filter (fun s => decide (s = n)), h4, h5 with
      | [], _, _ => simp
      | [a], _, _ => simp
      | a :: b :: t, h4, h5 =>
        have ha := h5 a (by simp)
        have hb := h5 b (by simp)
        rw [List.pairwise_cons] at h4
        exact absurd (ha.trans hb.symm) (h4.1 b (by simp))
    omega
theorem Tb.ord0 (h : Tb cn ss 16 0 ls O) (hk : kr ls ≤ 65536) : Ord0 ls O where
  zs := by rw [h.szz, TzK_zero]; exact zs_of (by rw [← h.sum]; exact hk)
  nd := by
    have h1 : (sz ls O).Pairwise fun a b => a ≤ b := by rw [h.szz, TzK_zero]; exact (TzI_rng cn 16).2
    unfold sz at h1
    rw [List.pairwise_map] at h1
    exact h.nd.imp₂ (fun _ _ a b => ⟨a, b⟩) h1
  mem := fun s hs => by
    refine ⟨by rw [h.ll]; exact h.lt s hs, by have := h.pos s hs; omega, ?_⟩
    have := h.vl _ (getD_in (l := ls) (k := s) (by rw [h.ll]; exact h.lt s hs))
    exact this.2
  len := by have := nodup_le h.nd h.lt; omega
  lls := by rw [h.ll]; omega
end
end Go.Proofs.Ytlhappecjjbopaa
