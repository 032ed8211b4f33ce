/-
  Prefix codes by their lengths: which symbols have codes in which order, and where a code lies; plain. No condition.
-/
import Derived.Test.YtlhappecjjbopaaBiA
namespace Go.Proofs.Ytlhappecjjbopaa
set_option linter.unusedVariables false

def su : List Int → Int
  | [] => 0
  | x :: l => x + su l
theorem su_app (a b : List Int) : su (a ++ b) = su a + su b := by
  induction a with
  | nil => simp [su]
  | cons x a ih => simp only [List.cons_append, su, ih]; omega
theorem su_nn {l : List Int} (h : ∀ x ∈ l, 0 ≤ x) : 0 ≤ su l := by
  induction l with
  | nil => simp [su]
  | cons x l ih => have := h x (by simp); have := ih (fun y hy => h y (by simp [hy])); simp only [su]; omega

/-- lengths in form -/
def Vl (ls : List Int) : Prop := ∀ x ∈ ls, 0 ≤ x ∧ x ≤ 16
instance (ls : List Int) : Decidable (Vl ls) := by unfold Vl; infer_instance
/-- the part that a code of a length takes -/
def wt (x : Int) : Int := if 0 < x then 65536 / 2 ^ x.toNat else 0
def kr (ls : List Int) : Int := su (ls.map wt)
theorem wt_pos {x : Int} (h : 0 < x ∧ x ≤ 16) : wt x = 2 ^ (16 - x.toNat) := by
  obtain ⟨n, rfl⟩ := Int.eq_ofNat_of_zero_le (show 0 ≤ x by omega)
  unfold wt
  rw [if_pos h.1, Int.toNat_natCast]
  have : (65536 : Int) = 2 ^ (16 - n) * 2 ^ n := by rw [← Int.pow_add, show 16 - n + n = 16 by omega]; rfl
  rw [this, Int.mul_ediv_cancel _ (by have := two_pos n; omega)]
theorem wt_nn {x : Int} (h : x ≤ 16) : 0 ≤ wt x := by
  by_cases h0 : 0 < x
  · rw [wt_pos ⟨h0, h⟩]; have := two_pos (16 - x.toNat); omega
  · unfold wt; rw [if_neg h0]; omega
theorem wt_le (x : Int) : wt x ≤ 32768 := by
  by_cases h0 : 0 < x
  · unfold wt; rw [if_pos h0]
    obtain ⟨n, hn⟩ : ∃ n, x.toNat = n + 1 := ⟨x.toNat - 1, by omega⟩
    rw [hn, two_succ, ← Int.ediv_ediv_of_nonneg (by omega)]
    exact Int.ediv_le_self _ (by omega)
  · unfold wt; rw [if_neg h0]; omega
/-- in form: what is free is not below 0 -/
def Fm (ls : List Int) : Prop := ls.length ≤ 512 ∧ Vl ls ∧ kr ls ≤ 65536
instance (ls : List Int) : Decidable (Fm ls) := by unfold Fm; infer_instance

/-- the symbols of a length, ahead of k; all of the lengths 1 to m -/
def ordP (ls : List Int) (n : Int) (k : Nat) : List Nat := (List.range k).filter fun s => decide (ls.getD s 0 = n)
def ordU (ls : List Int) (m : Nat) : List Nat := (List.range m).flatMap fun i => ordP ls ((i + 1 : Nat) : Int) ls.length
theorem ordP_succ (ls : List Int) (n : Int) (k : Nat) : ordP ls n (k + 1) = ordP ls n k ++ if ls.getD k 0 = n then [k] else [] := by
  unfold ordP
  rw [List.range_succ, List.filter_append]
  congr 1
  by_cases h : ls.getD k 0 = n
  · rw [if_pos h]; simp only [List.filter_cons, List.filter_nil, h, decide_true, if_true]
  · rw [if_neg h]; simp only [List.filter_cons, List.filter_nil, h, decide_false, Bool.false_eq_true, if_false]
theorem ordU_succ (ls : List Int) (m : Nat) : ordU ls (m + 1) = ordU ls m ++ ordP ls ((m + 1 : Nat) : Int) ls.length := by
  unfold ordU
  rw [List.range_succ, List.flatMap_append]; simp
theorem ordP_mem {ls : List Int} {n : Int} {k s : Nat} (h : s ∈ ordP ls n k) : s < k ∧ ls.getD s 0 = n := by
  unfold ordP at h
  rw [List.mem_filter] at h
  exact ⟨List.mem_range.1 h.1, of_decide_eq_true h.2⟩
theorem ordU_mem {ls : List Int} {m s : Nat} : s ∈ ordU ls m ↔ s < ls.length ∧ 1 ≤ ls.getD s 0 ∧ ls.getD s 0 ≤ m := by
  unfold ordU
  rw [List.mem_flatMap]
  constructor
  · rintro ⟨i, hi, hs⟩
    have h1 := List.mem_range.1 hi
    have h2 := ordP_mem hs
    exact ⟨h2.1, by omega, by omega⟩
  · rintro ⟨h1, h2, h3⟩
    refine ⟨(ls.getD s 0).toNat - 1, List.mem_range.2 (by omega), ?_⟩
    unfold ordP
    rw [List.mem_filter]
    exact ⟨List.mem_range.2 h1, decide_eq_true (by omega)⟩
theorem ordP_nodup (ls : List Int) (n : Int) (k : Nat) : (ordP ls n k).Nodup := List.Pairwise.filter _ List.nodup_range
/-- by lengths, no symbol twice -/
theorem ordU_sorted (ls : List Int) : ∀ m : Nat, (ordU ls m).Pairwise fun a b => a ≠ b ∧ ls.getD a 0 ≤ ls.getD b 0
  | 0 => by simp [ordU]
  | m + 1 => by
    rw [ordU_succ, List.pairwise_append]
    refine ⟨ordU_sorted ls m, ?_, ?_⟩
    · have h1 := ordP_nodup ls ((m + 1 : Nat) : Int) ls.length
      refine List.Pairwise.imp_of_mem ?_ h1
      intro a b ha hb hne
      have h2 := ordP_mem ha
      have h3 := ordP_mem hb
      exact ⟨hne, by omega⟩
    · intro a ha b hb
      have h2 := ordU_mem.1 ha
      have h3 := ordP_mem hb
      refine ⟨fun e => ?_, by omega⟩
      subst e; omega

/-- the parts of symbols -/
def ws (ls : List Int) (O : List Nat) : Int := su (O.map fun s => wt (ls.getD s 0))
theorem ws_app (ls : List Int) (a b : List Nat) : ws ls (a ++ b) = ws ls a + ws ls b := by unfold ws; rw [List.map_append, su_app]
theorem ordP_snoc (ls : List Int) (x n : Int) : ordP (ls ++ [x]) n (ls ++ [x]).length = ordP ls n ls.length ++ if x = n then [ls.length] else [] := by
  rw [show (ls ++ [x]).length = ls.length + 1 by simp, ordP_succ]
  congr 1
  · unfold ordP
    apply List.filter_congr
    intro s hs
    have := List.mem_range.1 hs
    rw [List.getD_eq_getElem?_getD, List.getD_eq_getElem?_getD, List.getElem?_append_left this]
  · have : (ls ++ [x]).getD ls.length 0 = x := by simp [List.getD_eq_getElem?_getD]
    rw [this]
theorem ws_congr {ls ls' : List Int} {O : List Nat} (h : ∀ s ∈ O, ls.getD s 0 = ls'.getD s 0) : ws ls O = ws ls' O := by
  unfold ws
  congr 1
  apply List.map_congr_left
  intro s hs; rw [h s hs]
theorem ws_ordU_snoc (ls : List Int) (x : Int) : ∀ m : Nat, ws (ls ++ [x]) (ordU (ls ++ [x]) m) = ws ls (ordU ls m) + if 1 ≤ x ∧ x ≤ m then wt x else 0
  | 0 => by
    have : ¬ (1 ≤ x ∧ x ≤ ((0 : Nat) : Int)) := by omega
    rw [if_neg this]; simp [ordU, ws, su]
  | m + 1 => by
    rw [ordU_succ, ordU_succ, ws_app, ws_app, ws_ordU_snoc ls x m, ordP_snoc, ws_app]
    have h1 : ws (ls ++ [x]) (ordP ls ((m + 1 : Nat) : Int) ls.length) = ws ls (ordP ls ((m + 1 : Nat) : Int) ls.length) := by
      apply ws_congr
      intro s hs
      have := (ordP_mem hs).1
      rw [List.getD_eq_getElem?_getD, List.getD_eq_getElem?_getD, List.getElem?_append_left this]
    rw [h1]
    by_cases hx : x = ((m + 1 : Nat) : Int)
    · rw [if_pos hx, if_neg (by omega), if_pos (by omega)]
      have h2 : ws (ls ++ [x]) [ls.length] = wt x := by simp [ws, su, List.getD_eq_getElem?_getD]
      rw [h2]; omega
    · rw [if_neg hx]
      have h2 : ws (ls ++ [x]) [] = 0 := rfl
      rw [h2]
      by_cases h3 : 1 ≤ x ∧ x ≤ m
      · rw [if_pos h3, if_pos (by omega)]; omega
      · rw [if_neg h3, if_neg (by omega)]; omega
/-- all the parts together -/
theorem ws_all (ls : List Int) (hv : Vl ls) : ws ls (ordU ls 16) = kr ls := by
  have h : ∀ n : Nat, ∀ ls : List Int, ls.length = n → Vl ls → ws ls (ordU ls 16) = kr ls := by
    intro n
    induction n with
    | zero => intro ls hl _; rw [List.eq_nil_of_length_eq_zero hl]; decide
    | succ n ih =>
      intro ls hl hv
      obtain ⟨a, x, rfl⟩ : ∃ a x, ls = a ++ [x] := ⟨ls.dropLast, ls.getLast (by intro h; simp [h] at hl), (List.dropLast_concat_getLast _).symm⟩
      have hx := hv x (by simp)
      rw [ws_ordU_snoc, ih a (by simpa using hl) (fun y hy => hv y (by simp [hy]))]
      unfold kr
      rw [List.map_append, su_app]
      simp only [List.map_cons, List.map_nil, su]
      by_cases h0 : 1 ≤ x
      · rw [if_pos ⟨h0, by omega⟩]; omega
      · rw [if_neg (by omega)]; unfold wt; rw [if_neg (by omega)]; omega
  exact h _ ls rfl hv

/-- where a symbol's code begins: the parts ahead of it -/
def at_ (ls : List Int) (i : Nat) : Int := ws ls ((ordU ls 16).take i)
theorem at_succ (ls : List Int) (i s : Nat) (h : (ordU ls 16)[i]? = some s) : at_ ls (i + 1) = at_ ls i + wt (ls.getD s 0) := by
  unfold at_
  rw [List.take_add_one, h, ws_app]; simp [ws, su]
theorem wt_ord {ls : List Int} (hv : Vl ls) (k : Nat) : 0 ≤ wt (ls.getD k 0) := by
  by_cases hk : k < ls.length
  · have : ls.getD k 0 ∈ ls := by rw [List.getD_eq_getElem?_getD, List.getElem?_eq_getElem hk]; exact List.getElem_mem _
    exact wt_nn (hv _ this).2
  · rw [List.getD_eq_getElem?_getD, List.getElem?_eq_none (by omega)]; exact wt_nn (by decide)
theorem ws_nn {ls : List Int} (hv : Vl ls) (O : List Nat) : 0 ≤ ws ls O := su_nn (fun x hx => by
  obtain ⟨s, _, rfl⟩ := List.mem_map.1 hx
  exact wt_ord hv s)
theorem at_mono {ls : List Int} (hv : Vl ls) {i j : Nat} (h : i ≤ j) : at_ ls i ≤ at_ ls j := by
  unfold at_
  have h1 : (ordU ls 16).take j = (ordU ls 16).take i ++ ((ordU ls 16).take j).drop i := by
    have := List.take_append_drop i ((ordU ls 16).take j)
    rw [List.take_take, Nat.min_eq_left h] at this
    exact this.symm
  rw [h1, ws_app]
  have := ws_nn hv (((ordU ls 16).take j).drop i)
  omega
theorem at_le {ls : List Int} (hf : Fm ls) (i : Nat) : 0 ≤ at_ ls i ∧ at_ ls i ≤ 65536 := by
  refine ⟨ws_nn hf.2.1 _, ?_⟩
  have h1 := at_mono hf.2.1 (Nat.le_add_right i (ordU ls 16).length)
  have h2 : at_ ls (i + (ordU ls 16).length) = kr ls := by
    unfold at_; rw [List.take_of_length_le (by omega)]; exact ws_all ls hf.2.1
  have := hf.2.2
  omega

/-- these are the codes -/
def Cd (ls C : List Int) : Prop := C.length = ls.length ∧ (∀ (i s : Nat), (ordU ls 16)[i]? = some s → 0 ≤ C.getD s 0 ∧ C.getD s 0 * wt (ls.getD s 0) = at_ ls i) ∧ ∀ s, ls.getD s 0 = 0 → C.getD s 0 = 0
theorem ord_get {ls : List Int} {s : Nat} (hv : Vl ls) (hs : s < ls.length) (h : 0 < ls.getD s 0) : ∃ i : Nat, (ordU ls 16)[i]? = some s ∧ 1 ≤ ls.getD s 0 ∧ ls.getD s 0 ≤ 16 := by
  have hin : ls.getD s 0 ∈ ls := by rw [List.getD_eq_getElem?_getD, List.getElem?_eq_getElem hs]; exact List.getElem_mem _
  have hb := hv _ hin
  have hm : s ∈ ordU ls 16 := ordU_mem.2 ⟨hs, by omega, by omega⟩
  obtain ⟨i, hi, he⟩ := List.getElem_of_mem hm
  exact ⟨i, by rw [List.getElem?_eq_getElem hi, he], by omega, hb.2⟩
/-- no code begins another one -/
theorem cd_prefix {ls C : List Int} (hv : Vl ls) (hc : Cd ls C) {a b : Nat} (ha : a < ls.length) (hb : b < ls.length) (hne : a ≠ b) (hm : 0 < ls.getD a 0) (hn : ls.getD a 0 ≤ ls.getD b 0) :
    C.getD b 0 / 2 ^ (ls.getD b 0 - ls.getD a 0).toNat ≠ C.getD a 0 := by
  intro he
  obtain ⟨i, hi, hi1, hi2⟩ := ord_get hv ha hm
  obtain ⟨j, hj, hj1, hj2⟩ := ord_get hv hb (by omega)
  have hci := hc.2.1 i a hi
  have hcj := hc.2.1 j b hj
  have hsi := at_succ ls i a hi
  have hsj := at_succ ls j b hj
  have wa := wt_pos (x := ls.getD a 0) (by omega)
  have wb := wt_pos (x := ls.getD b 0) (by omega)
  have hp := two_pos (ls.getD b 0 - ls.getD a 0).toNat
  have hwab : wt (ls.getD a 0) = 2 ^ (ls.getD b 0 - ls.getD a 0).toNat * wt (ls.getD b 0) := by
    rw [wa, wb, ← Int.pow_add]; congr 1; omega
  have hwb : 1 ≤ wt (ls.getD b 0) := by rw [wb]; exact two_pos _
  generalize (2 : Int) ^ (ls.getD b 0 - ls.getD a 0).toNat = P at *
  generalize wt (ls.getD b 0) = W at *
  generalize C.getD b 0 = cb at *
  have h1 := Int.emod_add_mul_ediv cb P
  have h2 := Int.emod_nonneg cb (show P ≠ 0 by omega)
  have h3 := Int.emod_lt_of_pos cb (show 0 < P by omega)
  rw [he] at h1
  have h4 : at_ ls j = cb % P * W + at_ ls i := by
    have e1 : cb * W = (cb % P + P * C.getD a 0) * W := by rw [h1]
    rw [← hcj.2, ← hci.2, hwab, e1, Int.add_mul]
    congr 1
    rw [Int.mul_comm P, Int.mul_assoc]
  have h5 : cb % P * W ≤ (P - 1) * W := Int.mul_le_mul_of_nonneg_right (by omega) (by omega)
  have h6 : 0 ≤ cb % P * W := Int.mul_nonneg h2 (by omega)
  rw [Int.sub_mul, Int.one_mul] at h5
  rcases Nat.lt_trichotomy i j with hij | hij | hij
  · have h7 := at_mono hv (show i + 1 ≤ j by omega)
    omega
  · subst hij
    rw [hi] at hj
    injection hj with hj
    exact hne hj
  · have h7 := at_mono hv (show j + 1 ≤ i by omega)
    omega
/-- codes rise with their lengths -/
theorem cd_rise {ls C : List Int} (hv : Vl ls) (hc : Cd ls C) {a b : Nat} (ha : a < ls.length) (hb : b < ls.length) (hm : 0 < ls.getD a 0) (hn : ls.getD a 0 < ls.getD b 0) : C.getD a 0 < C.getD b 0 := by
  obtain ⟨i, hi, hi1, hi2⟩ := ord_get hv ha hm
  obtain ⟨j, hj, hj1, hj2⟩ := ord_get hv hb (by omega)
  have hci := hc.2.1 i a hi
  have hcj := hc.2.1 j b hj
  have hsi := at_succ ls i a hi
  have wa := wt_pos (x := ls.getD a 0) (by omega)
  have wb := wt_pos (x := ls.getD b 0) (by omega)
  have hwb : 1 ≤ wt (ls.getD b 0) := by rw [wb]; exact two_pos _
  have hwab : wt (ls.getD b 0) ≤ wt (ls.getD a 0) := by
    rw [wa, wb, ← two_cast, ← two_cast]
    have := Nat.pow_le_pow_right (show 0 < 2 by omega) (show 16 - (ls.getD b 0).toNat ≤ 16 - (ls.getD a 0).toNat by omega)
    omega
  have hij : i < j := by
    rcases Nat.lt_trichotomy i j with h | h | h
    · exact h
    · subst h; rw [hi] at hj; injection hj with hj; subst hj; omega
    · have hil : i < (ordU ls 16).length := (List.getElem?_eq_some_iff.1 hi).1
      have hjl : j < (ordU ls 16).length := (List.getElem?_eq_some_iff.1 hj).1
      have := (List.pairwise_iff_getElem.1 (ordU_sorted ls 16)) j i hjl hil h
      rw [(List.getElem?_eq_some_iff.1 hi).2, (List.getElem?_eq_some_iff.1 hj).2] at this
      omega
  have h7 := at_mono hv (show i + 1 ≤ j by omega)
  rcases Int.lt_or_le (C.getD a 0) (C.getD b 0) with h | h
  · exact h
  · have h8 : C.getD b 0 * wt (ls.getD b 0) ≤ C.getD a 0 * wt (ls.getD a 0) := by
      calc C.getD b 0 * wt (ls.getD b 0) ≤ C.getD a 0 * wt (ls.getD b 0) := Int.mul_le_mul_of_nonneg_right h (by omega)
        _ ≤ C.getD a 0 * wt (ls.getD a 0) := Int.mul_le_mul_of_nonneg_left hwab hci.1
    omega
end Go.Proofs.Ytlhappecjjbopaa
