/-
  Stuffing: the program's Stuff and Unstuff, the document's Stuff and Taken, by contracts. Conditions: at most 300000 bytes.
-/
import Derived.Test.YtkmgojoojboidaaCopy
namespace Go.Proofs.Ytkmgojoojboidaa
open Go.RowKit
set_option linter.unusedVariables false

/-! plain -/
def stf : List Int → List Int
  | [] => []
  | x :: l => if x = 255 then 255 :: 0 :: stf l else x :: stf l
theorem stf_app (a b : List Int) : stf (a ++ b) = stf a ++ stf b := by
  induction a with
  | nil => rfl
  | cons x a ih => simp only [List.cons_append, stf]; split <;> simp [ih]
theorem stf_one (x : Int) : stf [x] = if x = 255 then [255, 0] else [x] := by simp [stf]
theorem stf_len (l : List Int) : (stf l).length ≤ 2 * l.length := by
  induction l with
  | nil => simp [stf]
  | cons x l ih => simp only [stf]; split <;> simp <;> omega
theorem stf_bs {l : List Int} (h : Bs l) : Bs (stf l) := by
  induction l with
  | nil => exact h
  | cons x l ih =>
    have h1 := ih (fun y hy => h y (by simp [hy]))
    have h2 := h x (by simp)
    simp only [stf]
    split
    · intro y hy
      simp only [List.mem_cons] at hy
      rcases hy with rfl | rfl | hy
      · omega
      · omega
      · exact h1 y hy
    · intro y hy
      simp only [List.mem_cons] at hy
      rcases hy with rfl | hy
      · exact h2
      · exact h1 y hy
/-- what stuffed bytes come from, how many are stuffed ones -/
def us : List Int → List Int × Nat
  | [] => ([], 0)
  | [x] => if x = 255 then ([], 0) else ([x], 1)
  | x :: y :: l => if x = 255 then (if y = 0 then (255 :: (us l).1, (us l).2 + 2) else ([], 0)) else (x :: (us (y :: l)).1, (us (y :: l)).2 + 1)
theorem us_ne {x : Int} (h : x ≠ 255) (l : List Int) : us (x :: l) = (x :: (us l).1, (us l).2 + 1) := by
  cases l <;> simp [us, h]
theorem us_esc (l : List Int) : us (255 :: 0 :: l) = (255 :: (us l).1, (us l).2 + 2) := by simp [us]
theorem us_end : us [255] = ([], 0) := by simp [us]
theorem us_stop {y : Int} (h : y ≠ 0) (l : List Int) : us (255 :: y :: l) = ([], 0) := by simp [us, h]
theorem us_stf (b x : List Int) : us (stf b ++ x) = (b ++ (us x).1, (stf b).length + (us x).2) := by
  induction b with
  | nil => simp [stf]
  | cons y b ih =>
    simp only [stf]
    split
    · subst_vars
      simp only [List.cons_append, us_esc, ih, List.length_cons]
      simp; omega
    · rename_i hy
      simp only [List.cons_append, us_ne hy, ih, List.length_cons]
      simp; omega
theorem us_facts : ∀ (n : Nat) (l : List Int), l.length ≤ n → (us l).2 ≤ l.length ∧ (us l).1.length ≤ (us l).2 ∧ stf (us l).1 = l.take (us l).2 ∧ (∀ x ∈ (us l).1, x ∈ l)
  | 0, l, h => by
    have : l = [] := List.eq_nil_of_length_eq_zero (by omega)
    subst this; simp [us, stf]
  | n + 1, [], h => by simp [us, stf]
  | n + 1, [x], h => by
    by_cases hx : x = 255
    · subst hx; simp [us, stf]
    · simp [us, stf, hx]
  | n + 1, x :: y :: l, h => by
    by_cases hx : x = 255
    · subst hx
      by_cases hy : y = 0
      · subst hy
        obtain ⟨h1, h2, h3, h4⟩ := us_facts n l (by simp at h; omega)
        rw [us_esc]
        refine ⟨by simp; omega, by simp; omega, by simp [stf, h3], fun z hz => ?_⟩
        simp only [List.mem_cons] at hz ⊢
        rcases hz with rfl | hz
        · exact .inl rfl
        · exact .inr (.inr (h4 z hz))
      · rw [us_stop hy]; simp [stf]
    · obtain ⟨h1, h2, h3, h4⟩ := us_facts n (y :: l) (by simp at h ⊢; omega)
      rw [us_ne hx]
      refine ⟨by simp at h1 ⊢; omega, by simp; omega, by simp [stf, hx, h3], fun z hz => ?_⟩
      rw [List.mem_cons] at hz ⊢
      rcases hz with rfl | hz
      · exact .inl rfl
      · exact .inr (h4 z hz)
theorem us_bs {l : List Int} (h : Bs l) : Bs (us l).1 := fun x hx => h x ((us_facts _ l (Nat.le_refl _)).2.2.2 x hx)
theorem bv_snoc (l : List Int) (x : Int) : bv (l ++ [x]) = bv l ++ [.int .u8 x] := by simp [bv]
theorem take_snoc {l : List Int} {k : Nat} (h : k < l.length) : l.take (k + 1) = l.take k ++ [l.getD k 0] := by
  rw [List.take_add_one, List.getD_eq_getElem?_getD, List.getElem?_eq_getElem h]; rfl
theorem drop_cons {l : List Int} {k : Nat} (h : k < l.length) : l.drop k = l.getD k 0 :: l.drop (k + 1) := by
  rw [List.drop_eq_getElem_cons h, List.getD_eq_getElem?_getD, List.getElem?_eq_getElem h]; rfl
theorem bv_at {l : List Int} {k : Nat} (h : k < l.length) : (bv l)[k]? = some (.int .u8 (l.getD k 0)) := by simp [bv, h]
theorem getD_bd {l : List Int} (h : Bs l) (i : Nat) : 0 ≤ l.getD i 0 ∧ l.getD i 0 ≤ 255 := by
  rw [List.getD_eq_getElem?_getD]
  rcases Nat.lt_or_ge i l.length with hi | hi
  · rw [List.getElem?_eq_getElem hi]; exact h _ (List.getElem_mem hi)
  · rw [List.getElem?_eq_none hi]; simp

set_option maxHeartbeats 400000 in
theorem stuff_any (A : Option Addr) (n c : Nat) (l : List Int) (w : World) (hn : l.length = n) (hR : Rd w w.heap.size A (bv l)) (hB : Bs l) (hm : n ≤ 300000) :
    Calls Try.prog 15 #[.slice A n c] w fun e w' => ∃ v, e = .returned v ∧ w'.ownsRow w.heap.size 5 1 v (stf l).length (bv (stf l)) ∧ Below w.heap.size w w' := by
  obtain ⟨i0, hi, hz0, hz1, hz2⟩ := info_parts Try.info_u8
  have HN := Lib.hid hn
  clear hn
  go_enter Try.func15, Try.ntmps15
  go_wp2_with fail
  go_loopw [3, 8] (fun v i wr => ∃ k : Nat, k ≤ n ∧ i = .int .i64 k ∧ wr.ownsRow w.heap.size 5 1 v (stf (l.take k)).length (bv (stf (l.take k))) ∧ Below w.heap.size w wr) (fun _ i _ => n - (intOf i).toNat)
  case atStart => exact ⟨0, Nat.zero_le _, rfl, World.ownsRow_nil _ _ _ _, Below.refl _ _⟩
  case round =>
    obtain ⟨k, hk, rfl, hown, hb⟩ := hrel
    by_cases hlt : k < n
    · obtain ⟨b, off, rfl, hbb, hc⟩ := hR.at_ (k := k) (by rw [bv_len, HN.out]; exact hlt)
      have hcell : wr.cell? ⟨b, off + k, none⟩ = some (.int .u8 (l.getD k 0)) := (hb.cell hbb).trans (hc k _ (bv_at (by rw [HN.out]; exact hlt)))
      have hst : stf (l.take (k + 1)) = stf (l.take k) ++ stf [l.getD k 0] := by rw [take_snoc (by rw [HN.out]; exact hlt), stf_app]
      have hx := getD_bd hB k
      have hlen := stf_len (l.take k)
      rw [List.length_take, Nat.min_eq_left (by rw [HN.out]; exact hk)] at hlen
      generalize l.getD k 0 = x at *
      have HS := Lib.hid hst
      clear hc hst
      obtain ⟨m, hme⟩ : ∃ m, m = (stf (l.take k)).length := ⟨_, rfl⟩
      rw [← hme] at hown hlen
      have HM := Lib.hid hme
      clear hme
      by_cases h5 : x = 255
      · subst h5
        go_wp2_with (first
          | (at_builtin; refine wpList_app _ rfl (.tmp 12) (.tmp 14) 22 rfl Try.underlying22 hi hz0 hz1 hz2 rfl (hown.alloc _) rfl rfl (Rd.new1 _ _ _) rfl (by simp [Value.oneCell']) (by omega) (by omega) (by have := hb.size; simp; omega) ?_; intro v1 w1 hown1 hg1 hat1; have hb1 : Below w.heap.size w w1 := below_app (hb.alloc hb.size _) (hown.alloc _) hg1 (Nat.le_refl _) (by have := hb.size; simp; omega))
          | (at_builtin; refine wpList_app _ rfl (.tmp 18) (.tmp 19) 22 rfl Try.underlying22 hi hz0 hz1 hz2 rfl (hown1.alloc _) rfl rfl (Rd.new1 _ _ _) rfl (by simp [Value.oneCell']) (by omega) (by omega) (by have := hb1.size; simp; omega) ?_; intro v2 w2 hown2 hg2 hat2; have hb2 : Below w.heap.size w w2 := below_app (hb1.alloc hb1.size _) (hown1.alloc _) hg2 (Nat.le_refl _) (by have := hb1.size; simp; omega)))
        go_roundw
        case rel =>
          refine ⟨k + 1, by omega, by go_num, ?_, hb2⟩
          rw [HS.out, stf_one, if_pos rfl, List.length_append, ← HM.out, bv_app, show bv [255, 0] = [Value.int .u8 255, .int .u8 0] from rfl]
          rw [List.append_assoc] at hown2
          exact hown2
        case measure => simp [intOf]; omega
      · go_wp2_with (at_builtin; refine wpList_app _ rfl (.tmp 12) (.tmp 14) 22 rfl Try.underlying22 hi hz0 hz1 hz2 rfl (hown.alloc _) rfl rfl (Rd.new1 _ _ _) rfl (by simp [Value.oneCell']) (by omega) (by omega) (by have := hb.size; simp; omega) ?_; intro v1 w1 hown1 hg1 hat1; have hb1 : Below w.heap.size w w1 := below_app (hb.alloc hb.size _) (hown.alloc _) hg1 (Nat.le_refl _) (by have := hb.size; simp; omega))
        go_roundw
        case rel =>
          refine ⟨k + 1, by omega, by go_num, ?_, hb1⟩
          rw [HS.out, stf_one, if_neg h5, List.length_append, ← HM.out, bv_app]
          exact hown1
        case measure => simp [intOf]; omega
    · go_wp2_with fail
      go_ret
      have ht : l.take k = l := List.take_of_length_le (by rw [HN.out]; omega)
      rw [ht] at hown
      exact ⟨_, rfl, hown, hb⟩

set_option maxHeartbeats 400000 in
theorem rstuff_any (A : Option Addr) (n c : Nat) (l : List Int) (w : World) (hn : l.length = n) (hR : Rd w w.heap.size A (bv l)) (hB : Bs l) (hm : n ≤ 300000) :
    Calls Try.prog 19 #[.slice A n c] w fun e w' => ∃ v, e = .returned v ∧ w'.ownsRow w.heap.size 5 1 v (stf l).length (bv (stf l)) ∧ Below w.heap.size w w' := by
  obtain ⟨i0, hi, hz0, hz1, hz2⟩ := info_parts Try.info_u8
  have HN := Lib.hid hn
  clear hn
  go_enter Try.func19, Try.ntmps19
  go_wp2_with fail
  go_loopw [3, 4] (fun v i wr => ∃ k : Nat, k ≤ n ∧ i = .int .i64 k ∧ wr.ownsRow w.heap.size 5 1 v (stf (l.take k)).length (bv (stf (l.take k))) ∧ Below w.heap.size w wr) (fun _ i _ => n - (intOf i).toNat)
  case atStart => exact ⟨0, Nat.zero_le _, rfl, World.ownsRow_nil _ _ _ _, Below.refl _ _⟩
  case round =>
    obtain ⟨k, hk, rfl, hown, hb⟩ := hrel
    by_cases hlt : k < n
    · obtain ⟨b, off, rfl, hbb, hc⟩ := hR.at_ (k := k) (by rw [bv_len, HN.out]; exact hlt)
      have hcell : wr.cell? ⟨b, off + k, none⟩ = some (.int .u8 (l.getD k 0)) := (hb.cell hbb).trans (hc k _ (bv_at (by rw [HN.out]; exact hlt)))
      have hst : stf (l.take (k + 1)) = stf (l.take k) ++ stf [l.getD k 0] := by rw [take_snoc (by rw [HN.out]; exact hlt), stf_app]
      have hx := getD_bd hB k
      have hlen := stf_len (l.take k)
      rw [List.length_take, Nat.min_eq_left (by rw [HN.out]; exact hk)] at hlen
      have hc0 : w.cell? ⟨b, off + k, none⟩ = some (.int .u8 (l.getD k 0)) := hc k _ (bv_at (by rw [HN.out]; exact hlt))
      generalize l.getD k 0 = x at *
      have HS := Lib.hid hst
      have HC0 := Lib.hid hc0
      clear hc hst hc0
      obtain ⟨m, hme⟩ : ∃ m, m = (stf (l.take k)).length := ⟨_, rfl⟩
      rw [← hme] at hown hlen
      have HM := Lib.hid hme
      clear hme
      by_cases h5 : x = 255
      · subst h5
        go_wp2_with (first
          | (at_builtin; refine wpList_app _ rfl (.tmp 11) (.tmp 16) 22 rfl Try.underlying22 hi hz0 hz1 hz2 rfl (hown.alloc _) rfl rfl (Rd.new1 _ _ _) rfl (by simp [Value.oneCell']) (by omega) (by omega) (by have := hb.size; simp; omega) ?_; intro v1 w1 hown1 hg1 hat1; have hb1 : Below w.heap.size w w1 := below_app (hb.alloc hb.size _) (hown.alloc _) hg1 (Nat.le_refl _) (by have := hb.size; simp; omega); have hcell1 : w1.cell? ⟨b, off + k, none⟩ = some (.int .u8 255) := (hb1.cell hbb).trans HC0.out)
          | (at_builtin; refine wpList_app _ rfl (.tmp 23) (.tmp 24) 22 rfl Try.underlying22 hi hz0 hz1 hz2 rfl (hown1.alloc _) rfl rfl (Rd.new1 _ _ _) rfl (by simp [Value.oneCell']) (by omega) (by omega) (by have := hb1.size; simp; omega) ?_; intro v2 w2 hown2 hg2 hat2; have hb2 : Below w.heap.size w w2 := below_app (hb1.alloc hb1.size _) (hown1.alloc _) hg2 (Nat.le_refl _) (by have := hb1.size; simp; omega)))
        go_roundw
        case rel =>
          refine ⟨k + 1, by omega, by go_num, ?_, hb2⟩
          rw [HS.out, stf_one, if_pos rfl, List.length_append, ← HM.out, bv_app, show bv [255, 0] = [Value.int .u8 255, .int .u8 0] from rfl]
          rw [List.append_assoc] at hown2
          exact hown2
        case measure => simp [intOf]; omega
      · go_wp2_with (at_builtin; refine wpList_app _ rfl (.tmp 11) (.tmp 16) 22 rfl Try.underlying22 hi hz0 hz1 hz2 rfl (hown.alloc _) rfl rfl (Rd.new1 _ _ _) rfl (by simp [Value.oneCell']) (by omega) (by omega) (by have := hb.size; simp; omega) ?_; intro v1 w1 hown1 hg1 hat1; have hb1 : Below w.heap.size w w1 := below_app (hb.alloc hb.size _) (hown.alloc _) hg1 (Nat.le_refl _) (by have := hb.size; simp; omega); have hcell1 : w1.cell? ⟨b, off + k, none⟩ = some (.int .u8 x) := (hb1.cell hbb).trans HC0.out)
        go_roundw
        case rel =>
          refine ⟨k + 1, by omega, by go_num, ?_, hb1⟩
          rw [HS.out, stf_one, if_neg h5, List.length_append, ← HM.out, bv_app]
          exact hown1
        case measure => simp [intOf]; omega
    · go_wp2_with fail
      go_ret
      have ht : l.take k = l := List.take_of_length_le (by rw [HN.out]; omega)
      rw [ht] at hown
      exact ⟨_, rfl, hown, hb⟩
end Go.Proofs.Ytkmgojoojboidaa
