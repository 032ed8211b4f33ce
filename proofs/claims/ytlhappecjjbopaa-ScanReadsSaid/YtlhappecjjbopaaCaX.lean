/-
  canon's assign of any order, by a contract. No condition.
-/
import Derived.Test.YtlhappecjjbopaaCaT
namespace Go.Proofs.Ytlhappecjjbopaa
open Go.RowKit
set_option linter.unusedVariables false
set_option maxRecDepth 100000

/-- what is known of the codes behind k symbols -/
def Cdg (ls : List Int) (O : List Nat) (C : List Int) (k : Nat) : Prop := C.length = ls.length ∧ (∀ (i s : Nat), i < k → O[i]? = some s → 0 ≤ C.getD s 0 ∧ C.getD s 0 * wt (ls.getD s 0) = acc (sz ls O) i) ∧ ∀ s, s ∉ O.take k → C.getD s 0 = 0
/-- an order that a book may have -/
structure Ord0 (ls : List Int) (O : List Nat) : Prop where
  zs : Zs (sz ls O)
  nd : O.Pairwise fun a b => a ≠ b ∧ ls.getD a 0 ≤ ls.getD b 0
  mem : ∀ s ∈ O, s < ls.length ∧ 1 ≤ ls.getD s 0 ∧ ls.getD s 0 ≤ 16
  len : O.length ≤ 512
  lls : ls.length ≤ 512
theorem Cdg.ordd {ls : List Int} {O : List Nat} {C : List Int} (h0 : Ord0 ls O) (h : Cdg ls O C O.length) : Ordd ls O C where
  zs := h0.zs
  srt := h0.nd.imp (fun h => h.2)
  mem := h0.mem
  cod := fun i s hi => by
    have hl := (List.getElem?_eq_some_iff.1 hi).1
    have h1 := (h.2.1 i s hl hi).2
    have hz : i < (sz ls O).length := by rw [sz_len]; exact hl
    have h2 := cb_acc h0.zs hz
    rw [sz_at hi] at h2
    have h3 := (h0.mem s (List.mem_of_getElem? hi)).2
    have h4 := two_pos (16 - (ls.getD s 0).toNat)
    rw [← h2, wt_pos (by omega)] at h1
    exact Int.eq_of_mul_eq_mul_right (by omega) h1
  len := h0.len
  lls := h0.lls
  cln := h.1
  bd := fun s => by
    by_cases hs : s ∈ O
    · obtain ⟨i, hi⟩ := List.mem_iff_getElem?.1 hs
      have hl := (List.getElem?_eq_some_iff.1 hi).1
      obtain ⟨h1, h2⟩ := h.2.1 i s hl hi
      have h3 := (h0.mem s hs).2
      have h4 := acc_le h0.zs i
      have hw : 1 ≤ wt (ls.getD s 0) := by rw [wt_pos (by omega)]; exact two_pos _
      have h5 := Int.mul_le_mul_of_nonneg_left hw h1
      rw [Int.mul_one, h2] at h5
      exact ⟨h1, by omega⟩
    · rw [h.2.2 s (fun hm => hs (List.mem_of_mem_take hm))]; omega
theorem Cdg.step {ls : List Int} {O : List Nat} {C : List Int} {k s : Nat} {x : Int} (h0 : Ord0 ls O) (h : Cdg ls O C k) (hs : O[k]? = some s) (hx : 0 ≤ x ∧ x * wt (ls.getD s 0) = acc (sz ls O) k) : Cdg ls O (C.set s x) (k + 1) := by
  have hsl : s < C.length := by rw [h.1]; exact (h0.mem s (List.mem_of_getElem? hs)).1
  have hnd := h0.nd
  refine ⟨by rw [List.length_set]; exact h.1, fun i t hi ht => ?_, fun t ht => ?_⟩
  · by_cases hik : i = k
    · subst hik
      rw [hs] at ht
      injection ht with ht
      subst ht
      rw [getD_set_eq x hsl]; exact hx
    · have hne : s ≠ t := by
        have hil := (List.getElem?_eq_some_iff.1 ht).1
        have hkl := (List.getElem?_eq_some_iff.1 hs).1
        have := (List.pairwise_iff_getElem.1 hnd) i k hil hkl (by omega)
        rw [(List.getElem?_eq_some_iff.1 ht).2, (List.getElem?_eq_some_iff.1 hs).2] at this
        exact fun e => this.1 e.symm
      rw [getD_set_ne x hne]
      exact h.2.1 i t (by omega) ht
  · rw [List.take_add_one, hs] at ht
    simp only [Option.toList_some, List.mem_append, List.mem_singleton, not_or] at ht
    rw [getD_set_ne x (fun e => ht.2 e.symm)]
    exact h.2.2 t ht.1

set_option maxHeartbeats 4000000 in
theorem assignG_any (A A2 : Option Addr) (n c n2 c2 : Nat) (ls : List Int) (O : List Nat) (w : World) (hn : ls.length = n) (hR : Rd w w.heap.size A (iv ls)) (hf : Ord0 ls O)
    (hn2 : O.length = n2) (hR2 : Rd w w.heap.size A2 (nv O)) :
    Calls Try.prog 98 #[.slice A n c, .slice A2 n2 c2] w fun e w' => ∃ C, e = .returned (.slice (some ⟨w.heap.size, 0, none⟩) n n) ∧ w'.ownsRow w.heap.size 3 1 (.slice (some ⟨w.heap.size, 0, none⟩) n n) n (iv C) ∧ Ordd ls O C ∧ Below w.heap.size w w' := by
  have HN := Lib.hid hn
  have HN2 := Lib.hid hn2
  have hn512 : n ≤ 512 := by have := hf.lls; omega
  have hn2b : n2 ≤ 512 := by have := hf.len; omega
  have hmk := make_ints n (by omega)
  have ho := own_ints w (List.replicate n 0) (by rw [List.length_replicate]; omega)
  rw [List.length_replicate] at ho
  have hb0 : Below w.heap.size w (w.alloc (.cells (iv (List.replicate n 0)).toArray 3)) := (Below.refl _ _).alloc (Nat.le_refl _) _
  have hck : Cdg ls O (List.replicate n 0) 0 := ⟨by rw [List.length_replicate, hn], fun i s hi => by omega, fun s _ => by
    rw [List.getD_eq_getElem?_getD, List.getElem?_replicate]; split <;> rfl⟩
  have hat0 : acc (sz ls O) 0 = 0 := rfl
  have HF := Lib.hid hf
  clear hn hn2 hf
  go_enter Try.func98, Try.ntmps98
  go_wp2
  clear hmk
  generalize hg : w.heap.size = g at *
  have HG := Lib.hid hg
  clear hg
  generalize w.alloc (.cells (iv (List.replicate n 0)).toArray 3) = w1 at *
  go_loopw [6, 7, 15] (fun nx la i wr => ∃ k : Nat, k ≤ n2 ∧ i = .int .i64 k ∧ ∃ (x : Int) (y : Nat), nx = .int .i64 x ∧ la = .int .i64 y ∧ (0 ≤ x ∧ x ≤ 65536) ∧ y ≤ 16 ∧ Hid (x * 2 ^ (16 - y) = acc (sz ls O) k) ∧ Hid (∀ s, O[k]? = some s → (y : Int) ≤ ls.getD s 0) ∧
      ∃ C, wr.ownsRow g 3 1 (.slice (some ⟨g, 0, none⟩) n n) n (iv C) ∧ Hid (Cdg ls O C k) ∧ Below g w wr) (fun _ _ i _ => n2 - (intOf i).toNat)
  case atStart => exact ⟨0, Nat.zero_le _, rfl, 0, 0, rfl, rfl, by omega, by omega, Lib.hid (by rw [hat0]; simp), Lib.hid (fun s hs => by have := (HF.out.mem s (List.mem_of_getElem? hs)).2.1; omega), _, ho, Lib.hid hck, hb0⟩
  case round =>
    obtain ⟨k, hk, rfl, x, y, rfl, rfl, hx, hy, HX, HY, C, hown, HC, hb⟩ := hrel
    clear ho hb0 hck hat0
    by_cases hlt : k < n2
    · obtain ⟨s, hs⟩ : ∃ s, O[k]? = some s := ⟨O[k]'(by rw [HN2.out]; exact hlt), List.getElem?_eq_getElem _⟩
      have hsm := HF.out.mem s (List.mem_of_getElem? hs)
      have hsn : s < n := by rw [← HN.out]; exact hsm.1
      obtain ⟨b2, o2, rfl, _, hcell2⟩ := (hR2.below hb).at_ (k := k) (by rw [nv_len, HN2.out]; exact hlt)
      have hc2 := hcell2 k (.int .i64 (s : Int)) (by simp [nv, hs])
      obtain ⟨b1, o1, rfl, _, hcell1⟩ := (hR.below hb).at_ (k := s) (by rw [iv_len, HN.out]; exact hsn)
      have hc1 := hcell1 s _ (ivs_get (by rw [HN.out]; exact hsn))
      have hys := HY.out s hs
      have hb16 : ls.getD s 0 ≤ 16 := hsm.2.2
      have hb1 : 1 ≤ ls.getD s 0 := hsm.2.1
      have hats := acc_succ (sz ls O) k (by rw [sz_len, HN2.out]; exact hlt)
      rw [sz_at hs] at hats
      have hwt := wt_pos (x := ls.getD s 0) (by omega)
      have hatk := acc_le HF.out.zs k
      have hatk1 := acc_le HF.out.zs (k + 1)
      have hsrt := HF.out.nd
      have hnext : ∀ t, O[k + 1]? = some t → ls.getD s 0 ≤ ls.getD t 0 := fun t ht => by
        have hil := (List.getElem?_eq_some_iff.1 hs).1
        have hkl := (List.getElem?_eq_some_iff.1 ht).1
        have := (List.pairwise_iff_getElem.1 hsrt) k (k + 1) hil hkl (by omega)
        rw [(List.getElem?_eq_some_iff.1 hs).2, (List.getElem?_eq_some_iff.1 ht).2] at this
        exact this.2
      have hstep := fun z hz => Cdg.step (x := z) HF.out HC.out hs hz
      rw [hwt] at hstep hats
      obtain ⟨l, hl⟩ := Int.eq_ofNat_of_zero_le (show 0 ≤ ls.getD s 0 by omega)
      rw [hl] at hc1 hys hb16 hb1 hstep hats hnext
      rw [Int.toNat_natCast] at hstep hats
      have hly : y ≤ l ∧ l ≤ 16 ∧ 1 ≤ l := by omega
      obtain ⟨x', hx'⟩ : ∃ x', x' = x * 2 ^ (l - y) := ⟨_, rfl⟩
      have hxk : x' * 2 ^ (16 - l) = acc (sz ls O) k := by
        rw [hx', Int.mul_assoc, ← Int.pow_add, show l - y + (16 - l) = 16 - y by omega]; exact HX.out
      have hxb : 0 ≤ x' ∧ x' ≤ 65535 := by
        have h1 := two_pos (16 - l)
        have h2 := two_pos (l - y)
        have h3 : 0 ≤ x' := by rw [hx']; exact Int.mul_nonneg hx.1 (by omega)
        refine ⟨h3, ?_⟩
        have h4 : (x' + 1) * 2 ^ (16 - l) ≤ 65536 := by rw [Int.add_mul, hxk, Int.one_mul]; omega
        have h5 : (x' + 1) * 1 ≤ (x' + 1) * 2 ^ (16 - l) := Int.mul_le_mul_of_nonneg_left h1 (by omega)
        omega
      have hsh : wrap64 (x * 2 ^ min (l - y) 64) = x' := by rw [Nat.min_eq_left (by omega), ← hx', IntWalk.wrap64_in _ ⟨by omega, by omega⟩]
      have hsh2 : wrap64 (x * 2 ^ (l - y)) = x' := by rw [← hx', IntWalk.wrap64_in _ ⟨by omega, by omega⟩]
      have hnew := hstep x' ⟨hxb.1, hxk⟩
      have hxk1 : (x' + 1) * 2 ^ (16 - l) = acc (sz ls O) (k + 1) := by rw [Int.add_mul, hxk, Int.one_mul, hats]
      have HNEW := Lib.hid hnew
      have HXK := Lib.hid hxk1
      have HNX := Lib.hid hnext
      have hfz := World.ownsRow.frozenAt hown s
      have hcl := World.ownsRow.cellAt hown s (by omega)
      have hCl : C.length = n := by rw [HC.out.1, HN.out]
      rw [ivs_get (by rw [hCl]; exact hsn)] at hcl
      have HST := Lib.hid (own_set hown s x')
      have hwg : g ≤ g := Nat.le_refl _
      clear hcell1 hcell2 hs hsm hstep hats hwt hatk hatk1 hsrt hl hx' hxk hnew hxk1 hnext hCl hown HC
      generalize C.getD s 0 = cv at *
      go_wp2
      go_roundw
      case rel => exact ⟨k + 1, by omega, by go_num, x' + 1, l, rfl, rfl, by omega, by omega, Lib.hid HXK.out, Lib.hid (fun t ht => HNX.out t ht), _, HST.out, Lib.hid HNEW.out, hb.setCell hwg _⟩
      case measure => simp [intOf]; omega
    · have hkn : k = n2 := by omega
      have hcd : Ordd ls O C := by
        have h := HC.out
        rw [hkn, ← HN2.out] at h
        exact h.ordd HF.out
      have HCD := Lib.hid hcd
      clear hkn hcd
      go_wp2
      go_ret
      rw [HG.out]
      exact ⟨C, rfl, hown, HCD.out, hb⟩
end Go.Proofs.Ytlhappecjjbopaa
