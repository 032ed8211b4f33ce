/-
  canon's assign of any order, by a contract. No condition.
  A JPEG's codes: what is in form; plain laws. No condition.
-/
import Derived.Test.YtlhappecjjbopaaCaV
namespace Go.Proofs.Ytlhappecjjbopaa
open Go.RowKit
set_option linter.unusedVariables false
set_option maxRecDepth 100000

/-- what is known of the codes behind k symbols -/
def Cdg (ls : List Int) (O : List Nat) (C : List Int) (k : Nat) : Prop := C.length = ls.length ∧ (∀ (i s : Nat), i < k → O[i]? = some s → 0 ≤ C.getD s 0 ∧ C.getD s 0 * wt (ls.getD s 0) = acc (sz ls O) i) ∧ ∀ s, s ∉ O.take k → C.getD s 0 = 0
/-- an order that a book may have -/
structure Ord0 (ls : List Int) (O : List Nat) : Prop where
  zs : Zs (sz ls O)
  nd : O.Pairwise fun a b => a ≠ b ∧ ls.getD a 0 ≤ ls.getD b 0
  mem : ∀ s ∈ O, s < ls.length ∧ 1 ≤ ls.getD s 0 ∧ ls.getD s 0 ≤ 16
  len : O.length ≤ 512
  lls : ls.length ≤ 512
theorem Cdg.ordd {ls : List Int} {O : List Nat} {C : List Int} (h0 : Ord0 ls O) (h : Cdg ls O C O.length) : Ordd ls O C where
  zs := h0.zs
  srt := h0.nd.imp (fun h => h.2)
  mem := h0.mem
  cod := fun i s hi => by
    have hl := (List.getElem?_eq_some_iff.1 hi).1
    have h1 := (h.2.1 i s hl hi).2
    have hz : i < (sz ls O).length := by rw [sz_len]; exact hl
    have h2 := cb_acc h0.zs hz
    rw [sz_at hi] at h2
    have h3 := (h0.mem s (List.mem_of_getElem? hi)).2
    have h4 := two_pos (16 - (ls.getD s 0).toNat)
    rw [← h2, wt_pos (by omega)] at h1
    exact Int.eq_of_mul_eq_mul_right (by omega) h1
  len := h0.len
  lls := h0.lls
  cln := h.1
  bd := fun s => by
    by_cases hs : s ∈ O
    · obtain ⟨i, hi⟩ := List.mem_iff_getElem?.1 hs
      have hl := (List.getElem?_eq_some_iff.1 hi).1
      obtain ⟨h1, h2⟩ := h.2.1 i s hl hi
      have h3 := (h0.mem s hs).2
      have h4 := acc_le h0.zs i
      have hw : 1 ≤ wt (ls.getD s 0) := by rw [wt_pos (by omega)]; exact two_pos _
      have h5 := Int.mul_le_mul_of_nonneg_left hw h1
      rw [Int.mul_one, h2] at h5
      exact ⟨h1, by omega⟩
    · rw [h.2.2 s (fun hm => hs (List.mem_of_mem_take hm))]; omega
theorem Cdg.step {ls : List Int} {O : List Nat} {C : List Int} {k s : Nat} {x : Int} (h0 : Ord0 ls O) (h : Cdg ls O C k) (hs : O[k]? = some s) (hx : 0 ≤ x ∧ x * wt (ls.getD s 0) = acc (sz ls O) k) : Cdg ls O (C.set s x) (k + 1) := by
  have hsl : s < C.length := by rw [h.1]; exact (h0.mem s (List.mem_of_getElem? hs)).1
  have hnd := h0.nd
  refine ⟨by rw [List.length_set]; exact h.1, fun i t hi ht => ?_, fun t ht => ?_⟩
  · by_cases hik : i = k
    · subst hik
      rw [hs] at ht
      injection ht with ht
      subst ht
      rw [getD_set_eq x hsl]; exact hx
    · have hne : s ≠ t := by
        have hil := (List.getElem?_eq_some_iff.1 ht).1
        have hkl := (List.getElem?_eq_some_iff.1 hs).1
        have := (List.pairwise_iff_getElem.1 hnd) i k hil hkl (by omega)
        rw [(List.getElem?_eq_some_iff.1 ht).2, (List.getElem?_eq_some_iff.1 hs).2] at this
        exact fun e => this.1 e.symm
      rw [getD_set_ne x hne]
      exact h.2.1 i t (by omega) ht
  · rw [List.take_add_one, hs] at ht
    simp only [Option.toList_some, List.mem_append, List.mem_singleton, not_or] at ht
    rw [getD_set_ne x (fun e => ht.2 e.symm)]
    exact h.2.2 t ht.1

set_option maxHeartbeats 4000000 in
theorem assignG_any (A A2 : Option Addr) (n c n2 c2 : Nat) (ls : List Int) (O : List Nat) (w : World) (hn : ls.length = n) (hR : Rd w w.heap.size A (iv ls)) (hf : Ord0 ls O)
    (hn2 : O.length = n2) (hR2 : Rd w w.heap.size A2 (nv O)) :
    Calls Try.prog 98 #[.slice A n c, .slice A2 n2 c2] w fun e w' => ∃ C, e = .returned (.slice (some ⟨w.heap.size, 0, none⟩) n n) ∧ w'.ownsRow w.heap.size 3 1 (.slice (some ⟨w.heap.size, 0, none⟩) n n) n (iv C) ∧ Ordd ls O C ∧ Below w.heap.size w w' := by
  have HN := Lib.hid hn
  have HN2 := Lib.hid hn2
  have hn512 : n ≤ 512 := by have := hf.lls; omega
  have hn2b : n2 ≤ 512 := by have := hf.len; omega
  have hmk := make_ints n (by omega)
  have ho := own_ints w (List.replicate n 0) (by rw [List.length_replicate]; omega)
  rw [List.length_replicate] at ho
  have hb0 : Below w.heap.size w (w.alloc (.cells (iv (List.replicate n 0)).toArray 3)) := (Below.refl _ _).alloc (Nat.le_refl _) _
  have hck : Cdg ls O (List.replicate n 0) 0 := ⟨by rw [List.length_replicate, hn], fun i s hi => by omega, fun s _ => by
    rw [List.getD_eq_getElem?_getD, List.getElem?_replicate]; split <;> rfl⟩
  have hat0 : acc (sz ls O) 0 = 0 := rfl
  have HF := Lib.hid hf
  clear hn hn2 hf
  go_enter Try.func98, Try.ntmps98
  go_wp2
  clear hmk
  generalize hg : w.heap.size = g at *
  have HG := Lib.hid hg
  clear hg
  generalize w.alloc (.cells (iv (List.replicate n 0)).toArray 3) = w1 at *
  go_loopw [6, 7, 15] (fun nx la i wr => ∃ k : Nat, k ≤ n2 ∧ i = .int .i64 k ∧ ∃ (x : Int) (y : Nat), nx = .int .i64 x ∧ la = .int .i64 y ∧ (0 ≤ x ∧ x ≤ 65536) ∧ y ≤ 16 ∧ Hid (x * 2 ^ (16 - y) = acc (sz ls O) k) ∧ Hid (∀ s, O[k]? = some s → (y : Int) ≤ ls.getD s 0) ∧
      ∃ C, wr.ownsRow g 3 1 (.slice (some ⟨g, 0, none⟩) n n) n (iv C) ∧ Hid (Cdg ls O C k) ∧ Below g w wr) (fun _ _ i _ => n2 - (intOf i).toNat)
  case atStart => exact ⟨0, Nat.zero_le _, rfl, 0, 0, rfl, rfl, by omega, by omega, Lib.hid (by rw [hat0]; simp), Lib.hid (fun s hs => by have := (HF.out.mem s (List.mem_of_getElem? hs)).2.1; omega), _, ho, Lib.hid hck, hb0⟩
  case round =>
    obtain ⟨k, hk, rfl, x, y, rfl, rfl, hx, hy, HX, HY, C, hown, HC, hb⟩ := hrel
    clear ho hb0 hck hat0
    by_cases hlt : k < n2
    · obtain ⟨s, hs⟩ : ∃ s, O[k]? = some s := ⟨O[k]'(by rw [HN2.out]; exact hlt), List.getElem?_eq_getElem _⟩
      have hsm := HF.out.mem s (List.mem_of_getElem? hs)
      have hsn : s < n := by rw [← HN.out]; exact hsm.1
      obtain ⟨b2, o2, rfl, _, hcell2⟩ := (hR2.below hb).at_ (k := k) (by rw [nv_len, HN2.out]; exact hlt)
      have hc2 := hcell2 k (.int .i64 (s : Int)) (by simp [nv, hs])
      obtain ⟨b1, o1, rfl, _, hcell1⟩ := (hR.below hb).at_ (k := s) (by rw [iv_len, HN.out]; exact hsn)
      have hc1 := hcell1 s _ (ivs_get (by rw [HN.out]; exact hsn))
      have hys := HY.out s hs
      have hb16 : ls.getD s 0 ≤ 16 := hsm.2.2
      have hb1 : 1 ≤ ls.getD s 0 := hsm.2.1
      have hats := acc_succ (sz ls O) k (by rw [sz_len, HN2.out]; exact hlt)
      rw [sz_at hs] at hats
      have hwt := wt_pos (x := ls.getD s 0) (by omega)
      have hatk := acc_le HF.out.zs k
      have hatk1 := acc_le HF.out.zs (k + 1)
      have hsrt := HF.out.nd
      have hnext : ∀ t, O[k + 1]? = some t → ls.getD s 0 ≤ ls.getD t 0 := fun t ht => by
        have hil := (List.getElem?_eq_some_iff.1 hs).1
        have hkl := (List.getElem?_eq_some_iff.1 ht).1
        have := (List.pairwise_iff_getElem.1 hsrt) k (k + 1) hil hkl (by omega)
        rw [(List.getElem?_eq_some_iff.1 hs).2, (List.getElem?_eq_some_iff.1 ht).2] at this
        exact this.2
      have hstep := fun z hz => Cdg.step (x := z) HF.out HC.out hs hz
      rw [hwt] at hstep hats
      obtain ⟨l, hl⟩ := Int.eq_ofNat_of_zero_le (show 0 ≤ ls.getD s 0 by omega)
      rw [hl] at hc1 hys hb16 hb1 hstep hats hnext
      rw [Int.toNat_natCast] at hstep hats
      have hly : y ≤ l ∧ l ≤ 16 ∧ 1 ≤ l := by omega
      obtain ⟨x', hx'⟩ : ∃ x', x' = x * 2 ^ (l - y) := ⟨_, rfl⟩
      have hxk : x' * 2 ^ (16 - l) = acc (sz ls O) k := by
        rw [hx', Int.mul_assoc, ← Int.pow_add, show l - y + (16 - l) = 16 - y by omega]; exact HX.out
      have hxb : 0 ≤ x' ∧ x' ≤ 65535 := by
        have h1 := two_pos (16 - l)
        have h2 := two_pos (l - y)
        have h3 : 0 ≤ x' := by rw [hx']; exact Int.mul_nonneg hx.1 (by omega)
        refine ⟨h3, ?_⟩
        have h4 : (x' + 1) * 2 ^ (16 - l) ≤ 65536 := by rw [Int.add_mul, hxk, Int.one_mul]; omega
        have h5 : (x' + 1) * 1 ≤ (x' + 1) * 2 ^ (16 - l) := Int.mul_le_mul_of_nonneg_left h1 (by omega)
        omega
      have hsh : wrap64 (x * 2 ^ min (l - y) 64) = x' := by rw [Nat.min_eq_left (by omega), ← hx', IntWalk.wrap64_in _ ⟨by omega, by omega⟩]
      have hsh2 : wrap64 (x * 2 ^ (l - y)) = x' := by rw [← hx', IntWalk.wrap64_in _ ⟨by omega, by omega⟩]
      have hnew := hstep x' ⟨hxb.1, hxk⟩
      have hxk1 : (x' + 1) * 2 ^ (16 - l) = acc (sz ls O) (k + 1) := by rw [Int.add_mul, hxk, Int.one_mul, hats]
      have HNEW := Lib.hid hnew
      have HXK := Lib.hid hxk1
      have HNX := Lib.hid hnext
      have hfz := World.ownsRow.frozenAt hown s
      have hcl := World.ownsRow.cellAt hown s (by omega)
      have hCl : C.length = n := by rw [HC.out.1, HN.out]
      rw [ivs_get (by rw [hCl]; exact hsn)] at hcl
      have HST := Lib.hid (own_set hown s x')
      have hwg : g ≤ g := Nat.le_refl _
      clear hcell1 hcell2 hs hsm hstep hats hwt hatk hatk1 hsrt hl hx' hxk hnew hxk1 hnext hCl hown HC
      generalize C.getD s 0 = cv at *
      go_wp2
      go_roundw
      case rel => exact ⟨k + 1, by omega, by go_num, x' + 1, l, rfl, rfl, by omega, by omega, Lib.hid HXK.out, Lib.hid (fun t ht => HNX.out t ht), _, HST.out, Lib.hid HNEW.out, hb.setCell hwg _⟩
      case measure => simp [intOf]; omega
    · have hkn : k = n2 := by omega
      have hcd : Ordd ls O C := by
        have h := HC.out
        rw [hkn, ← HN2.out] at h
        exact h.ordd HF.out
      have HCD := Lib.hid hcd
      clear hkn hcd
      go_wp2
      go_ret
      rw [HG.out]
      exact ⟨C, rfl, hown, HCD.out, hb⟩
end Go.Proofs.Ytlhappecjjbopaa
namespace Go.Proofs.Ytlhappecjjbopaa
set_option linter.unusedVariables false

/-- sizes by counts, of the lengths up to i; and k of the next one -/
def TzI (cn : List Int) (i : Nat) : List Int := (List.range i).flatMap fun j => List.replicate (cn.getD j 0).toNat ((j + 1 : Nat) : Int)
def TzK (cn : List Int) (i k : Nat) : List Int := TzI cn i ++ List.replicate k ((i + 1 : Nat) : Int)
theorem TzI_succ (cn : List Int) (i : Nat) : TzI cn (i + 1) = TzK cn i (cn.getD i 0).toNat := by
  unfold TzK TzI
  rw [List.range_succ, List.flatMap_append]
  simp
theorem TzK_zero (cn : List Int) (i : Nat) : TzK cn i 0 = TzI cn i := by simp [TzK]
theorem TzK_succ (cn : List Int) (i k : Nat) : TzK cn i (k + 1) = TzK cn i k ++ [((i + 1 : Nat) : Int)] := by
  unfold TzK
  rw [List.replicate_succ', List.append_assoc]
theorem TzI_len_le (cn : List Int) {i j : Nat} (h : i ≤ j) : (TzI cn i).length ≤ (TzI cn j).length := by
  obtain ⟨d, rfl⟩ : ∃ d, j = i + d := ⟨j - i, by omega⟩
  induction d with
  | zero => exact Nat.le_refl _
  | succ d ih =>
    have := ih (by omega)
    rw [← Nat.add_assoc, TzI_succ]
    unfold TzK
    rw [List.length_append]; omega
theorem TzK_len (cn : List Int) (i k : Nat) : (TzK cn i k).length = (TzI cn i).length + k := by simp [TzK]
theorem TzI_rng (cn : List Int) : ∀ i : Nat, (∀ x ∈ TzI cn i, 1 ≤ x ∧ x ≤ i) ∧ (TzI cn i).Pairwise fun a b => a ≤ b
  | 0 => ⟨by simp [TzI], by simp [TzI]⟩
  | i + 1 => by
    obtain ⟨h1, h2⟩ := TzI_rng cn i
    rw [TzI_succ]
    unfold TzK
    refine ⟨fun x hx => ?_, ?_⟩
    · rcases List.mem_append.1 hx with hx | hx
      · have := h1 x hx; omega
      · have := (List.mem_replicate.1 hx).2; omega
    · rw [List.pairwise_append]
      refine ⟨h2, List.pairwise_replicate.2 (.inr (Int.le_refl _)), fun a ha b hb => ?_⟩
      have := h1 a ha
      have := (List.mem_replicate.1 hb).2
      omega
/-- counts and symbols in form -/
def TabOk (cn ss : List Int) : Prop := (∀ i, i < 16 → 0 ≤ cn.getD i 0) ∧ (TzI cn 16).length = ss.length ∧ ss.Nodup ∧ su ((TzI cn 16).map wt) < 65536

theorem su_set : ∀ (l : List Int) (i : Nat) (x : Int), i < l.length → su ((l.set i x).map wt) = su (l.map wt) - wt (l.getD i 0) + wt x
  | [], i, x, h => by simp at h
  | a :: l, 0, x, h => by simp [su]; omega
  | a :: l, i + 1, x, h => by
    have := su_set l i x (by simpa using h)
    simp only [List.set_cons_succ, List.map_cons, su, List.getD_cons_succ] at this ⊢
    omega
/-- a table in the making -/
structure Tb (cn ss : List Int) (i k : Nat) (ls : List Int) (O : List Nat) : Prop where
  ll : ls.length = 256
  so : sy O = ss.take O.length
  szz : sz ls O = TzK cn i k
  nd : O.Nodup
  zr : ∀ s, s ∉ O → ls.getD s 0 = 0
  pos : ∀ s ∈ O, 0 < ls.getD s 0
  lt : ∀ s ∈ O, s < 256
  nn : ∀ j, j < i → 0 ≤ cn.getD j 0
  le : O.length ≤ ss.length
  vl : Vl ls
  krr : kr ls = su ((sz ls O).map wt)
section
variable {cn ss ls : List Int} {i k : Nat} {O : List Nat}
theorem Tb.zero (cn ss : List Int) : Tb cn ss 0 0 (List.replicate 256 0) [] where
  ll := List.length_replicate
  so := rfl
  szz := rfl
  nd := List.nodup_nil
  zr := fun s _ => by rw [List.getD_eq_getElem?_getD, List.getElem?_replicate]; split <;> rfl
  pos := fun s hs => by cases hs
  lt := fun s hs => by cases hs
  nn := fun j h => by omega
  le := Nat.zero_le _
  vl := fun x hx => by have := (List.mem_replicate.1 hx).2; omega
  krr := by decide +kernel
theorem Tb.len (h : Tb cn ss i k ls O) : O.length = (TzI cn i).length + k := by
  rw [← TzK_len, ← h.szz, sz_len]
theorem Tb.next (h : Tb cn ss i (cn.getD i 0).toNat ls O) (h0 : 0 ≤ cn.getD i 0) : Tb cn ss (i + 1) 0 ls O :=
  ⟨h.ll, h.so, by rw [TzK_zero, TzI_succ]; exact h.szz, h.nd, h.zr, h.pos, h.lt, fun j hj => by
    rcases Nat.lt_or_ge j i with h1 | h1
    · exact h.nn j h1
    · obtain rfl : j = i := by omega
      exact h0, h.le, h.vl, h.krr⟩
theorem Tb.step (h : Tb cn ss i k ls O) (hi : i < 16) {s : Nat} (hs : ss[O.length]? = some (s : Int)) (h256 : s < 256) (h0 : ls.getD s 0 = 0) : Tb cn ss i (k + 1) (ls.set s ((i + 1 : Nat) : Int)) (O ++ [s]) := by
  have hno : s ∉ O := fun hm => by have := h.pos s hm; omega
  have hsl : s < ls.length := by rw [h.ll]; exact h256
  have hnm : ∀ t ∈ O, t ≠ s := fun t ht e => hno (e ▸ ht)
  have hsz : sz (ls.set s ((i + 1 : Nat) : Int)) (O ++ [s]) = sz ls O ++ [((i + 1 : Nat) : Int)] := by
    unfold sz
    rw [List.map_append]
    congr 1
    · exact List.map_congr_left (fun t ht => getD_set_ne _ (fun e => hnm t ht e.symm))
    · simp only [List.map_cons, List.map_nil]
      rw [getD_set_eq _ hsl]
  have hl := (List.getElem?_eq_some_iff.1 hs).1
  refine ⟨by rw [List.length_set]; exact h.ll, ?_, by rw [hsz, h.szz, TzK_succ], ?_, fun t ht => ?_, fun t ht => ?_, fun t ht => ?_, h.nn, by rw [List.length_append]; simp; omega, fun x hx => ?_, ?_⟩
  · rw [sy_app, h.so, List.length_append]
    simp only [List.length_cons, List.length_nil, Nat.zero_add]
    rw [List.take_add_one, hs]; rfl
  · rw [List.nodup_append]
    refine ⟨h.nd, by simp, fun a ha b hb => ?_⟩
    simp only [List.mem_singleton] at hb
    subst hb
    exact hnm a ha
  · simp only [List.mem_append, List.mem_singleton, not_or] at ht
    rw [getD_set_ne _ (fun e => ht.2 e.symm)]
    exact h.zr t ht.1
  · rcases List.mem_append.1 ht with ht | ht
    · rw [getD_set_ne _ (fun e => hnm t ht e.symm)]
      exact h.pos t ht
    · simp only [List.mem_singleton] at ht
      subst ht
      rw [getD_set_eq _ hsl]; omega
  · rcases List.mem_append.1 ht with ht | ht
    · exact h.lt t ht
    · simp only [List.mem_singleton] at ht
      subst ht; exact h256
  · rcases List.mem_or_eq_of_mem_set hx with hx | hx
    · exact h.vl x hx
    · omega
  · unfold kr
    rw [su_set _ _ _ hsl, h0, hsz, List.map_append, su_app, ← h.krr]
    have h1 : wt 0 = 0 := by decide
    have h2 : su (List.map wt [((i + 1 : Nat) : Int)]) = wt ((i + 1 : Nat) : Int) := by simp [su]
    rw [h1, h2]
    unfold kr; omega
/-- a symbol that stands twice -/
theorem Tb.dup (h : Tb cn ss i k ls O) {s : Nat} (hs : ss[O.length]? = some (s : Int)) (h0 : 0 < ls.getD s 0) : ¬ TabOk cn ss := fun hok => by
  have hm : s ∈ O := Classical.byContradiction (fun hn => by have := h.zr s hn; omega)
  have hm2 : (s : Int) ∈ ss.take O.length := by rw [← h.so]; exact List.mem_map.2 ⟨s, hm, rfl⟩
  obtain ⟨j, hj⟩ := List.mem_iff_getElem?.1 hm2
  rw [List.getElem?_take] at hj
  split at hj
  · rename_i hlt
    have hn := hok.2.2.1
    have h1 := (List.getElem?_eq_some_iff.1 hj)
    have h2 := (List.getElem?_eq_some_iff.1 hs)
    obtain ⟨h1a, h1b⟩ := h1
    obtain ⟨h2a, h2b⟩ := h2
    have := (List.pairwise_iff_getElem.1 hn) j O.length h1a h2a hlt
    rw [h1b, h2b] at this
    exact this rfl
  · cases hj
theorem Tb.neg (h : Tb cn ss i k ls O) (hi : i < 16) (h0 : cn.getD i 0 < 0) : ¬ TabOk cn ss := fun hok => by have := hok.1 i hi; omega
theorem Tb.many (h : Tb cn ss i 0 ls O) (hi : i < 16) (h0 : (ss.length : Int) - O.length < cn.getD i 0) : ¬ TabOk cn ss := fun hok => by
  have h1 := h.len
  have h2 := TzI_len_le cn (show i + 1 ≤ 16 by omega)
  rw [TzI_succ, TzK_len, hok.2.1] at h2
  omega
theorem Tb.few (h : Tb cn ss 16 0 ls O) (h0 : O.length < ss.length) : ¬ TabOk cn ss := fun hok => by
  have h1 := h.len
  have h2 := hok.2.1
  omega
theorem Tb.sum (h : Tb cn ss 16 0 ls O) : kr ls = su ((TzI cn 16).map wt) := by rw [h.krr, h.szz, TzK_zero]
theorem Tb.ok (h : Tb cn ss 16 0 ls O) (h0 : O.length = ss.length) (hk : kr ls < 65536) : TabOk cn ss := by
  refine ⟨h.nn, ?_, ?_, ?_⟩
  · have h1 := h.len; omega
  · have h1 := h.so
    rw [h0, List.take_length] at h1
    rw [← h1]
    refine (List.pairwise_map.2 (h.nd.imp (fun {a b} hab e => hab (by omega))))
  · rw [← h.sum]; exact hk
theorem Tb.syms (h : Tb cn ss 16 0 ls O) (h0 : O.length = ss.length) : sy O = ss := by rw [h.so, h0, List.take_length]
theorem zs_of (h1 : su ((TzI cn 16).map wt) ≤ 65536) : Zs (TzI cn 16) :=
  ⟨fun z hz => by have := (TzI_rng cn 16).1 z hz; omega, (TzI_rng cn 16).2, h1⟩
theorem nodup_le {l : List Nat} {n : Nat} (hn : l.Nodup) (h : ∀ s ∈ l, s < n) : l.length ≤ n := by
  induction n generalizing l with
  | zero =>
    rcases l with _ | ⟨a, l⟩
    · simp
    · have := h a (by simp); omega
  | succ n ih =>
    have h1 := ih (l := l.filter (fun s => decide (s ≠ n))) (hn.filter _) (fun s hs => by
      have := List.mem_filter.1 hs
      have h2 := h s this.1
      have h3 := of_decide_eq_true this.2
      omega)
    have h2 : l.length = (l.filter (fun s => decide (s ≠ n))).length + (l.filter (fun s => decide (s = n))).length := by
      have := filter_two (fun s : Nat => decide (s ≠ n)) (fun s : Nat => decide (s = n)) (fun _ => true) l (fun x _ => by by_cases hx : x = n <;> simp [hx])
      rwa [List.filter_eq_self.2 (by simp)] at this
    have h3 : (l.filter (fun s => decide (s = n))).length ≤ 1 := by
      have h4 := hn.filter (fun s => decide (s = n))
      have h5 : ∀ x ∈ l.filter (fun s => decide (s = n)), x = n := fun x hx => of_decide_eq_true (List.mem_filter.1 hx).2
      match l.filter (fun s => decide (s = n)), h4, h5 with
      | [], _, _ => simp
      | [a], _, _ => simp
      | a :: b :: t, h4, h5 =>
        have ha := h5 a (by simp)
        have hb := h5 b (by simp)
        rw [List.pairwise_cons] at h4
        exact absurd (ha.trans hb.symm) (h4.1 b (by simp))
    omega
theorem Tb.ord0 (h : Tb cn ss 16 0 ls O) (hk : kr ls ≤ 65536) : Ord0 ls O where
  zs := by rw [h.szz, TzK_zero]; exact zs_of (by rw [← h.sum]; exact hk)
  nd := by
    have h1 : (sz ls O).Pairwise fun a b => a ≤ b := by rw [h.szz, TzK_zero]; exact (TzI_rng cn 16).2
    unfold sz at h1
    rw [List.pairwise_map] at h1
    exact h.nd.imp₂ (fun _ _ a b => ⟨a, b⟩) h1
  mem := fun s hs => by
    refine ⟨by rw [h.ll]; exact h.lt s hs, by have := h.pos s hs; omega, ?_⟩
    have := h.vl _ (getD_in (l := ls) (k := s) (by rw [h.ll]; exact h.lt s hs))
    exact this.2
  len := by have := nodup_le h.nd h.lt; omega
  lls := by rw [h.ll]; omega
end
end Go.Proofs.Ytlhappecjjbopaa
