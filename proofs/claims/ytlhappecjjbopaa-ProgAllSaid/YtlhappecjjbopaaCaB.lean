/-
  canon.Free, order, assign, Codes, by contracts. Conditions: at most 100000 lengths.
-/
import Derived.Test.YtlhappecjjbopaaLib
import Derived.Test.YtlhappecjjbopaaMake
import Derived.Test.YtlhappecjjbopaaBiD
namespace Go.Proofs.Ytlhappecjjbopaa
open Go.RowKit
set_option linter.unusedVariables false
set_option maxRecDepth 100000

theorem kr_take (ls : List Int) (k : Nat) (hk : k < ls.length) : kr (ls.take (k + 1)) = kr (ls.take k) + wt (ls.getD k 0) := by
  unfold kr
  rw [List.take_add_one, List.getElem?_eq_getElem hk, List.getD_eq_getElem?_getD, List.getElem?_eq_getElem hk, List.map_append, su_app]; simp [su]
theorem kr_bd {ls : List Int} (hv : Vl ls) : 0 ≤ kr ls ∧ kr ls ≤ 32768 * ls.length := by
  induction ls with
  | nil => simp [kr, su]
  | cons x l ih =>
    have h1 := ih (fun y hy => hv y (by simp [hy]))
    have h2 := wt_le x
    have h3 := wt_nn (hv x (by simp)).2
    have h4 : kr (x :: l) = wt x + kr l := rfl
    rw [h4, List.length_cons]; omega
theorem getD_in {l : List Int} {k : Nat} (hk : k < l.length) : l.getD k 0 ∈ l := by rw [List.getD_eq_getElem?_getD, List.getElem?_eq_getElem hk]; exact List.getElem_mem _
theorem take_add {l : List Int} {k : Nat} (hk : k < l.length) : l.take (k + 1) = l.take k ++ [l.getD k 0] := by
  rw [List.take_add_one, List.getElem?_eq_getElem hk, List.getD_eq_getElem?_getD, List.getElem?_eq_getElem hk]; rfl

def Freed (ls : List Int) (w : World) (e : Ending) (w' : World) : Prop :=
  (Fm ls → e = .returned (.tuple #[.int .i64 (65536 - kr ls), .nilIface])) ∧ (¬ Fm ls → e = .returned (.tuple #[.int .i64 0, errV 6])) ∧ w = w'

set_option maxHeartbeats 1000000 in
theorem free_any (A : Option Addr) (n c : Nat) (ls : List Int) (B : Nat) (w : World) (hn : ls.length = n) (hR : Rd w B A (iv ls)) (hI : Is ls) :
    Calls Try.prog 32 #[.slice A n c] w (Freed ls w) := by
  have HN := Lib.hid hn
  by_cases hl : 512 < n
  · have hnf : ¬ Fm ls := fun h => by have := h.1; omega
    have HNF := Lib.hid hnf
    clear hn hnf
    go_enter Try.func32, Try.ntmps32
    go_wp2
    go_ret2
    exact ⟨fun h => absurd h HNF.out, fun _ => rfl, rfl⟩
  clear hn
  go_enter Try.func32, Try.ntmps32
  go_wp2
  go_loop [4, 13] (fun v i => ∃ k : Nat, k ≤ n ∧ i = .int .i64 k ∧ v = .int .i64 (65536 - kr (ls.take k)) ∧ Vl (ls.take k)) (fun _ i => n - (intOf i).toNat)
  case atStart => exact ⟨0, Nat.zero_le _, rfl, rfl, by intro x hx; simp at hx⟩
  case round =>
    obtain ⟨k, hk, rfl, rfl, hv⟩ := hrel
    have hkb := kr_bd hv
    have hkl : (ls.take k).length ≤ 512 := by rw [List.length_take]; omega
    have HV := Lib.hid hv
    clear hv
    by_cases hlt : k < n
    · obtain ⟨b, off, rfl, _, hcell⟩ := hR.at_ (k := k) (by rw [iv_len, HN.out]; exact hlt)
      have hc := hcell k _ (ivs_get (by rw [HN.out]; exact hlt))
      have hin := getD_in (l := ls) (k := k) (by rw [HN.out]; exact hlt)
      have hxb := hI _ hin
      have hkt := kr_take ls k (by rw [HN.out]; exact hlt)
      have htk := take_add (l := ls) (k := k) (by rw [HN.out]; exact hlt)
      have HIN := Lib.hid hin
      have HKT := Lib.hid hkt
      have HTK := Lib.hid htk
      clear hcell hin hkt htk
      generalize ls.getD k 0 = x at *
      by_cases hx : 0 ≤ x ∧ x ≤ 16
      · have HVN : Hid (Vl (ls.take (k + 1))) := Lib.hid (by
          rw [HTK.out]; intro y hy
          rcases List.mem_append.1 hy with hy | hy
          · exact HV.out y hy
          · simp at hy; rw [hy]; exact hx)
        by_cases hx0 : 0 < x
        · obtain ⟨X, rfl⟩ := Int.eq_ofNat_of_zero_le hx.1
          have hwx : (65536 : Int) / 2 ^ min X 64 = wt X := by unfold wt; rw [if_pos hx0, Int.toNat_natCast, Nat.min_eq_left (by omega)]
          have hwx2 : (65536 : Int) / 2 ^ X = wt X := by unfold wt; rw [if_pos hx0, Int.toNat_natCast]
          have hw1 := wt_le (X : Int)
          have hw2 := wt_nn hx.2
          generalize wt (X : Int) = W at *
          generalize kr (ls.take k) = K at *
          go_wp2
          go_round
          case rel => exact ⟨k + 1, by omega, by go_num, by rw [HKT.out, show (65536 : Int) - (K + W) = 65536 - K - W by omega], HVN.out⟩
          case measure => simp [intOf]; omega
        · have hw0 : wt x = 0 := by unfold wt; rw [if_neg hx0]
          have HW := Lib.hid hw0
          clear hw0
          generalize kr (ls.take k) = K at *
          go_wp2
          go_round
          case rel => exact ⟨k + 1, by omega, by go_num, by rw [HKT.out, HW.out, Int.add_zero], HVN.out⟩
          case measure => simp [intOf]; omega
      · have hnf : ¬ Fm ls := fun h => hx (h.2.1 x HIN.out)
        have HNF := Lib.hid hnf
        clear hnf
        by_cases hx0 : x < 0
        · go_wp2
          go_ret2
          exact ⟨fun h => absurd h HNF.out, fun _ => rfl, rfl⟩
        · go_wp2
          go_ret2
          exact ⟨fun h => absurd h HNF.out, fun _ => rfl, rfl⟩
    · have htk : ls.take k = ls := List.take_of_length_le (by rw [HN.out]; omega)
      rw [htk] at hkb ⊢
      have hv := HV.out
      rw [htk] at hv
      by_cases hneg : kr ls ≤ 65536
      · have hf : Fm ls := ⟨by rw [HN.out]; omega, hv, hneg⟩
        have HF := Lib.hid hf
        clear hf htk hv
        go_wp2
        go_ret2
        exact ⟨fun _ => rfl, fun h => absurd HF.out h, rfl⟩
      · have hnf : ¬ Fm ls := fun h => hneg h.2.2
        have HNF := Lib.hid hnf
        clear hnf htk hv
        go_wp2
        go_ret2
        exact ⟨fun h => absurd h HNF.out, fun _ => rfl, rfl⟩

def nv (l : List Nat) : List Value := l.map fun n : Nat => Value.int .i64 (n : Int)
theorem nv_len (l : List Nat) : (nv l).length = l.length := by simp [nv]
theorem nv_app (a b : List Nat) : nv (a ++ b) = nv a ++ nv b := by simp [nv]
theorem ordP_len (ls : List Int) (n : Int) (k : Nat) : (ordP ls n k).length ≤ k := by
  have h := List.length_filter_le (fun s => decide (ls.getD s 0 = n)) (List.range k)
  rw [List.length_range] at h; exact h
theorem ordU_len (ls : List Int) : ∀ m : Nat, (ordU ls m).length ≤ m * ls.length
  | 0 => by simp [ordU]
  | m + 1 => by
    have h1 := ordU_len ls m
    have h2 := ordP_len ls ((m + 1 : Nat) : Int) ls.length
    rw [ordU_succ, List.length_append, Nat.succ_mul]; omega

set_option maxHeartbeats 2000000 in
theorem order_any (A : Option Addr) (n c : Nat) (ls : List Int) (w : World) (hn : ls.length = n) (hR : Rd w w.heap.size A (iv ls)) (hI : Is ls) (hm : n ≤ 100000) :
    Calls Try.prog 99 #[.slice A n c] w fun e w' => ∃ v, e = .returned v ∧ w'.ownsRow w.heap.size 3 1 v (ordU ls 16).length (nv (ordU ls 16)) ∧ Below w.heap.size w w' := by
  obtain ⟨i0, hi, hz0, hz1, hz2⟩ := info_parts Try.info_int
  have HN := Lib.hid hn
  have hul := ordU_len ls
  rw [hn] at hul
  have hus := ordU_succ ls
  rw [hn] at hus
  have HUL := Lib.hid hul
  have HUS := Lib.hid hus
  clear hn hul hus
  go_enter Try.func99, Try.ntmps99
  go_wp2
  go_loopw [3, 4] (fun v i wr => ∃ m : Nat, m ≤ 16 ∧ i = .int .i64 ((m + 1 : Nat) : Int) ∧ wr.ownsRow w.heap.size 3 1 v (ordU ls m).length (nv (ordU ls m)) ∧ Below w.heap.size w wr) (fun _ i _ => 17 - (intOf i).toNat)
  case atStart => exact ⟨0, by omega, rfl, by simpa [ordU, nv] using World.ownsRow_nil w w.heap.size 3 1, Below.refl _ _⟩
  case round =>
    obtain ⟨m, hm16, rfl, hown, hb⟩ := hrel
    obtain ⟨wo, rfl⟩ : ∃ wo : World, wo = wr := ⟨_, rfl⟩
    by_cases hlt : m < 16
    · obtain ⟨q, hq⟩ : ∃ q, q = m + 1 := ⟨_, rfl⟩
      rw [← hq]
      have hq1 : q ≤ m + 1 ∧ m + 1 ≤ q := by omega
      have HQ := Lib.hid hq
      clear hq
      have hmul := HUL.out m
      have hml : (ordU ls m).length ≤ 1600000 := by
        have : m * n ≤ 16 * 100000 := Nat.mul_le_mul (by omega) hm
        omega
      have hus := HUS.out m
      rw [← HQ.out] at hus
      have HU := Lib.hid hus
      clear hmul hus
      have hdq : decide ((q : Int) ≤ 16) = true := by simp; omega
      go_wp2
      go_loopw [3, 13] (fun v i wr => ∃ k : Nat, k ≤ n ∧ i = .int .i64 k ∧ wr.ownsRow w.heap.size 3 1 v (ordU ls m ++ ordP ls (q : Int) k).length (nv (ordU ls m ++ ordP ls (q : Int) k)) ∧ Below w.heap.size w wr) (fun _ i _ => n - (intOf i).toNat)
      case atStart => exact ⟨0, Nat.zero_le _, rfl, by simpa [ordP] using hown, hb⟩
      case round =>
        obtain ⟨k, hk, rfl, hown, hb⟩ := hrel
        by_cases hltk : k < n
        · obtain ⟨b, off, rfl, _, hcell⟩ := (hR.below hb).at_ (k := k) (by rw [iv_len, HN.out]; exact hltk)
          have hc := hcell k _ (ivs_get (by rw [HN.out]; exact hltk))
          have hin := getD_in (l := ls) (k := k) (by rw [HN.out]; exact hltk)
          have hxb := hI _ hin
          have hps := ordP_succ ls (q : Int) k
          have hpl := ordP_len ls (q : Int) k
          have hsz := hb.size
          have hol : (ordU ls m ++ ordP ls (q : Int) k).length ≤ 1700000 := by rw [List.length_append]; omega
          clear hcell hin hpl
          generalize ls.getD k 0 = x at *
          by_cases hx : x = (q : Int)
          · have hxq : (x == (q : Int)) = true := by simpa using hx
            rw [if_pos hx] at hps
            have hsn : ordU ls m ++ ordP ls (q : Int) (k + 1) = (ordU ls m ++ ordP ls (q : Int) k) ++ [k] := by rw [hps, List.append_assoc]
            have HS := Lib.hid hsn
            clear hx hps hsn
            generalize ordU ls m ++ ordP ls (q : Int) k = O at *
            have hown' := hown.alloc (.cells #[Value.int .i64 (k : Int)] 3)
            go_wp2_with (at_builtin; refine wpList_app2 _ rfl (.tmp 21) (.tmp 23) 24 rfl Try.underlying24 hi hz0 hz1 hz2 rfl hown' rfl rfl (Rd.new1 _ _ _) rfl (by simp [Value.oneCell']) (by omega) (by omega) (by simp; omega) ?_; intro v1 w1 hown1 hg1; have hb1 : Below w.heap.size w w1 := below_app2 (hb.alloc hsz _) hown' hg1 (Nat.le_refl _) (by simp; omega))
            go_roundw
            case rel => exact ⟨k + 1, by omega, by go_num, by rw [HS.out, List.length_append, nv_app]; exact hown1, hb1⟩
            case measure => simp [intOf]; omega
          · have hxq : (x == (q : Int)) = false := by simpa using hx
            rw [if_neg hx, List.append_nil] at hps
            have HPS := Lib.hid hps
            clear hx hps
            go_wp2
            go_roundw
            case rel => exact ⟨k + 1, by omega, by go_num, by rw [HPS.out]; exact hown, hb⟩
            case measure => simp [intOf]; omega
        · have hkn : k = n := by omega
          rw [hkn, ← HU.out] at hown
          clear hkn
          go_wp2
          go_roundw
          case rel => exact ⟨q, by omega, by go_num, hown, hb⟩
          case measure => simp [intOf]; omega
    · obtain rfl : m = 16 := by omega
      go_wp2
      go_ret
      exact ⟨_, rfl, hown, hb⟩

/-- a row of integers that is written into -/
theorem own_set {w : World} {B g n : Nat} {l : List Int} (h : w.ownsRow B 3 1 (.slice (some ⟨g, 0, none⟩) n n) n (iv l)) (k : Nat) (x : Int) : (w.setCell ⟨g, k, none⟩ (.int .i64 x)).ownsRow B 3 1 (.slice (some ⟨g, 0, none⟩) n n) n (iv (l.set k x)) := by
  have h1 := (World.ownsRow.stored h k (.int .i64 x)).1
  rwa [show (iv l).set k (.int .i64 x) = iv (l.set k x) by simp [iv]] at h1
theorem getD_set_ne {l : List Int} {i j : Nat} (x : Int) (h : i ≠ j) : (l.set i x).getD j 0 = l.getD j 0 := by
  rw [List.getD_eq_getElem?_getD, List.getElem?_set_ne h, ← List.getD_eq_getElem?_getD]
theorem getD_set_eq {l : List Int} {i : Nat} (x : Int) (h : i < l.length) : (l.set i x).getD i 0 = x := by
  rw [List.getD_eq_getElem?_getD, List.getElem?_set_self h]; rfl

/-- what is known of the codes behind k symbols -/
def Cdk (ls C : List Int) (k : Nat) : Prop := C.length = ls.length ∧ (∀ (i s : Nat), i < k → (ordU ls 16)[i]? = some s → 0 ≤ C.getD s 0 ∧ C.getD s 0 * wt (ls.getD s 0) = at_ ls i) ∧ ∀ s, s ∉ (ordU ls 16).take k → C.getD s 0 = 0
theorem Cdk.all {ls C : List Int} (h : Cdk ls C (ordU ls 16).length) : Cd ls C :=
  ⟨h.1, fun i s hi => h.2.1 i s (List.getElem?_eq_some_iff.1 hi).1 hi, fun s hs => h.2.2 s (fun hm => by
    rw [List.take_of_length_le (Nat.le_refl _)] at hm
    have := (ordU_mem.1 hm).2.1; omega)⟩
theorem Cdk.step {ls C : List Int} {k s : Nat} {x : Int} (h : Cdk ls C k) (hs : (ordU ls 16)[k]? = some s) (hx : 0 ≤ x ∧ x * wt (ls.getD s 0) = at_ ls k) : Cdk ls (C.set s x) (k + 1) := by
  have hsl : s < C.length := by rw [h.1]; exact (ordU_mem.1 (List.mem_of_getElem? hs)).1
  have hnd := ordU_sorted ls 16
  refine ⟨by rw [List.length_set]; exact h.1, fun i t hi ht => ?_, fun t ht => ?_⟩
  · by_cases hik : i = k
    · subst hik
      rw [hs] at ht
      injection ht with ht
      subst ht
      rw [getD_set_eq x hsl]; exact hx
    · have hne : s ≠ t := by
        have hil := (List.getElem?_eq_some_iff.1 ht).1
        have hkl := (List.getElem?_eq_some_iff.1 hs).1
        have := (List.pairwise_iff_getElem.1 hnd) i k hil hkl (by omega)
        rw [(List.getElem?_eq_some_iff.1 ht).2, (List.getElem?_eq_some_iff.1 hs).2] at this
        exact fun e => this.1 e.symm
      rw [getD_set_ne x hne]
      exact h.2.1 i t (by omega) ht
  · rw [List.take_add_one, hs] at ht
    simp only [Option.toList_some, List.mem_append, List.mem_singleton, not_or] at ht
    rw [getD_set_ne x (fun e => ht.2 e.symm)]
    exact h.2.2 t ht.1

set_option maxHeartbeats 4000000 in
theorem assign_any (A A2 : Option Addr) (n c n2 c2 : Nat) (ls : List Int) (w : World) (hn : ls.length = n) (hR : Rd w w.heap.size A (iv ls)) (hf : Fm ls)
    (hn2 : (ordU ls 16).length = n2) (hR2 : Rd w w.heap.size A2 (nv (ordU ls 16))) :
    Calls Try.prog 98 #[.slice A n c, .slice A2 n2 c2] w fun e w' => ∃ C, e = .returned (.slice (some ⟨w.heap.size, 0, none⟩) n n) ∧ w'.ownsRow w.heap.size 3 1 (.slice (some ⟨w.heap.size, 0, none⟩) n n) n (iv C) ∧ Cd ls C ∧ Below w.heap.size w w' := by
  have HN := Lib.hid hn
  have HN2 := Lib.hid hn2
  have hn512 : n ≤ 512 := by have := hf.1; omega
  have hn2b : n2 ≤ 8192 := by have := ordU_len ls 16; omega
  have hmk := make_ints n (by omega)
  have ho := own_ints w (List.replicate n 0) (by rw [List.length_replicate]; omega)
  rw [List.length_replicate] at ho
  have hb0 : Below w.heap.size w (w.alloc (.cells (iv (List.replicate n 0)).toArray 3)) := (Below.refl _ _).alloc (Nat.le_refl _) _
  have hck : Cdk ls (List.replicate n 0) 0 := ⟨by rw [List.length_replicate, hn], fun i s hi => by omega, fun s _ => by
    rw [List.getD_eq_getElem?_getD, List.getElem?_replicate]; split <;> rfl⟩
  have hat0 : at_ ls 0 = 0 := rfl
  have HF := Lib.hid hf
  clear hn hn2 hf
  go_enter Try.func98, Try.ntmps98
  go_wp2
  clear hmk
  generalize hg : w.heap.size = g at *
  have HG := Lib.hid hg
  clear hg
  generalize w.alloc (.cells (iv (List.replicate n 0)).toArray 3) = w1 at *
  go_loopw [6, 7, 15] (fun nx la i wr => ∃ k : Nat, k ≤ n2 ∧ i = .int .i64 k ∧ ∃ (x : Int) (y : Nat), nx = .int .i64 x ∧ la = .int .i64 y ∧ (0 ≤ x ∧ x ≤ 65536) ∧ y ≤ 16 ∧ Hid (x * 2 ^ (16 - y) = at_ ls k) ∧ Hid (∀ s, (ordU ls 16)[k]? = some s → (y : Int) ≤ ls.getD s 0) ∧
      ∃ C, wr.ownsRow g 3 1 (.slice (some ⟨g, 0, none⟩) n n) n (iv C) ∧ Hid (Cdk ls C k) ∧ Below g w wr) (fun _ _ i _ => n2 - (intOf i).toNat)
  case atStart => exact ⟨0, Nat.zero_le _, rfl, 0, 0, rfl, rfl, by omega, by omega, Lib.hid (by rw [hat0]; simp), Lib.hid (fun s hs => by have := (ordU_mem.1 (List.mem_of_getElem? hs)).2.1; omega), _, ho, Lib.hid hck, hb0⟩
  case round =>
    obtain ⟨k, hk, rfl, x, y, rfl, rfl, hx, hy, HX, HY, C, hown, HC, hb⟩ := hrel
    clear ho hb0 hck hat0
    by_cases hlt : k < n2
    · obtain ⟨s, hs⟩ : ∃ s, (ordU ls 16)[k]? = some s := ⟨(ordU ls 16)[k]'(by rw [HN2.out]; exact hlt), List.getElem?_eq_getElem _⟩
      have hsm := ordU_mem.1 (List.mem_of_getElem? hs)
      have hsn : s < n := by rw [← HN.out]; exact hsm.1
      obtain ⟨b2, o2, rfl, _, hcell2⟩ := (hR2.below hb).at_ (k := k) (by rw [nv_len, HN2.out]; exact hlt)
      have hc2 := hcell2 k (.int .i64 (s : Int)) (by simp [nv, hs])
      obtain ⟨b1, o1, rfl, _, hcell1⟩ := (hR.below hb).at_ (k := s) (by rw [iv_len, HN.out]; exact hsn)
      have hc1 := hcell1 s _ (ivs_get (by rw [HN.out]; exact hsn))
      have hys := HY.out s hs
      have hb16 : ls.getD s 0 ≤ 16 := hsm.2.2
      have hb1 : 1 ≤ ls.getD s 0 := hsm.2.1
      have hats := at_succ ls k s hs
      have hwt := wt_pos (x := ls.getD s 0) (by omega)
      have hatk := at_le HF.out k
      have hatk1 := at_le HF.out (k + 1)
      have hsrt := ordU_sorted ls 16
      have hnext : ∀ t, (ordU ls 16)[k + 1]? = some t → ls.getD s 0 ≤ ls.getD t 0 := fun t ht => by
        have hil := (List.getElem?_eq_some_iff.1 hs).1
        have hkl := (List.getElem?_eq_some_iff.1 ht).1
        have := (List.pairwise_iff_getElem.1 hsrt) k (k + 1) hil hkl (by omega)
        rw [(List.getElem?_eq_some_iff.1 hs).2, (List.getElem?_eq_some_iff.1 ht).2] at this
        exact this.2
      have hstep := fun z hz => Cdk.step (x := z) HC.out hs hz
      rw [hwt] at hstep hats
      obtain ⟨l, hl⟩ := Int.eq_ofNat_of_zero_le (show 0 ≤ ls.getD s 0 by omega)
      rw [hl] at hc1 hys hb16 hb1 hstep hats hnext
      rw [Int.toNat_natCast] at hstep hats
      have hly : y ≤ l ∧ l ≤ 16 ∧ 1 ≤ l := by omega
      obtain ⟨x', hx'⟩ : ∃ x', x' = x * 2 ^ (l - y) := ⟨_, rfl⟩
      have hxk : x' * 2 ^ (16 - l) = at_ ls k := by
        rw [hx', Int.mul_assoc, ← Int.pow_add, show l - y + (16 - l) = 16 - y by omega]; exact HX.out
      have hxb : 0 ≤ x' ∧ x' ≤ 65535 := by
        have h1 := two_pos (16 - l)
        have h2 := two_pos (l - y)
        have h3 : 0 ≤ x' := by rw [hx']; exact Int.mul_nonneg hx.1 (by omega)
        refine ⟨h3, ?_⟩
        have h4 : (x' + 1) * 2 ^ (16 - l) ≤ 65536 := by rw [Int.add_mul, hxk, Int.one_mul]; omega
        have h5 : (x' + 1) * 1 ≤ (x' + 1) * 2 ^ (16 - l) := Int.mul_le_mul_of_nonneg_left h1 (by omega)
        omega
      have hsh : wrap64 (x * 2 ^ min (l - y) 64) = x' := by rw [Nat.min_eq_left (by omega), ← hx', IntWalk.wrap64_in _ ⟨by omega, by omega⟩]
      have hsh2 : wrap64 (x * 2 ^ (l - y)) = x' := by rw [← hx', IntWalk.wrap64_in _ ⟨by omega, by omega⟩]
      have hnew := hstep x' ⟨hxb.1, hxk⟩
      have hxk1 : (x' + 1) * 2 ^ (16 - l) = at_ ls (k + 1) := by rw [Int.add_mul, hxk, Int.one_mul, hats]
      have HNEW := Lib.hid hnew
      have HXK := Lib.hid hxk1
      have HNX := Lib.hid hnext
      have hfz := World.ownsRow.frozenAt hown s
      have hcl := World.ownsRow.cellAt hown s (by omega)
      have hCl : C.length = n := by rw [HC.out.1, HN.out]
      rw [ivs_get (by rw [hCl]; exact hsn)] at hcl
      have HST := Lib.hid (own_set hown s x')
      have hwg : g ≤ g := Nat.le_refl _
      clear hcell1 hcell2 hs hsm hstep hats hwt hatk hatk1 hsrt hl hx' hxk hnew hxk1 hnext hCl hown HC
      generalize C.getD s 0 = cv at *
      go_wp2
      go_roundw
      case rel => exact ⟨k + 1, by omega, by go_num, x' + 1, l, rfl, rfl, by omega, by omega, Lib.hid HXK.out, Lib.hid (fun t ht => HNX.out t ht), _, HST.out, Lib.hid HNEW.out, hb.setCell hwg _⟩
      case measure => simp [intOf]; omega
    · have hkn : k = n2 := by omega
      have hcd : Cd ls C := by
        have h := HC.out
        rw [hkn, ← HN2.out] at h
        exact h.all
      have HCD := Lib.hid hcd
      clear hkn hcd
      go_wp2
      go_ret
      rw [HG.out]
      exact ⟨C, rfl, hown, HCD.out, hb⟩

/-- the codes of lengths, by contract -/
def Coded (ls : List Int) (n : Nat) (w : World) (e : Ending) (w' : World) : Prop :=
  (Fm ls → ∃ C g, e = .returned (.tuple #[.slice (some ⟨g, 0, none⟩) n n, .nilIface]) ∧ w'.ownsRow w.heap.size 3 1 (.slice (some ⟨g, 0, none⟩) n n) n (iv C) ∧ Cd ls C) ∧
  (¬ Fm ls → e = .returned (.tuple #[.slice none 0 0, errV 6])) ∧ Below w.heap.size w w'

theorem codes_any (A : Option Addr) (n c : Nat) (ls : List Int) (w : World) (hn : ls.length = n) (hR : Rd w w.heap.size A (iv ls)) (hI : Is ls) :
    Calls Try.prog 29 #[.slice A n c] w (Coded ls n w) := by
  by_cases hf : Fm ls
  · have hn512 : n ≤ 512 := by have := hf.1; omega
    have HF := Lib.hid hf
    have HN := Lib.hid hn
    clear hn hf
    go_enter Try.func29, Try.ntmps29
    go_wp2_with fail
    refine (free_any A n c ls _ w HN.out hR hI).mono ?_; rintro e w' ⟨h1, _, rfl⟩
    obtain rfl := h1 HF.out
    clear h1
    go_wp2_with fail
    refine (order_any A n c ls w HN.out hR hI (by omega)).mono ?_; rintro e w1 ⟨v, rfl, ho, hb⟩
    obtain ⟨A2, c2, rfl, hR2⟩ := own_slice ho
    go_wp2_with fail
    refine (assign_any A A2 n c _ c2 ls w1 HN.out ((hR.below hb).more hb.size) HF.out rfl hR2).mono ?_; rintro e w2 ⟨C, rfl, hoC, hCd, hb2⟩
    have HC := Lib.hid hCd
    have hbb := hb.trans (hb2.mono hb.size)
    have hob := own_base (B := w.heap.size) hoC (fun k hk => Nat.le_trans hb.size (hoC.lt k hk).1)
    clear hCd
    go_wp2
    go_ret2
    exact ⟨fun _ => ⟨C, _, rfl, hob, HC.out⟩, fun h => absurd HF.out h, hbb⟩
  · have HF := Lib.hid hf
    have HN := Lib.hid hn
    clear hn hf
    go_enter Try.func29, Try.ntmps29
    go_wp2_with fail
    refine (free_any A n c ls _ w HN.out hR hI).mono ?_; rintro e w' ⟨_, h1, rfl⟩
    obtain rfl := h1 HF.out
    clear h1
    unfold errV
    go_wp2
    go_ret2
    exact ⟨fun h => absurd h HF.out, fun _ => rfl, Below.refl _ _⟩
end Go.Proofs.Ytlhappecjjbopaa
