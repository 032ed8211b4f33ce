/-
  The document's Table, by a contract. No condition.
-/
import Derived.Test.YtlhappecjjbopaaCaZ
namespace Go.Proofs.Ytlhappecjjbopaa
open Go.RowKit
set_option linter.unusedVariables false
set_option maxRecDepth 100000

/-- two rows of integers in blocks of their own -/
structure TwoI (w : World) (B : Nat) (v1 v2 : Value) (a b : List Int) : Prop where
  one : w.ownsRow B 3 1 v1 a.length (iv a)
  two : w.ownsRow B 3 1 v2 b.length (iv b)
  off : ∀ k, v1.ownBlock = some k → v2.ownBlock ≠ some k
theorem TwoI.below {w w' : World} {B : Nat} {v1 v2 : Value} {a b : List Int} (h : TwoI w B v1 v2 a b) (hb : Below w.heap.size w w') : TwoI w' B v1 v2 a b := ⟨own_keepN h.one hb, own_keepN h.two hb, h.off⟩
theorem TwoI.ap1 {w w' : World} {B : Nat} {v1 v1' v2 : Value} {a b a' : List Int} (h : TwoI w B v1 v2 a b) (hp : Ap w w' v1 v1') (ho : w'.ownsRow B 3 1 v1' a'.length (iv a')) : TwoI w' B v1' v2 a' b :=
  ⟨ho, hp.fr.ownN h.two (fun k hk e => h.off k e hk), fun k hk e => by
    rcases hp.row k hk with h1 | h1
    · exact h.off k h1 e
    · have := (h.two.lt k e).2; omega⟩
theorem TwoI.ap2 {w w' : World} {B : Nat} {v1 v2 v2' : Value} {a b b' : List Int} (h : TwoI w B v1 v2 a b) (hp : Ap w w' v2 v2') (ho : w'.ownsRow B 3 1 v2' b'.length (iv b')) : TwoI w' B v1 v2' a b' :=
  ⟨hp.fr.ownN h.one (fun k hk e => h.off k hk e), ho, fun k hk e => by
    rcases hp.row k e with h1 | h1
    · exact h.off k hk h1
    · have := (h.one.lt k hk).2; omega⟩
theorem nodupI_le {l : List Int} (hn : l.Nodup) (hB : Bs l) : l.length ≤ 256 := by
  have h1 : (l.map Int.toNat).Nodup := by
    unfold List.Nodup
    rw [List.pairwise_map]
    refine hn.imp_of_mem (fun {a b} ha hb hab e => hab ?_)
    have := hB a ha
    have := hB b hb
    omega
  have h2 := nodup_le (n := 256) h1 (fun s hs => by
    obtain ⟨x, hx, rfl⟩ := List.mem_map.1 hs
    have := hB x hx; omega)
  rwa [List.length_map] at h2
theorem nodup_iff {l : List Int} : l.Nodup ↔ ∀ a b : Nat, a < b → b < l.length → l.getD a 0 ≠ l.getD b 0 := by
  unfold List.Nodup
  rw [List.pairwise_iff_getElem]
  constructor
  · intro h a b hab hb
    have := h a b (by omega) hb hab
    rw [List.getD_eq_getElem?_getD, List.getElem?_eq_getElem (by omega), List.getD_eq_getElem?_getD, List.getElem?_eq_getElem hb]
    exact this
  · intro h a b ha hb hab
    have := h a b hab hb
    rw [List.getD_eq_getElem?_getD, List.getElem?_eq_getElem (by omega), List.getD_eq_getElem?_getD, List.getElem?_eq_getElem hb] at this
    exact this
theorem Cl.turn {w w' : World} {L : Nat} {X : Option Nat} {rows : List (List Value)} {codes : List (Int × List Int)} (h : Cl w L X rows codes) (hf : Fr (fun k => k < L) w w') : Cl w' L X rows codes :=
  ⟨h.len, h.two, fun i s bits hc => by
    obtain ⟨a, c, h1, h2, h3, h4, h5⟩ := h.at_ i s bits hc
    refine ⟨a, c, h1, (hf.rd h2 (Nat.le_refl _) (fun p hp hs => ?_)).more hf.size, Nat.lt_of_lt_of_le h3 hf.size, h4, h5⟩
    injection hp with hp
    subst hp
    omega⟩
/-- codes whose blocks are L or beyond -/
def CsL (w : World) (L : Nat) (A : Option Addr) (syms Z : List Int) : Prop := ∃ rows, Rd w w.heap.size A rows.flatten ∧ (∀ a, A = some a → L ≤ a.block) ∧ Cl w L none rows (codesOf syms Z)
theorem CsL.cs {w : World} {L : Nat} {A : Option Addr} {syms Z : List Int} (h : CsL w L A syms Z) : Cs w w.heap.size A syms Z := by
  obtain ⟨rows, h1, _, h3⟩ := h
  exact Cs.of h1 h3
theorem CsL.turn {w w' : World} {L : Nat} {A : Option Addr} {syms Z : List Int} (h : CsL w L A syms Z) (hf : Fr (fun k => k < L) w w') : CsL w' L A syms Z := by
  obtain ⟨rows, h1, h2, h3⟩ := h
  exact ⟨rows, (hf.rd h1 (Nat.le_refl _) (fun p hp e => by have := h2 p hp; omega)).more hf.size, h2, h3.turn hf⟩
def RTabled (cn ss : List Int) (w : World) (e : Ending) (w' : World) : Prop :=
  (TabOk cn ss → ∃ A' c', e = .returned (.tuple #[.slice A' ss.length c', .bool true]) ∧ CsL w' w.heap.size A' ss (TzI cn 16)) ∧
  (¬ TabOk cn ss → e = .returned (.tuple #[.slice none 0 0, .bool false])) ∧ Below w.heap.size w w'

set_option maxHeartbeats 8000000 in
theorem refTable_any (A : Option Addr) (n c : Nat) (cn ss : List Int) (w : World) (hcn : cn.length = 16) (hIc : Is cn) (hn : ss.length = n) (hR : Rd w w.heap.size A (bv ss)) (hB : Bs ss) (hm : n ≤ 9223372036854775807) :
    Calls Try.prog 57 #[.agg (iv cn ++ [Value.slice A n c]).toArray] w (RTabled cn ss w) := by
  obtain ⟨i0, hi0, hz0, hz1, hz2⟩ := info_parts Try.info_int
  have HN := Lib.hid hn
  have HCN := Lib.hid hcn
  have X := Bln.new w 86 (iv cn ++ [Value.slice A n c])
  have x16 := X.cell (i := 16) (u := .slice A n c) (by rw [List.getElem?_append_right (by rw [iv_len, hcn]; omega), iv_len, hcn]; rfl)
  have xi : ∀ i, i < 16 → (w.alloc (.cells (iv cn ++ [Value.slice A n c]).toArray 86)).cell? ⟨w.heap.size, i, none⟩ = some (.int .i64 (cn.getD i 0)) := fun i hi => X.cell (by rw [List.getElem?_append_left (by rw [iv_len, hcn]; omega)]; exact ivs_get (by omega))
  have hb0 : Below w.heap.size w (w.alloc (.cells (iv cn ++ [Value.slice A n c]).toArray 86)) := (Below.refl _ _).alloc (Nat.le_refl _) _
  have hR0 := (hR.below hb0).more hb0.size
  have HXI := Lib.hid xi
  clear hn hcn xi hR
  go_enter Try.func57, Try.ntmps57
  go_upto_region 1 with fail
  generalize w.alloc (.cells (iv cn ++ [Value.slice A n c]).toArray 86) = w0 at *
  generalize hbp : w.heap.size = bp at *
  have HBP := Lib.hid hbp
  have hxl := X.lt
  have hs0 := hb0.size
  generalize hgq : w0.heap.size = g at *
  have HG := Lib.hid hgq
  have hbw : Below w.heap.size w w0 := by rw [HBP.out]; exact hb0
  have hgw : w.heap.size ≤ g := hs0
  have hgb : bp < g := hxl
  have H1 : TwoI w0 g (.slice none 0 0) (.slice none 0 0) (ss.take (TzI cn 0).length) (TzI cn 0) := ⟨World.ownsRow_nil _ _ _ _, World.ownsRow_nil _ _ _ _, fun k hk => by simp [Value.ownBlock] at hk⟩
  clear hbp hgq hb0 X
  go_wp2
  go_loopw [6, 4, 5] (fun ix v1 v2 wr => ∃ i : Nat, i ≤ 16 ∧ ix = .int .i64 i ∧ TwoI wr g v1 v2 (ss.take (TzI cn i).length) (TzI cn i) ∧ (TzI cn i).length ≤ n ∧ (TzI cn i).length ≤ 256 * i ∧ (∀ j, j < i → 0 ≤ cn.getD j 0) ∧ Below g w0 wr) (fun ix _ _ _ => 16 - (intOf ix).toNat)
  case atStart => exact ⟨0, Nat.zero_le _, rfl, H1, by simp [TzI], by simp [TzI], fun j h => by omega, Below.refl _ _⟩
  case round =>
    obtain ⟨i, hi, rfl, T, hmn, hm256, hnn, hb⟩ := hrel
    clear H1
    obtain ⟨wo, rfl⟩ : ∃ wo : World, wo = wr := ⟨_, rfl⟩
    have HNN := Lib.hid hnn
    clear hnn
    by_cases h16 : i < 16
    · have hd16 : decide ((i : Int) < 16) = true := decide_eq_true (by omega)
      have hci := hIc _ (getD_in (l := cn) (k := i) (by rw [HCN.out]; exact h16))
      have ei := (hb.cell (p := ⟨bp, i, none⟩) hgb).trans (HXI.out i h16)
      have hi0' : (0 : Int) ≤ (i : Int) := by omega
      have hi1' : (i : Int) < 16 := by omega
      generalize hcq : cn.getD i 0 = ci at *
      have HCQ := Lib.hid hcq
      clear hcq
      by_cases hbad : ci < 0 ∨ 256 < ci
      · have hno : ¬ TabOk cn ss := fun hok => by
          rcases hbad with h1 | h1
          · have := hok.1 i h16; rw [HCQ.out] at this; omega
          · have h2 := nodupI_le hok.2.2.1 hB
            have h3 := TzI_len_le cn (show i + 1 ≤ 16 by omega)
            rw [TzI_succ, TzK_len, hok.2.1, HCQ.out] at h3
            omega
        have HNO := Lib.hid hno
        have dn : (decide (ci < 0) = true) ∨ (decide (ci < 0) = false ∧ decide (256 < ci) = true) := by
          rcases hbad with h1 | h1
          · exact .inl (decide_eq_true h1)
          · exact .inr ⟨decide_eq_false (by omega), decide_eq_true h1⟩
        clear hno hbad
        rcases dn with dn | ⟨dn, dm⟩
        all_goals
          go_wp2
          go_ret2
          exact ⟨fun h => absurd h HNO.out, fun _ => rfl, hbw.trans (hb.mono hgw)⟩
      · have dn : decide (ci < 0) = false := decide_eq_false (by omega)
        have dm : decide (256 < ci) = false := decide_eq_false (by omega)
        obtain ⟨N, rfl⟩ := Int.eq_ofNat_of_zero_le (show 0 ≤ ci by omega)
        have hN256 : N ≤ 256 := by omega
        have hT0 : TzK cn i 0 = TzI cn i := TzK_zero cn i
        have T0 := T
        rw [← hT0] at T0
        have hm0 : (TzK cn i 0).length ≤ n := by rw [hT0]; exact hmn
        clear hbad hT0
        go_wp2
        go_loopw [7, 4, 5] (fun kx v1 v2 wr => ∃ k : Nat, k ≤ N ∧ kx = .int .i64 k ∧ TwoI wr g v1 v2 (ss.take (TzK cn i k).length) (TzK cn i k) ∧ (TzK cn i k).length ≤ n ∧ Below g w0 wr) (fun kx _ _ _ => N - (intOf kx).toNat)
        case atStart => exact ⟨0, Nat.zero_le _, rfl, T0, hm0, hb⟩
        case round =>
          clear T T0 hm0 hb ei
          obtain ⟨k, hk, rfl, T, hmk, hb⟩ := hrel
          obtain ⟨wi, rfl⟩ : ∃ wi : World, wi = wr := ⟨_, rfl⟩
          have ei := (hb.cell (p := ⟨bp, i, none⟩) hgb).trans (HXI.out i h16)
          rw [HCQ.out] at ei
          have z16 := (hb.cell (p := ⟨bp, 16, none⟩) hgb).trans x16
          have hlk := TzK_len cn i k
          obtain ⟨q, hq⟩ : ∃ q, q = (TzK cn i k).length := ⟨_, rfl⟩
          rw [← hq] at T hmk hlk
          have HQ := Lib.hid hq
          have HLK := Lib.hid hlk
          have hq4 : q ≤ 8192 := by omega
          have hta : (ss.take q).length = q := by rw [List.length_take, HN.out]; omega
          have HTA := Lib.hid hta
          have hone := T.one
          have htwo := T.two
          rw [hta] at hone
          rw [← hq] at htwo
          obtain ⟨A1, c1, hv1, _, _, hRv1⟩ := own_sliceN hone
          obtain ⟨A2, c2, hv2, _, _, hRv2⟩ := own_sliceN htwo
          subst hv1 hv2
          clear hq hlk hta
          by_cases hkN : k < N
          · have dk : decide (k < N) = true := decide_eq_true hkN
            by_cases hfull : n ≤ q
            · have hno : ¬ TabOk cn ss := fun hok => by
                have h3 := TzI_len_le cn (show i + 1 ≤ 16 by omega)
                rw [TzI_succ, TzK_len, hok.2.1, HCQ.out, HN.out, Int.toNat_natCast] at h3
                have := HLK.out
                omega
              have HNO := Lib.hid hno
              have df : decide (n ≤ q) = true := decide_eq_true hfull
              clear hno
              go_wp2
              go_ret2
              exact ⟨fun h => absurd h HNO.out, fun _ => rfl, hbw.trans (hb.mono hgw)⟩
            · have df : decide (n ≤ q) = false := decide_eq_false hfull
              have hqn : q < n := by omega
              obtain ⟨y, hy⟩ : ∃ y, y = ss.getD q 0 := ⟨_, rfl⟩
              have hyb : 0 ≤ y ∧ y ≤ 255 := by rw [hy]; exact hB _ (getD_in (by rw [HN.out]; exact hqn))
              obtain ⟨bs, os, rfl, _, hcs⟩ := (hR0.below hb).at_ (k := q) (by rw [bv_len, HN.out]; exact hqn)
              have es := hcs q _ (bv_get (by rw [HN.out]; exact hqn))
              rw [← hy] at es
              have hm1 : (q : Int) < (n : Int) := by omega
              have hm2 : (0 : Int) ≤ (q : Int) := by omega
              have hw8 : IntKind.i64.wrap y = y := IntWalk.i64_in _ (by omega)
              have HY := Lib.hid hy
              have hgi : g ≤ wi.heap.size := by have := hb.size; have := HG.out; omega
              clear hy hcs
              have hba : Below wi.heap.size wi (wi.alloc (.cells #[.int .i64 y] 3)) := (Below.refl _ _).alloc (Nat.le_refl _) _
              have Ta := T.below hba
              have hoa := own_keepN hone hba
              have hsza : g ≤ (wi.alloc (.cells #[.int .i64 y] 3)).heap.size := by have := hba.size; omega
              go_upto_region 14 with (at_builtin; refine wpList_appN _ rfl (.tmp 43) (.tmp 51) 24 rfl Try.underlying24 hi0 hz0 hz1 hz2 rfl (by omega) hoa rfl rfl (Rd.newN wi 3 [.int .i64 y]) rfl (by simp [Value.oneCell']) (by omega) (by omega) hsza ?_; intro v7 w7 hown7 hap7)
              have htk : ss.take (q + 1) = ss.take q ++ [y] := by rw [take_get ss q (by rw [HN.out]; exact hqn), HY.out]
              have hl1 : (ss.take (q + 1)).length = q + 1 := by rw [List.length_take, HN.out]; omega
              have T7 := Ta.ap1 (a' := ss.take (q + 1)) hap7 (by rw [hl1, htk, iv_app]; exact hown7)
              have hb7 : Below g w0 w7 := hb.trans ((hba.mono hgi).trans (hap7.below (fun b hb => (hoa.lt b hb).1) hsza))
              have hg7 : g ≤ w7.heap.size := by have := hb7.size; have := HG.out; omega
              have hbc : Below w7.heap.size w7 (w7.alloc (.cells #[.int .i64 ((i : Int) + 1)] 3)) := (Below.refl _ _).alloc (Nat.le_refl _) _
              have Tc := T7.below hbc
              have htwo7 := Tc.two
              rw [← HQ.out] at htwo7
              have hszc : g ≤ (w7.alloc (.cells #[.int .i64 ((i : Int) + 1)] 3)).heap.size := by have := hbc.size; omega
              have HTK := Lib.hid htk
              have HT7 := Lib.hid Tc
              clear htk hl1 Ta hoa T7 T hone htwo hRv1 hRv2
              go_wp2_with (at_builtin; refine wpList_appN _ rfl (.tmp 53) (.tmp 56) 24 rfl Try.underlying24 hi0 hz0 hz1 hz2 rfl (by omega) htwo7 rfl rfl (Rd.newN w7 3 [.int .i64 ((i : Int) + 1)]) rfl (by simp [Value.oneCell']) (by omega) (by omega) hszc ?_; intro v8 w8 hown8 hap8)
              go_roundw
              case rel =>
                have hl2 : (TzK cn i (k + 1)).length = q + 1 := by rw [TzK_succ, List.length_append, ← HQ.out]; rfl
                refine ⟨k + 1, by omega, by go_num, ?_, by rw [hl2]; omega, hb7.trans ((hbc.mono hg7).trans (hap8.below (fun b hb => (htwo7.lt b hb).1) hszc))⟩
                rw [hl2]
                exact HT7.out.ap2 hap8 (by rw [hl2, TzK_succ, iv_app, show ((i + 1 : Nat) : Int) = (i : Int) + 1 by omega]; exact hown8)
              case measure => simp [intOf]; omega
          · have dk : decide (k < N) = false := decide_eq_false hkN
            have hkN' : k = N := by omega
            have hsu := TzI_succ cn i
            rw [HCQ.out, Int.toNat_natCast, ← hkN'] at hsu
            have hlen : (TzI cn (i + 1)).length = q := by rw [hsu, ← HQ.out]
            have T' := T
            rw [← hsu] at T'
            have HT := Lib.hid T'
            have HLEN := Lib.hid hlen
            have h256 : q ≤ 256 * (i + 1) := by have := HLK.out; omega
            clear hkN' hsu hlen T' T hone htwo
            go_wp2
            go_roundw
            case rel => exact ⟨i + 1, by omega, by go_num, by rw [HLEN.out]; exact HT.out, by rw [HLEN.out]; exact hmk, by rw [HLEN.out]; omega, fun j hj => by
              rcases Nat.lt_or_ge j i with h1 | h1
              · exact HNN.out j h1
              · obtain rfl : j = i := by omega
                rw [HCQ.out]; omega, hb⟩
            case measure => simp [intOf]; omega
    · have hi16 : i = 16 := by omega
      have hd16 : decide ((i : Int) < 16) = false := decide_eq_false (by omega)
      have z16 := (hb.cell (p := ⟨bp, 16, none⟩) hgb).trans x16
      have hnn := HNN.out
      subst hi16
      obtain ⟨Z, hZ⟩ : ∃ Z, Z = TzI cn 16 := ⟨_, rfl⟩
      rw [← hZ] at T hmn hm256
      obtain ⟨q, hq⟩ : ∃ q, q = Z.length := ⟨_, rfl⟩
      rw [← hq] at T hmn hm256
      have hta : (ss.take q).length = q := by rw [List.length_take, HN.out]; omega
      have hone := T.one
      have htwo := T.two
      rw [hta] at hone
      rw [← hq] at htwo
      obtain ⟨A1, c1, hv1, _, _, hRv1⟩ := own_sliceN hone
      obtain ⟨A2, c2, hv2, _, _, hRv2⟩ := own_sliceN htwo
      subst hv1 hv2
      have HZ := Lib.hid hZ
      have HQ := Lib.hid hq
      have HNN2 := Lib.hid hnn
      clear hZ hq hta hone htwo T HNN hnn
      by_cases hqn : q = n
      · subst hqn
        have hts : ss.take q = ss := List.take_of_length_le (by rw [HN.out]; exact Nat.le_refl _)
        rw [hts] at hRv1
        clear hts
        go_wp2
        go_loopw [8] (fun ix wr => ∃ i : Nat, i ≤ q ∧ ix = .int .i64 i ∧ (∀ a b, a < b → b < i → ss.getD a 0 ≠ ss.getD b 0) ∧ Below wo.heap.size wo wr) (fun ix _ => q - (intOf ix).toNat)
        case atStart => exact ⟨0, Nat.zero_le _, rfl, fun a b _ h => by omega, Below.refl _ _⟩
        case round =>
          obtain ⟨i, hiq, rfl, hds, hbi⟩ := hrel
          obtain ⟨wi, rfl⟩ : ∃ wi : World, wi = wr := ⟨_, rfl⟩
          have HDS := Lib.hid hds
          clear hds
          have hRi := (hRv1.below hbi).more hbi.size
          have hb2 := hbw.trans ((hb.mono hgw).trans (hbi.mono (by have := hb.size; have := HG.out; omega)))
          by_cases hlt : i < q
          · have dlt : decide (i < q) = true := decide_eq_true hlt
            obtain ⟨b1, o1, rfl, _, hc1⟩ := hRi.at_ (k := i) (by rw [iv_len, HN.out]; exact hlt)
            have e1 := hc1 i _ (ivs_get (by rw [HN.out]; exact hlt))
            have hi0 : (0 : Int) ≤ (i : Int) := by omega
            have hi1 : (i : Int) < (q : Int) := by omega
            generalize hyq : ss.getD i 0 = y at *
            have HYQ := Lib.hid hyq
            clear hyq
            go_wp2
            go_loopw [9] (fun kx wr => ∃ k : Nat, k ≤ i ∧ kx = .int .i64 k ∧ (∀ a, a < k → ss.getD a 0 ≠ y) ∧ Below wi.heap.size wi wr) (fun kx _ => i - (intOf kx).toNat)
            case atStart => exact ⟨0, Nat.zero_le _, rfl, fun a h => by omega, Below.refl _ _⟩
            case round =>
              obtain ⟨k, hk, rfl, hdk, hbk⟩ := hrel
              have HDK := Lib.hid hdk
              clear hdk
              by_cases hki : k < i
              · have dki : decide (k < i) = true := decide_eq_true hki
                have e1' := (hbk.cell (p := ⟨b1, o1 + i, none⟩) (World.block_lt_of_cell? wi _ e1)).trans e1
                have e2 := hc1 k _ (ivs_get (by rw [HN.out]; omega))
                have e2' := (hbk.cell (p := ⟨b1, o1 + k, none⟩) (World.block_lt_of_cell? wi _ e2)).trans e2
                have hk0 : (0 : Int) ≤ (k : Int) := by omega
                have hk1 : (k : Int) < (q : Int) := by omega
                clear e1 e2 hc1
                generalize hzq : ss.getD k 0 = z at *
                have HZQ := Lib.hid hzq
                clear hzq
                by_cases hyz : z = y
                · have hno : ¬ TabOk cn ss := fun hok => nodup_iff.1 hok.2.2.1 k i hki (by rw [HN.out]; exact hlt) (by rw [HZQ.out, HYQ.out]; exact hyz)
                  have HNO := Lib.hid hno
                  have dz : (z == y) = true := by simp; exact hyz
                  clear hno hyz
                  go_wp2
                  go_quiet (fail)
                  go_wp2
                  go_ret2
                  exact ⟨fun h => absurd h HNO.out, fun _ => rfl, below_drewN (hb2.trans (hbk.mono hb2.size)) _⟩
                · have dz : (z == y) = false := by simp; exact hyz
                  have HYZ := Lib.hid hyz
                  clear hyz
                  go_wp2
                  go_quiet (fail)
                  go_wp2
                  go_roundw
                  case rel => exact ⟨k + 1, by omega, by go_num, fun a ha => by
                    rcases Nat.lt_or_ge a k with h1 | h1
                    · exact HDK.out a h1
                    · obtain rfl : a = k := by omega
                      rw [HZQ.out]; exact HYZ.out, below_drewN hbk _⟩
                  case measure => simp [intOf]; omega
              · have dki : decide (k < i) = false := decide_eq_false hki
                have hki' : k = i := by omega
                have HKI := Lib.hid hki'
                clear hki'
                go_wp2
                go_roundw
                case rel => exact ⟨i + 1, by omega, by go_num, fun a b hab hb => by
                  rcases Nat.lt_or_ge b i with h1 | h1
                  · exact HDS.out a b hab h1
                  · obtain rfl : b = i := by omega
                    rw [HYQ.out]
                    exact HDK.out a (by rw [HKI.out]; exact hab), hbi.trans (hbk.mono hbi.size)⟩
                case measure => simp [intOf]; omega
          · have dlt : decide (i < q) = false := decide_eq_false hlt
            have hiq' : i = q := by omega
            have hnd : ss.Nodup := nodup_iff.2 (fun a b hab hb => HDS.out a b hab (by rw [HN.out] at hb; omega))
            have hql := nodupI_le hnd hB
            rw [HN.out] at hql
            have HND := Lib.hid hnd
            have hRi2 := (hRv2.below hbi).more hbi.size
            have hsi := hb2.size
            have hZr := TzI_rng cn 16
            rw [← HZ.out] at hZr
            have hVl : Vl Z := fun x hx => by have := hZr.1 x hx; omega
            have hIz : Is Z := fun x hx => by have := hZr.1 x hx; omega
            have hIs : Is ss := fun x hx => by have := hB x hx; omega
            have hokq : TabOk cn ss ↔ kr Z < 65536 := by
              constructor
              · intro h
                have := h.2.2.2
                rw [← HZ.out] at this
                exact this
              · intro h
                refine ⟨HNN2.out, ?_, HND.out, ?_⟩
                · rw [← HZ.out, ← HQ.out, HN.out]
                · rw [← HZ.out]; exact h
            have HOK := Lib.hid hokq
            have HVL := Lib.hid hVl
            have HSRT := Lib.hid hZr
            clear hiq' hnd hokq hVl hZr
            go_wp2_with fail
            refine (rfree_any A2 q c2 Z wi.heap.size wi HQ.out.symm hRi2 hIz).mono ?_; rintro e w5 ⟨h1, h2, rfl⟩
            by_cases hf : Fm Z
            · obtain rfl := h1 hf
              have hkr := hf.2.2
              have HF := Lib.hid hf
              clear h1 h2 hf
              go_wp2_with fail
              refine (list_any A1 A2 q c1 q c2 ss Z wi HN.out HQ.out.symm rfl hRi hRi2 hIs ⟨fun z hz => by have := HSRT.out.1 z hz; omega, HSRT.out.2, by have := HF.out.2.2; exact this⟩ (by omega)).mono ?_; rintro e w6 ⟨v6, rows, rfl, ho6, hcl6, hb6⟩
              obtain ⟨A6, c6, rfl, _, _, hR6⟩ := own_sliceN ho6
              have hcs6 : CsL w6 w.heap.size A6 ss Z := ⟨rows, hR6, fun a ha => by have := (ho6.lt a.block (by rw [ha]; rfl)).1; omega, (hcl6.base hsi).x (fun b hb => by cases hb)⟩
              have hb6' := hb2.trans (hb6.mono hsi)
              have hkq : 0 < kr Z → True := fun _ => trivial
              by_cases hpos : 0 < q
              · have dq : decide ((0 : Int) < (q : Int)) = true := decide_eq_true (by omega)
                have HKR : Hid (TabOk cn ss ↔ kr Z < 65536) := Lib.hid HOK.out
                generalize kr Z = kk at *
                by_cases hk5 : kk < 65536
                · have d0 : (65536 - kk == 0) = false := by simp; omega
                  go_wp2
                  go_ret2
                  exact ⟨fun _ => ⟨A6, c6, by rw [HN.out]; rfl, by rw [← HZ.out]; exact hcs6⟩, fun h => absurd (HKR.out.2 hk5) h, hb6'⟩
                · have d0 : (65536 - kk == 0) = true := by simp; omega
                  go_wp2
                  go_ret2
                  exact ⟨fun h => by have := HKR.out.1 h; omega, fun _ => rfl, hb6'⟩
              · have dq : decide ((0 : Int) < (q : Int)) = false := decide_eq_false (by omega)
                have hz0 : Z = [] := List.eq_nil_of_length_eq_zero (by rw [← HQ.out]; omega)
                have hok : TabOk cn ss := HOK.out.2 (by rw [hz0]; decide)
                have HOKK := Lib.hid hok
                clear hok hz0 hkq
                go_wp2
                go_ret2
                exact ⟨fun _ => ⟨A6, c6, by rw [HN.out]; rfl, by rw [← HZ.out]; exact hcs6⟩, fun h => absurd HOKK.out h, hb6'⟩
            · obtain ⟨x, rfl⟩ := h2 hf
              have hno : ¬ TabOk cn ss := fun h => hf ⟨by rw [← HQ.out]; omega, HVL.out, by have := HOK.out.1 h; omega⟩
              have HNO := Lib.hid hno
              clear h1 h2 hf hno
              go_wp2
              go_ret2
              exact ⟨fun h => absurd h HNO.out, fun _ => rfl, hb2⟩
      · have hno : ¬ TabOk cn ss := fun hok => by
          have := hok.2.1
          rw [← HZ.out, ← HQ.out, HN.out] at this
          exact hqn this
        have HNO := Lib.hid hno
        have dq : ((q : Int) != (n : Int)) = true := by simp; omega
        clear hno hqn
        go_wp2
        go_ret2
        exact ⟨fun h => absurd h HNO.out, fun _ => rfl, hbw.trans (hb.mono hgw)⟩
end Go.Proofs.Ytlhappecjjbopaa
