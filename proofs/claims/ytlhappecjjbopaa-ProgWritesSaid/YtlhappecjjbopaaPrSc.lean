/-
  Prog: ProgWrites: what any band is written to is read as what is known behind it. No condition.
-/
import Derived.Test.YtlhappecjjbopaaPrSa
import Derived.Test.YtlhappecjjbopaaPrSb
import Derived.Test.YtlhappecjjbopaaPrRk
import Derived.Test.YtlhappecjjbopaaScL
import Derived.Test.YtlhappecjjbopaaCaU
import Derived.Test.YtlhappecjjbopaaFacts
import Derived.Test.YtlhappecjjbopaaArw
namespace Go.Proofs.Ytlhappecjjbopaa
open Go.ChangeShapes Go.WideShapes Go.ChangeAt Go.WideMaps Go.WideElems Go.RowKit Go.Joins
set_option linter.unusedVariables false
set_option maxRecDepth 100000
theorem Try.info_rpc2 : (Try.prog.info? 26).map (fun i => (i.zero, i.size, i.bytes)) = some (some (.agg #[.bool false, .int .i64 0, .int .i64 0, .int .i64 0]), 4, 32) := by kernel_rfl
def RetW (w : World) (e : Ending) (w' : World) : Prop := e = .returned (.bool true) ∧ Below w.heap.size w w'
theorem codS_nil (w : World) (C : List Int) : CodS w w.heap.size none 0 [] [] C :=
  ⟨rfl, by omega, fun s hs => by simp at hs, ⟨w, [], .inl rfl, ⟨rfl, fun r hr => by simp at hr, fun i s b h => by simp [codesOf, sz] at h⟩, rfl, Below.refl _ _⟩, fun i s h => by simp at h⟩
/-- the lengths of all 256 symbols -/
def AllQ (w : World) (e : Ending) (w' : World) : Prop :=
  ∃ c, e = .returned (.slice (some ⟨w.heap.size, 0, none⟩) 256 c) ∧ w'.ownsRow w.heap.size 3 1 (.slice (some ⟨w.heap.size, 0, none⟩) 256 c) 256 (iv (flatL 256 8 0)) ∧ Below w.heap.size w w'
set_option maxHeartbeats 4000000 in
theorem all256_any (w : World) : Calls Try.prog 75 #[] w (AllQ w) := by
  have hmk : ∀ W : World, (Instr.makeSlice 24 (.int .i64 256) (.int .i64 256)).run Try.prog W = .ok (.slice (some ⟨W.heap.size, 0, none⟩) 256 256) (W.alloc (.cells (iv (rep0 256)).toArray 3)) := fun W => make_ints 256 (by omega) W
  have ho0 := own_ints w (rep0 256) (by rw [rep0, List.length_replicate]; omega)
  rw [show (rep0 256).length = 256 by rw [rep0, List.length_replicate], show rep0 256 = flatK 256 8 0 0 by rw [flatK_zero]; rfl] at ho0
  have hb0 : Below w.heap.size w (w.alloc (.cells (iv (rep0 256)).toArray 3)) := (Below.refl _ _).alloc (Nat.le_refl _) _
  rw [show rep0 256 = flatK 256 8 0 0 by rw [flatK_zero]; rfl] at hmk hb0
  go_enter Try.func75, Try.ntmps75
  go_wp2_with fail
  generalize w.alloc (.cells (iv (flatK 256 8 0 0)).toArray 3) = w0 at *
  clear hmk
  go_loopw [6] (fun i wr => ∃ k : Nat, k ≤ 256 ∧ i = .int .i64 k ∧ wr.ownsRow w.heap.size 3 1 (.slice (some ⟨w.heap.size, 0, none⟩) 256 256) 256 (iv (flatK 256 8 0 k)) ∧ Below w.heap.size w wr) (fun i _ => 256 - (intOf i).toNat)
  case atStart => exact ⟨0, Nat.zero_le _, rfl, ho0, hb0⟩
  case round =>
    obtain ⟨k, hk, rfl, hown, hb⟩ := hrel
    clear ho0 hb0
    by_cases hlt : k < 256
    · have hlen := flatK_len 256 8 0 k
      have cc : wr.cell? ⟨w.heap.size, k, none⟩ = some (.int .i64 ((flatK 256 8 0 k).getD k 0)) := by
        have h := World.ownsRow.cellAt hown k (by omega)
        rwa [ivs_get (by rw [hlen]; exact hlt)] at h
      have cf : wr.frozen? ⟨w.heap.size, k, none⟩ = false := own_fz hown hlt
      have s1 := own_set hown k 9
      have hks := flatK_set 256 8 0 k
      rw [if_neg (by omega)] at hks
      have hk0' : (0 : Int) ≤ (k : Int) := by omega
      have hk1' : (k : Int) < 256 := by omega
      have S1 := Lib.hid s1
      have HKS := Lib.hid hks
      clear hks hlen s1 hown
      go_wp2_with fail
      go_roundw
      case rel => exact ⟨k + 1, by omega, by go_num, by rw [← HKS.out]; exact S1.out, hb.setCell (p := ⟨w.heap.size, k, none⟩) (Nat.le_refl _) _⟩
      case measure => simp [intOf]; omega
    · have hk : k = 256 := by omega
      go_wp2_with fail
      go_ret
      rw [hk, flatK_all] at hown
      exact ⟨256, rfl, hown, hb⟩
theorem codS_of2 {w : World} {K : Nat} {A : Option Addr} {ls : List Int} {O : List Nat} {C : List Int} (ho : Ordd ls O C) (ha : AllO ls O) (hs : Cs w K A (sy O) (sz ls O)) : CodS w K A O.length ls O C :=
  ⟨rfl, by have := ho.len; omega, ha, hs, fun i s hi => by
    have hm := ho.mem s (List.mem_of_getElem? hi)
    exact ⟨ho.co hi, hm.1, by omega, hm.2.2⟩⟩
set_option maxHeartbeats 32000000 in
theorem progWrites_any (w : World) (A : Option Addr) (n c : Nat) (rows : List (List Value)) (hn : rows.length = n) (hcc : n ≤ c) (hmm : c ≤ 9223372036854775807) (hrows : ∀ r ∈ rows, r.length = 64 ∧ IvN 64 r) (hR : Rd w w.heap.size A rows.flatten)
    (f : Int) (hf : -9223372036854775808 ≤ f ∧ f ≤ 9223372036854775807) (t : Int) (ht : -9223372036854775808 ≤ t ∧ t ≤ 9223372036854775807) (h : Int) (hh : -9223372036854775808 ≤ h ∧ h ≤ 9223372036854775807) (l : Int) (hl : -9223372036854775808 ≤ l ∧ l ≤ 9223372036854775807) :
    Calls Try.prog 15 #[.slice A n c, .agg #[.int .i64 f, .int .i64 t, .int .i64 h, .int .i64 l]] w (RetW w) := by
  obtain ⟨G, rfl, hG0⟩ := rows_ivs rows hrows
  have hgl : G.length = n := by rw [← hn, List.length_map]
  have hblk : Blk w A n G := ⟨hgl, hR, hG0⟩
  have HBK := Lib.hid hblk
  have HG0 := Lib.hid hG0
  have X0 := Box4.new w 33 (.int .i64 f) (.int .i64 t) (.int .i64 h) (.int .i64 l)
  have hb0 : Below w.heap.size w (w.alloc (.cells #[.int .i64 f, .int .i64 t, .int .i64 h, .int .i64 l] 33)) := (Below.refl _ _).alloc (Nat.le_refl _) _
  clear hrows hn hblk hG0 hR
  go_enter Try.func15, Try.ntmps15
  go_upto_region 1 with fail
  obtain ⟨rb, hrb⟩ : ∃ rb, rb = w.heap.size := ⟨_, rfl⟩
  generalize w.alloc (.cells #[.int .i64 f, .int .i64 t, .int .i64 h, .int .i64 l] 33) = w0 at *
  rw [← hrb] at X0 ⊢
  have HRB := Lib.hid hrb
  clear hrb
  have hs0 := hb0.size
  go_wp2_with fail
  refine (alive22_any w0).mono ?_; rintro e w1 ⟨rfl, hb1⟩
  have X1 := X0.below hb1 X0.lt
  have hb1' := hb0.trans (hb1.mono hs0)
  have hs1 := hb1'.size
  clear X0 hb1 hb0 hs0
  by_cases h100 : 40 < n
  · have d1 : decide ((40 : Int) < (n : Int)) = true := decide_eq_true (by omega)
    go_wp2
    go_ret
    exact ⟨rfl, hb1'⟩
  have d1 : decide ((40 : Int) < (n : Int)) = false := decide_eq_false (by omega)
  obtain ⟨j0, zb, hj0, hy0, hy1, hy2, hy3, _⟩ := info_blk23
  have hba : Below w1.heap.size w1 (w1.alloc (.cells #[] 70)) := (Below.refl _ _).alloc (Nat.le_refl _) _
  have hown0 : (w1.alloc (.cells #[] 70)).ownsRow w1.heap.size 70 64 (.slice (some ⟨w1.heap.size, 0, none⟩) 0 0) 0 [] :=
    World.ownsRow_made w1 #[] 0 (Nat.le_refl _) (by unfold maxLen; omega) (by simp)
  have hbk1 := HBK.out.below hb1'
  have hRa := hbk1.rd.below hba
  have hfl := flat_len64 hbk1.l64
  rw [hbk1.len] at hfl
  have hone := one_ivs G
  go_upto_region 6 with (at_builtin; refine wpList_appN0 _ rfl (.tmp 23) (.tmp 24) 105 rfl Try.underlying105 hj0 hy0 hy1 hy2 hy3 (by omega) hown0 rfl rfl hRa hfl hone (by omega) (by omega) hba.size ?_; intro v2 w2 hown2 hap2; have hb2 : Below w1.heap.size w1 w2 := hba.trans (hap2.below (fun k hk => (hown0.lt k hk).1) hba.size); simp only [Nat.zero_add, List.nil_append] at hown2)
  obtain ⟨Al, cl, hve, _, hcl, _⟩ := own_sliceN hown2
  subst hve
  have X2 := X1.below hb2 X1.lt
  have hb2' := hb1'.trans (hb2.mono hs1)
  have hs2 := hb2'.size
  clear hown0 hba hRa hfl hone hap2 hb2 X1 hb1' hs1 hbk1
  obtain ⟨_, x0, x1, x2, x3⟩ := id X2
  go_wp2_with fail
  refine (band_any f t h l w2).mono ?_; rintro e w3 ⟨rfl, hb3⟩
  have X3 := X2.below hb3 X2.lt
  have ho3 := own_keepN hown2 hb3
  have hb3' := hb2'.trans (hb3.mono hs2)
  have hs3 := hb3'.size
  clear x0 x1 x2 x3 X2 hown2 hb3 hb2' hs2
  go_wp2_with fail
  refine (ac_any (w := w3) (c := cl) (Blk.of_own ho3 HBK.out.len HG0.out) (by omega) f t h l).mono ?_; rintro e w4 ⟨hk1, hk2, hb4⟩
  have X4 := X3.below hb4 X3.lt
  have ho4 := own_keepN ho3 hb4
  have hb4' := hb3'.trans (hb4.mono hs3)
  have hs4 := hb4'.size
  have hbl4 := Blk.of_own ho4 HBK.out.len HG0.out
  have hbk4 := HBK.out.below hb4'
  clear X3 ho3 hb3' ho4 hs3
  by_cases hok : AcOk f t h l G
  · obtain ⟨v4, rfl, hov⟩ := hk1 hok
    have HOK := Lib.hid hok
    have hgd := hok.1
    have hgd2 : 1 ≤ f ∧ f ≤ t ∧ t ≤ 63 ∧ 0 ≤ l ∧ l ≤ 9 ∧ 0 ≤ h ∧ h ≤ 10 := by have := hok.2.1; unfold Gd at hgd; omega
    obtain ⟨F, rfl⟩ := Int.eq_ofNat_of_zero_le (show 0 ≤ f by omega)
    obtain ⟨T, rfl⟩ := Int.eq_ofNat_of_zero_le (show 0 ≤ t by omega)
    obtain ⟨H, rfl⟩ := Int.eq_ofNat_of_zero_le (show 0 ≤ h by omega)
    obtain ⟨K, rfl⟩ := Int.eq_ofNat_of_zero_le (show 0 ≤ l by omega)
    rw [Int.toNat_natCast, Int.toNat_natCast] at hov
    obtain ⟨N, hN⟩ : ∃ N, N = T + 1 - F := ⟨_, rfl⟩
    rw [← hN] at hov
    have HN := Lib.hid hN
    obtain ⟨Q, hQ⟩ : ∃ Q, Q = acP F N (H : Int) (K : Int) G := ⟨_, rfl⟩
    rw [← hQ] at hov
    have HQ := Lib.hid hQ
    have hQg : ∀ p ∈ Q, AcG p := by rw [hQ]; exact acP_g (by omega) (by omega) HOK.out.2.2 (by have := HBK.out.len; omega)
    have hQl : Q.length ≤ 10000 := by rw [hQ]; exact acP_len2 (by omega) (by have := HBK.out.len; omega)
    obtain ⟨np, hnp⟩ : ∃ q, q = Q.length := ⟨_, rfl⟩
    rw [← hnp] at hov
    have hnpb : np ≤ 10000 := by omega
    have HNP := Lib.hid hnp
    have HQG := Lib.hid hQg
    obtain ⟨Ap, cp, hve, _, _, hRp⟩ := own_sliceN hov
    subst hve
    have hft : F ≤ T := by omega
    have hT63 : T ≤ 63 := by omega
    have hF1 : 1 ≤ F := by omega
    have hH10 : H ≤ 10 := by omega
    have hK9 : K ≤ 9 := by omega
    clear hk1 hk2 hb4 hok hgd hgd2 hN hQ hQg hQl hnp
    go_wp2_with fail
    refine (same22_any Al A n cl n c G G w4 hbl4 hbk4 (by omega)).mono ?_; rintro e w5 ⟨rfl, hb5⟩
    rw [decide_eq_true (rfl : G = G)]
    have X5 := X4.below hb5 X4.lt
    have hRp5 := hRp.below hb5
    have hb5' := hb4'.trans (hb5.mono hs4)
    have hs5 := hb5'.size
    have hlp := hov.lt
    clear X4 hb4' hbl4 hbk4
    obtain ⟨_, x0, x1, x2, x3⟩ := id X5
    go_wp2_with fail
    refine (rgood_any (F : Int) (T : Int) (H : Int) (K : Int) true (fun hg => rfl) (fun hg => absurd HOK.out.1 hg) w5).mono ?_; rintro e w6 ⟨rfl, hb6⟩
    have X6 := X5.below hb6 X5.lt
    have hb6' := hb5'.trans (hb6.mono hs5)
    have hs6 := hb6'.size
    have dF0 : ((F : Int) == 0) = false := by simp; omega
    clear x0 x1 x2 x3 X5
    obtain ⟨_, x0, x1, x2, x3⟩ := id X6
    go_wp2_with fail
    refine (blocks22_any A n c G w6 (HBK.out.below hb6') (by omega)).mono ?_; rintro e w7 ⟨rfl, hb7⟩
    rw [gL_t HOK.out.2.2]
    have X7 := X6.below hb7 X6.lt
    have hb7' := hb6'.trans (hb7.mono hs6)
    have hs7 := hb7'.size
    clear x0 x1 x2 x3 X6
    obtain ⟨_, x0, x1, x2, x3⟩ := id X7
    go_upto_region 14 with fail
    obtain ⟨i0, hi0, hz0, hz1, hz2⟩ := info_parts Try.info_rpc2
    have hL0 : (w7.alloc (.cells #[] 26)).ownsRow w7.heap.size 26 4 (.slice (some ⟨w7.heap.size, 0, none⟩) 0 0) 0 [] := World.ownsRow_made w7 #[] 0 (Nat.le_refl _) (by unfold maxLen; omega) (by simp)
    have hbl0 : Below w7.heap.size w7 (w7.alloc (.cells #[] 26)) := (Below.refl _ _).alloc (Nat.le_refl _) _
    have h45 := hb5.size
    have h56 := hb6.size
    have h67 := hb7.size
    have hRp7 := (hRp5.below (hb6.mono (by omega))).below (hb7.mono (by omega))
    have hRs := hRp7.more (show w4.heap.size ≤ w7.heap.size by omega)
    clear x0 x1 x2 x3 hRp hRp5 hRp7 hov h45 h56 h67
    go_wp2_with fail
    go_loopw [8, 62] (fun v ix wr => ∃ i : Nat, i ≤ np ∧ ix = .int .i64 i ∧ wr.ownsRow w7.heap.size 26 4 v i (pcRows (Q.take i)) ∧ Below w7.heap.size w7 wr) (fun _ ix _ => np - (intOf ix).toNat)
    case atStart => exact ⟨0, Nat.zero_le _, rfl, hL0, hbl0⟩
    case round =>
      obtain ⟨i, hi, rfl, hrow, hb⟩ := hrel
      clear hL0 hbl0
      obtain ⟨wi, rfl⟩ : ∃ wi : World, wi = wr := ⟨_, rfl⟩
      obtain ⟨Av, cv, hve, _⟩ := own_sliceN hrow
      subst hve
      by_cases hlt : i < np
      · have dl : decide (i < np) = true := decide_eq_true hlt
        obtain ⟨p, hp⟩ : ∃ p, Q[i]? = some p := ⟨Q[i]'(by rw [← HNP.out]; exact hlt), List.getElem?_eq_getElem _⟩
        have hpl : i * 4 < (pcRows Q).length := by rw [pcRows_len, ← HNP.out]; omega
        obtain ⟨b1, o1, rfl, _, hcr⟩ := (hRs.below hb).at_ hpl
        have htk : Q.take (i + 1) = Q.take i ++ [p] := by rw [List.take_add_one, hp]; rfl
        have HTK := Lib.hid htk
        have hpg := HQG.out p (List.mem_of_getElem? hp)
        obtain ⟨ac, sym, ex, bn⟩ := p
        obtain ⟨hac, hsym, hbn, hex⟩ := hpg
        dsimp only at hac hsym hbn hex
        subst hac
        have a0 := hcr _ _ (pcRows_get hp (j := 0) (u := .bool true) rfl)
        have a1 := hcr _ _ (pcRows_get hp (j := 1) (u := .int .i64 sym) rfl)
        have a2 := hcr _ _ (pcRows_get hp (j := 2) (u := .int .i64 ex) rfl)
        have a3 := hcr _ _ (pcRows_get hp (j := 3) (u := .int .i64 bn) rfl)
        rw [← Nat.add_assoc] at a0 a1 a2 a3
        rw [Nat.add_zero] at a0
        have hi0' : (0 : Int) ≤ (i : Int) := by omega
        have hi1' : (i : Int) < (np : Int) := by omega
        have ds1 : decide (sym < -1) = false := decide_eq_false (by omega)
        have ds2 : decide (255 < sym) = false := decide_eq_false (by omega)
        have db1 : decide (bn < 0) = false := decide_eq_false (by omega)
        have db2 : decide (16 < bn) = false := decide_eq_false (by omega)
        obtain ⟨bk, rfl⟩ := Int.eq_ofNat_of_zero_le hbn.1
        rw [Int.toNat_natCast] at hex
        have hexb : ex < 65536 := by
          have h1 : 2 ^ bk ≤ 2 ^ 16 := Nat.pow_le_pow_right (by omega) (by omega)
          have h2 := two_cast bk
          omega
        have hfit : decide (Fit ex (bk : Int)) = true := decide_eq_true ⟨by omega, hex.1, by rw [Int.toNat_natCast]; exact Int.ediv_eq_zero_of_lt hex.1 hex.2⟩
        have hft2 := fun W : World => fits_any ex (bk : Int) true hfit (by omega) W
        have HFT := Lib.hid hft2
        clear hcr hp hpl htk hsym hbn hex hfit hft2
        go_upto_region 17 with fail
        have hba : Below wi.heap.size wi (wi.alloc (.cells #[.bool true, .int .i64 sym, .int .i64 ex, .int .i64 (bk : Int)] 27)) := (Below.refl _ _).alloc (Nat.le_refl _) _
        have Y := Bln.new wi 27 [.bool true, .int .i64 sym, .int .i64 ex, .int .i64 (bk : Int)]
        have z0 := Y.cell (i := 0) (u := .bool true) rfl
        have z1 := Y.cell (i := 1) (u := .int .i64 sym) rfl
        have z2 := Y.cell (i := 2) (u := .int .i64 ex) rfl
        have z3 := Y.cell (i := 3) (u := .int .i64 (bk : Int)) rfl
        have hrow1 := own_keepN hrow hba
        have hb1 := hb.trans (hba.mono hb.size)
        have hsz : (wi.alloc (.cells #[.bool true, .int .i64 sym, .int .i64 ex, .int .i64 (bk : Int)] 27)).heap.size = wi.heap.size + 1 := by simp
        clear Y
        generalize wi.alloc (.cells #[.bool true, .int .i64 sym, .int .i64 ex, .int .i64 (bk : Int)] 27) = wj at *
        have hbb : Below wj.heap.size wj (wj.alloc (.cells (pcV (true, sym, ex, (bk : Int))).toArray 26)) := (Below.refl _ _).alloc (Nat.le_refl _) _
        have hoa := own_keepN hrow1 hbb
        have hsj := hb1.size
        have hsza : w7.heap.size ≤ (wj.alloc (.cells (pcV (true, sym, ex, (bk : Int))).toArray 26)).heap.size := by have := hbb.size; omega
        clear hsz hba
        go_wp2_with (first | (go_at_call 74; refine (HFT.out _).mono ?_; rintro e w' ⟨rfl, rfl⟩) | (at_builtin; refine wpList_appN0 _ rfl (.tmp 92) (.tmp 100) 22 rfl Try.underlying22 hi0 hz0 hz1 hz2 rfl (by omega) hoa rfl rfl (Rd.newN wj 26 (pcV (true, sym, ex, (bk : Int)))) rfl (pcV_one _) (by omega) (by omega) hsza ?_; intro v9 w9 hown9 hap9))
        go_roundw
        case rel => exact ⟨i + 1, by omega, by go_num, by rw [HTK.out, pcRows_snoc]; exact hown9, hb1.trans ((hbb.mono hsj).trans (hap9.below (fun k hk => (hoa.lt k hk).1) hsza))⟩
        case measure => simp [intOf]; omega
      · have dl : decide (i < np) = false := decide_eq_false hlt
        have hin : i = np := by omega
        have htl : Q.take i = Q := List.take_of_length_le (by rw [← HNP.out]; omega)
        rw [htl] at hrow
        have HIN := Lib.hid hin
        have hb8' := hb7'.trans (hb.mono hs7)
        have hs8 := hb8'.size
        have X8 := X7.below (hb.mono (Nat.le_refl _)) X7.lt
        clear htl hin
        go_wp2_with fail
        refine (all256_any wi).mono ?_; rintro e w9 ⟨ca, rfl, hoa, hb9⟩
        have hb9' := hb8'.trans (hb9.mono hs8)
        have hs9 := hb9'.size
        have hrow9 := own_keepN hrow hb9
        go_wp2_with fail
        refine (refCodes_cs _ 256 ca (flatL 256 8 0) w9 (flatL_len 256 8 0) (Rd.of_own hoa) (flat_is (flat_fm.2 0 (by omega))) (flat_fm.2 0 (by omega))).mono ?_; rintro e w10 ⟨Ac, cc, rfl, hcs, hb10⟩
        rw [ord256, List.length_range]
        have hb10' := hb9'.trans (hb10.mono hs9)
        have hs10 := hb10'.size
        have hrow10 := own_keepN hrow9 hb10
        obtain ⟨Av2, cv2, hve, _, _, hRv⟩ := own_sliceN hrow10
        injection hve with hve1 _ hve3
        subst hve1 hve3
        have hHas := flat_has (flat_fm.2 0 (by omega)) cd_all
        have HHAS := Lib.hid hHas
        have hcod := codS_of2 hHas.ord hHas.all hcs
        rw [ord256, List.length_range] at hcod
        have hQi : Q.length = i := by rw [HIN.out, HNP.out]
        have hfq : ∀ p ∈ Q, FitP p := fun p hp => by
          obtain ⟨h1, h2, h3, h4⟩ := HQG.out p hp
          exact ⟨h3, h4.1, Int.ediv_eq_zero_of_lt h4.1 h4.2, by omega, by omega⟩
        have hokq : ∀ p ∈ Q, OkQ [] (flatL 256 8 0) p := fun p hp => (HQG.out p hp).okQ HHAS.out
        have hnp6 : i ≤ 1000000 := by omega
        go_wp2_with fail
        refine (refBits_any (n := i) (c1 := 0) (codS_nil w10 []) hcod (Nat.le_refl _) (Nat.le_refl _) hQi hRv hfq hnp6).mono ?_; rintro e w11 ⟨hbt, _, hb11⟩
        obtain ⟨vb, rfl, hob⟩ := hbt hokq
        have h01 : B01 (flatQ [] [] (flatL 256 8 0) C256 Q) := flatQ_01 _ _ _ _ Q
        obtain ⟨L, hL⟩ : ∃ L, L = flatQ [] [] (flatL 256 8 0) C256 Q := ⟨_, rfl⟩
        rw [← hL] at hob h01
        obtain ⟨nb, hnb⟩ : ∃ q, q = L.length := ⟨_, rfl⟩
        rw [← hnb] at hob
        have hLb : L.length ≤ 1000000000 := by
          have := flatQ_len (C1 := []) (C2 := C256) (ls1 := []) (ls2 := flatL 256 8 0) (fun x hx => by simp at hx) HHAS.out.vl Q hokq
          rw [← hL] at this
          omega
        have HLB := Lib.hid hLb
        have HL := Lib.hid hL
        have HNB := Lib.hid hnb
        obtain ⟨Ab, cb, hve, hcb1, hcb2, hRb⟩ := own_sliceN hob
        subst hve
        have hlb := hob.lt
        have X9 := X8.below hb9 X8.lt
        have X10 := X9.below hb10 X9.lt
        have X11 := X10.below hb11 X10.lt
        have hb11' := hb10'.trans (hb11.mono hs10)
        have hs11 := hb11'.size
        have hcs11 := hcs.keep hb11
        have HB01 := Lib.hid h01
        have HX : Hid (∀ x ∈ G, x.length = 64 ∧ GoodB x) := Lib.hid fun x hx => ⟨(HG0.out x hx).1, HOK.out.2.2 x hx⟩
        have HKI : Hid (∀ k : Int, ∀ x ∈ G.map (knB F T k false), x.length = 64 ∧ Is x) := Lib.hid fun k x hx => by
          obtain ⟨y, hy, rfl⟩ := List.mem_map.1 hx
          exact ⟨by unfold knB; rw [knG_len]; exact (HG0.out y hy).1, knG_is (HG0.out y hy).1 (HOK.out.2.2 y hy) F _ _ _ (by omega)⟩
        have hdc : decide ((F : Int) = 0) = false := decide_eq_false (by omega)
        have hn100 : n ≤ 1000 := by omega
        clear hLb X8 X9 X10 hb10' hs10 hb9' hs9 hs8 hb8' hL hnb h01 hbt hfq hokq hnp6 hQi hcod hHas hRv hrow10 hrow9 hrow hRs hoa dl hlt hi hob
        obtain ⟨_, x0, x1, x2, x3⟩ := id X11
        obtain ⟨dq, hdq⟩ : ∃ d : Bool, decide ((0 : Int) < (H : Int)) = d := ⟨_, rfl⟩
        have hdq2 : decide (0 < H) = dq := by rw [← hdq]; exact decide_eq_decide.2 (by omega)
        go_upto_if 116 with fail
        go_cut [14] from 117 to 131 (fun v wx => ∃ (Ay : Option Addr) (cy : Nat), v = .slice Ay n cy ∧ Blk wx Ay n (if (0 : Int) < (H : Int) then knL F N (H : Int) G else G) ∧ Below w11.heap.size w11 wx)
        case first =>
          cases dq with
          | true =>
            have hh0 : 0 < H := of_decide_eq_true hdq2
            have HEQ : Hid ((if (0 : Int) < (H : Int) then knL F N (H : Int) G else G) = G.map (knB F T (H : Int) false)) := Lib.hid (by rw [if_pos (by omega), HN.out, knL_map])
            clear hh0
            go_wp2_with fail
            refine (rknown_any (w := w11) (c := c) (HBK.out.below hb11') hn100 F T H 0 hft hT63 hH10 HOK.out.2.2).mono ?_; rintro e w12 ⟨v12, rfl, ho12, hb12⟩
            rw [hdc, HBK.out.len] at ho12
            have X12 := X11.below hb12 X11.lt
            obtain ⟨A12, c12, hve, _, _, _⟩ := own_sliceN ho12
            subst hve
            have hB12 := Blk.of_own ho12 (by rw [List.length_map]; exact HBK.out.len) (HKI.out _)
            clear x0 x1 x2 x3 ho12
            obtain ⟨_, x0, x1, x2, x3⟩ := id X12
            by_cases hh9 : 9 < H
            · have d9 : decide ((9 : Int) < (H : Int)) = true := decide_eq_true (by omega)
              have d9' : decide (9 < H) = true := decide_eq_true (by omega)
              have hb12' := hb11'.trans (hb12.mono hs11)
              have HH9 := Lib.hid hh9
              clear hh9
              go_wp2_with fail
              refine (zero22_any (w := w12) (c := c) (HBK.out.below hb12') hn100 F T (H : Int) (K : Int) hft hT63).mono ?_; rintro e w13 ⟨v13, rfl, ho13, hb13⟩
              have hz : G.map (fun x => zrN x F (T + 1 - F)) = G.map (knB F T (H : Int) false) := by
                rw [zrL_map, knL_map, show (H : Int) = 10 by have := HH9.out; omega]
              rw [hz, HBK.out.len] at ho13
              obtain ⟨A13, c13, hve, _, _, _⟩ := own_sliceN ho13
              subst hve
              have hB13 := Blk.of_own ho13 (by rw [List.length_map]; exact HBK.out.len) (HKI.out _)
              have hb13' := hb12.trans (hb13.mono hb12.size)
              clear x0 x1 x2 x3 ho13 hz
              go_wp2_with fail
              go_meet
              exact ⟨_, _, rfl, by rw [HEQ.out]; exact hB13, hb13'⟩
            · have d9 : decide ((9 : Int) < (H : Int)) = false := decide_eq_false (by omega)
              have d9' : decide (9 < H) = false := decide_eq_false (by omega)
              clear hh9
              go_wp2_with fail
              go_meet
              exact ⟨_, _, rfl, by rw [HEQ.out]; exact hB12, hb12⟩
          | false =>
            have hh0 : ¬ 0 < H := of_decide_eq_false hdq2
            have HEQ : Hid ((if (0 : Int) < (H : Int) then knL F N (H : Int) G else G) = G) := Lib.hid (if_neg (by omega))
            clear hh0
            go_wp2_with fail
            go_meet
            exact ⟨_, _, rfl, by rw [HEQ.out]; exact HBK.out.below hb11', Below.refl _ _⟩
        case rest =>
          obtain ⟨Ay, cy, rfl, hY, hbx⟩ := hcut
          have X12 := X11.below hbx X11.lt
          have hb12' := hb11'.trans (hbx.mono hs11)
          have hs12 := hb12'.size
          have hcs12 := hcs11.keep (hbx.mono hb11.size)
          have hh := hbx.size
          have hR12 := (hRb.below hbx).more hh
          obtain ⟨Y, hYq⟩ : ∃ Y, Y = (if (0 : Int) < (H : Int) then knL F N (H : Int) G else G) := ⟨_, rfl⟩
          rw [← hYq] at hY
          have HYQ := Lib.hid hYq
          have HN1 : 1 ≤ N := by rw [HN.out]; omega
          have HFN : F + N ≤ 64 := by rw [HN.out]; omega
          have hYG : GoodL Y := by
            rw [hYq]
            by_cases h0 : (0 : Int) < (H : Int)
            · rw [if_pos h0]; exact fun y hy => (knL_good hF1 HFN HX.out y hy).2
            · rw [if_neg h0]; exact fun y hy => (HX.out y hy).2
          have haf := ahead_fine (l := (K : Int)) (h := (H : Int)) hF1 HFN (by omega) (fun h0 => by have := HOK.out.1; unfold Gd at this; omega) HX.out
          rw [← hYq] at haf
          have hrd : rdAll (sy (ordU (flatL 256 8 0) 16)) (sz (flatL 256 8 0) (ordU (flatL 256 8 0) 16)) L F N (H : Int) (K : Int) Y 0 0 = (knL F N (K : Int) G, nb, 0) := by
            have := ac_read (b := L) (T := []) HHAS.out HN1 (by rw [HBK.out.len]; exact hn100) haf.1 HB01.out (by rw [HL.out, HQ.out, List.append_nil])
            rw [this, haf.2, ← HQ.out, ← HL.out, ← HNB.out]
          have hSy : ∀ x ∈ sy (ordU (flatL 256 8 0) 16), 0 ≤ x ∧ x ≤ 255 := fun x hx => by
            rw [ord256] at hx
            obtain ⟨s, hs, rfl⟩ := List.mem_map.1 hx
            have := List.mem_range.1 hs; omega
          have hrr := rread22_any (R := (knL F N (K : Int) G, nb, 0)) (c1 := cc) (c := cb) (c2 := cy) (n1 := 256) hcs12 (zs_ord (flat_fm.2 0 (by omega))) (by rw [sz_len, ord256, List.length_range]) (by omega) hSy HB01.out hR12 (fun q hq => by have := (hlb q.block (by rw [hq]; rfl)).2; omega) ⟨by rw [← HNB.out]; exact hcb1, hcb2, HLB.out⟩ hY hn100 F T H K hF1 hft hT63 hK9 hYG (by rw [← HN.out]; exact hrd)
          rw [← HNB.out, hY.len] at hrr
          have HRR := Lib.hid hrr
          clear hrd hrr haf hcs hcs11 hcs12 hR12 hRb hYG hdq hdq2 x0 x1 x2 x3 hSy hYq
          obtain ⟨_, x0, x1, x2, x3⟩ := id X12
          go_wp2_with fail
          refine HRR.out.mono ?_; rintro e w13 ⟨hr1, _, hb13⟩
          obtain ⟨v13, rfl, ho13, _, _⟩ := hr1 rfl
          dsimp only at ho13 ⊢
          have X13 := X12.below hb13 X12.lt
          have hb13' := hb12'.trans (hb13.mono hs12)
          have hs13 := hb13'.size
          rw [HN.out, ← knL_map] at ho13
          obtain ⟨A13, c13, hve, _, _, _⟩ := own_sliceN ho13
          subst hve
          clear x0 x1 x2 x3 hr1
          obtain ⟨_, x0, x1, x2, x3⟩ := id X13
          go_wp2_with fail
          refine (rknown_any (w := w13) (c := c) (HBK.out.below hb13') hn100 F T K (H : Int) hft hT63 (by omega) HOK.out.2.2).mono ?_; rintro e w14 ⟨v14, rfl, ho14, hb14⟩
          rw [hdc, HBK.out.len] at ho14
          have ho13' := own_keepN ho13 hb14
          obtain ⟨A14, c14, hve, _, _, _⟩ := own_sliceN ho14
          subst hve
          have hB14 := Blk.of_own ho14 (by rw [List.length_map]; exact HBK.out.len) (HKI.out _)
          have hB13 := Blk.of_own ho13' (by rw [List.length_map]; exact HBK.out.len) (HKI.out _)
          have hb14' := hb13'.trans (hb14.mono hs13)
          have hs14 := hb14'.size
          clear x0 x1 x2 x3 ho13 ho14 ho13'
          go_wp2_with fail
          refine (same22_any A13 A14 n c13 n c14 _ _ w14 hB13 hB14 (by omega)).mono ?_; rintro e w15 ⟨rfl, hb15⟩
          rw [decide_eq_true rfl]
          go_wp2_with fail
          go_ret
          exact ⟨rfl, hb14'.trans (hb15.mono hs14)⟩
  · have hre := hk2 hok
    subst hre
    have HOK := Lib.hid hok
    clear hk1 hk2 hb4 hok
    unfold errV
    go_wp2_with fail
    refine (same22_any Al A n cl n c G G w4 hbl4 hbk4 (by omega)).mono ?_; rintro e w5 ⟨rfl, hb5⟩
    rw [decide_eq_true (rfl : G = G)]
    have X5 := X4.below hb5 X4.lt
    have hb5' := hb4'.trans (hb5.mono hs4)
    have hs5 := hb5'.size
    clear X4 hb5 hb4' hs4 hbl4 hbk4
    obtain ⟨_, x0, x1, x2, x3⟩ := id X5
    by_cases hgd : Gd f t h l
    · have HGD := Lib.hid hgd
      go_wp2_with fail
      refine (rgood_any f t h l true (fun hg => rfl) (fun hg => absurd hgd hg) w5).mono ?_; rintro e w6 ⟨rfl, hb6⟩
      have X6 := X5.below hb6 X5.lt
      have hb6' := hb5'.trans (hb6.mono hs5)
      have hs6 := hb6'.size
      clear x0 x1 x2 x3 X5 hb6 hb5' hs5 hgd
      obtain ⟨_, x0, x1, x2, x3⟩ := id X6
      by_cases hf0 : f = 0
      · have dF0 : (f == 0) = true := by simp; exact hf0
        clear hf0
        go_wp2_with fail
        refine (is_err 6 6 (by omega) _).mono ?_; rintro e w' ⟨rfl, rfl⟩
        go_wp2
        go_ret
        exact ⟨rfl, hb6'⟩
      · have dF0 : (f == 0) = false := by simp; exact hf0
        have HF0 := Lib.hid hf0
        clear hf0
        go_wp2_with fail
        refine (blocks22_any A n c G w6 (HBK.out.below hb6') (by omega)).mono ?_; rintro e w7 ⟨rfl, hb7⟩
        rw [gL_f (fun q => HOK.out ⟨HGD.out, HF0.out, q⟩)]
        have hb7' := hb6'.trans (hb7.mono hs6)
        clear hb7 hb6' hs6
        go_wp2_with fail
        refine (is_err 6 6 (by omega) _).mono ?_; rintro e w' ⟨rfl, rfl⟩
        go_wp2
        go_ret
        exact ⟨rfl, hb7'⟩
    · have HGD := Lib.hid hgd
      go_wp2_with fail
      refine (rgood_any f t h l false (fun hg => absurd hg hgd) (fun hg => rfl) w5).mono ?_; rintro e w6 ⟨rfl, hb6⟩
      have hb6' := hb5'.trans (hb6.mono hs5)
      clear x0 x1 x2 x3 X5 hb6 hb5' hs5 hgd
      go_wp2_with fail
      refine (is_err 6 6 (by omega) _).mono ?_; rintro e w' ⟨rfl, rfl⟩
      go_wp2
      go_ret
      exact ⟨rfl, hb6'⟩
namespace ProgWrites
set_option maxRecDepth 100000 in
theorem contract (H : Type) (enc : TypeId × Value → H) (W : World) (base : Nat) (args : Array Value) (ds gs : List (DataW H)) (before : List MemPlace)
    (hval : ∀ (j : Nat) t v, Try.f15.params[j]? = some t → args[j]? = some v → Value.okWide Try.prog W .any base t v)
    (hW : DataW.Whole enc Try.prog Try.f15.params.toList Rows.progWritesSpec.vars false W args.toList ds gs before) :
    Calls Try.prog 15 args W fun e W' => ∃ v, e = .returned v ∧ Rows.progWritesSpec.post enc Try.prog Try.f15 false true false false W args v W' := by
  have hW' := hW
  obtain ⟨p, q, hA0, hV, rfl, hfz, hnd⟩ := hW
  have hA : DataW.TrodAll enc Try.prog W 0 (fun _ => true) true Try.f15.params.toList args.toList ds p := hA0
  rw [Try.params15] at hA hval
  clear hA0
  obtain ⟨v0, vs0, d0, ds0, p0, q0, hargs, rfl, rfl, h0, r0⟩ := trodAll_cons hA
  obtain ⟨v1, vs1, d1, ds1, p1, q1, rfl, rfl, rfl, h1, r1⟩ := trodAll_cons r0
  obtain ⟨rfl, rfl, rfl⟩ := trodAll_nil r1
  obtain rfl : args = #[v0, v1] := by cases args; simp_all
  obtain ⟨rfl, rfl⟩ := trodVars_none hV
  obtain ⟨Ax0, nx0, cx0, rfl⟩ := okWide_slice Try.underlying105 (hval 0 _ _ rfl rfl)
  obtain ⟨fu0, hf0⟩ := h0
  obtain ⟨A', n', c', x0, ev0, hnx0, hcx0, hmx0, hQx0, hRx0⟩ := open_rows (m := 64) (Q := IvN 64) Try.underlying105 (by kernel_rfl) (by omega) (fun _ _ _ hl hy => blk_ivn hl hy) hf0
  injection ev0 with ea eb ec
  subst ea eb ec
  obtain ⟨c1_0, c1_1, c1_2, c1_3, y1_0, y1_1, y1_2, y1_3, m1, rfl, rfl, rfl, hy1_0, hy1_1, hy1_2, hy1_3⟩ := open_agg4 Try.underlying33 (by kernel_rfl) (by kernel_rfl) (hval 1 _ _ rfl rfl) h1
  obtain ⟨x1, ex1, rfl, wx1⟩ := DataW.trod_int Try.underlying3 hy1_0
  simp only [List.cons.injEq, and_true] at ex1
  subst ex1
  obtain ⟨x2, ex2, rfl, wx2⟩ := DataW.trod_int Try.underlying3 hy1_1
  simp only [List.cons.injEq, and_true] at ex2
  subst ex2
  obtain ⟨x3, ex3, rfl, wx3⟩ := DataW.trod_int Try.underlying3 hy1_2
  simp only [List.cons.injEq, and_true] at ex3
  subst ex3
  obtain ⟨x4, ex4, rfl, wx4⟩ := DataW.trod_int Try.underlying3 hy1_3
  simp only [List.cons.injEq, and_true] at ex4
  subst ex4
  refine (progWrites_any W Ax0 nx0 cx0 x0 hnx0 hcx0 hmx0 hQx0 hRx0 x1 (wf_i wx1) x2 (wf_i wx2) x3 (wf_i wx3) x4 (wf_i wx4)).mono fun e W' ⟨he, hb⟩ => ?_
  subst he
  exact ⟨_, rfl, post_true Facts.laid hW' rfl rfl Try.underlying4 (by kernel_rfl) rfl hb⟩

set_option maxRecDepth 100000 in
theorem lifted (os : Os) (started : os.Started) (H : Type) (enc : TypeId × Value → H) :
    ReturnsInHanded {} Try.checked os 15 .any (Rows.progWritesSpec.pre6 enc Try.prog Try.f15 Rows.progWritesRow.domain false) (Rows.progWritesSpec.post enc Try.prog Try.f15 false true false false) := by
  refine returnsInHanded_of_change (C := Try.checked) Facts.own started (by kernel_rfl) Try.func15
    (ChangeSpec.witness6 (enc := enc) (C := Try.checked) (os := os) false ⟨#[], #[.slice none 0 0, .agg #[.int .i64 0, .int .i64 0, .int .i64 0, .int .i64 0]], []⟩ 8 (by kernel_rfl) (by kernel_rfl) (by kernel_rfl) (by kernel_rfl)) ?_
  intro W base args ds gs before hval hW _ _
  exact contract H enc W base args ds gs before hval hW

theorem k_wf : Rows.progWritesRow.wf (OpenSpec.ofChange Rows.progWritesSpec) = true := by kernel_rfl
theorem k_inp : (Rows.progWritesRow.inPlace == Try.prog.inPlace 15) = true := by kernel_rfl
theorem k_unf : (Rows.progWritesRow.unfollowed == Try.prog.unfollowed 15) = true := by kernel_rfl
theorem k_rec : (Rows.progWritesRow.recurses == Try.prog.recurses 15) = true := by kernel_rfl
theorem k_nam : (Rows.progWritesRow.named == Try.prog.varsNamed 15) = true := by kernel_rfl
theorem k_pk : (Rows.progWritesRow.plainKeys == Try.prog.plainKeys) = true := (congrArg (fun x => Rows.progWritesRow.plainKeys == x) Facts.plainKeys).trans (by kernel_rfl)
theorem k_lf : (Rows.progWritesRow.lifted == Try.prog.liftsFinal) = true := (congrArg (fun x => Rows.progWritesRow.lifted == x) Facts.liftsFinal).trans (by kernel_rfl)
theorem k_mk : (Try.prog.make == some Rows.progWritesRow.make) = true := (congrArg (fun x => x == some Rows.progWritesRow.make) Facts.make).trans (by kernel_rfl)
theorem k_par : (Try.f15.params.all (Try.prog.readableRec ·)) = true := by kernel_rfl
theorem k_maps : (Rows.progWritesRow.maps == (Try.f15.params.toList ++ Rows.progWritesSpec.plain.varTypes Try.prog).any (Try.prog.mapsRec ·)) = true := by kernel_rfl
theorem k_ifs : (Rows.progWritesRow.ifaces == (Try.f15.params.toList ++ Rows.progWritesSpec.plain.varTypes Try.prog).any (Try.prog.ifacesRec ·)) = true := by kernel_rfl
theorem k_lps : (Rows.progWritesRow.loops == (Try.f15.params.toList ++ Rows.progWritesSpec.plain.varTypes Try.prog).any (Try.prog.loopsFrom ·)) = true := by kernel_rfl
theorem k_wk : (Rows.progWritesRow.wideKeys == (Try.f15.params.toList ++ Rows.progWritesSpec.plain.varTypes Try.prog ++ Try.f15.resultTypes.toList).any (Try.prog.wideKeysFrom ·)) = true := by kernel_rfl
theorem k_vl : (Rows.progWritesRow.veiled == (Try.f15.params.toList ++ Rows.progWritesSpec.plain.varTypes Try.prog ++ Try.f15.resultTypes.toList).any (Try.prog.veiledRec ·)) = true := by kernel_rfl
theorem closed : joinedFacts Try.prog 15 Try.f15 Rows.progWritesSpec Rows.progWritesRow = true :=
  Facts.and_i (Facts.and_i (Facts.and_i (Facts.and_i (Facts.and_i (Facts.and_i (Facts.and_i (Facts.and_i (Facts.and_i (Facts.and_i (Facts.and_i (Facts.and_i (Facts.and_i (Facts.and_i (Facts.and_i (Facts.and_i (Facts.and_i (Facts.and_i (Facts.and_i (Facts.and_i (Facts.and_i (Facts.and_i (Facts.and_i (Facts.and_i (Facts.and_i (Facts.and_i (Facts.and_i (Facts.and_i (Facts.and_i (Facts.and_i (Facts.and_i
    k_wf Facts.laid) Facts.mapsRowed_) k_par) rfl) rfl) Facts.stops) rfl) Facts.stopKnobs) k_inp) k_unf) k_rec) k_nam) k_maps) k_ifs) (by kernel_rfl)) k_lps) k_wk) rfl) (by kernel_rfl)) (by kernel_rfl)) (by kernel_rfl)) k_pk) rfl) Facts.stopsHeard) Facts.mayEnter) k_lf) k_mk) (by kernel_rfl)) (by kernel_rfl)) k_vl) (by kernel_rfl)
theorem named : Try.prog.funcNamed Rows.progWritesRow.func = some 15 := by kernel_rfl

theorem proved : Rows.ProgWritesSaid :=
  OpenClaim.holds_of_wide 15 Try.f15 rfl rfl rfl rfl rfl rfl rfl ⟨rfl, rfl, rfl, rfl, rfl⟩ rfl rfl rfl rfl rfl named Try.func15 closed
    (of_decide_eq_true (by kernel_rfl)) (by unfold Func.isWrapper; first | (rw [if_pos (by decide +kernel)]; kernel_rfl) | (rw [if_neg (by decide +kernel)]; exact ⟨rfl, rfl⟩))
    (fun os started H enc _ => lifted os started H enc)
end ProgWrites
#print axioms ProgWrites.proved
end Go.Proofs.Ytlhappecjjbopaa
