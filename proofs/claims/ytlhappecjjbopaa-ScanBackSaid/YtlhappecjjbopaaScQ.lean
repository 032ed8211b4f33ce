/-
  ScanReads: which block any bits are, by any books. No condition.
-/
import Derived.Test.YtlhappecjjbopaaBlk
import Derived.Test.YtlhappecjjbopaaScO
import Derived.Test.YtlhappecjjbopaaScP
import Derived.Test.YtlhappecjjbopaaScI
import Derived.Test.YtlhappecjjbopaaScF
import Derived.Test.YtlhappecjjbopaaCbA
import Derived.Test.YtlhappecjjbopaaFacts
import Derived.Test.YtlhappecjjbopaaArw
namespace Go.Proofs.Ytlhappecjjbopaa
open Go.ChangeShapes Go.WideShapes Go.ChangeAt Go.WideMaps Go.WideElems Go.RowKit Go.Joins
set_option linter.unusedVariables false
set_option maxRecDepth 100000

theorem rdF_err (S Z l : List Int) : 0 ≤ (rdF S Z l).2.2 ∧ (rdF S Z l).2.2 ≤ 8 := by
  unfold rdF
  split
  · rename_i h; exact (Classical.choose_spec h).bd.2.1
  · decide
theorem rdL_len (S Z b : List Int) : ∀ (n i a : Nat) (out : List Int), 64 - i ≤ n → out.length = 64 → (rdL S Z b i a out).1.length = 64 ∧ 0 ≤ (rdL S Z b i a out).2.2 ∧ (rdL S Z b i a out).2.2 ≤ 8
  | 0, i, a, out, hn, ho => by rw [rdL_out (by omega)]; exact ⟨ho, (by dsimp only; decide), (by dsimp only; decide)⟩
  | n + 1, i, a, out, hn, ho => by
    have he := rdF_err S Z (b.drop a)
    by_cases h64 : i < 64
    · rw [rdL, if_pos h64]
      split
      · exact ⟨rfl, he⟩
      · split
        · exact ⟨ho, (by dsimp only; decide), (by dsimp only; decide)⟩
        · split
          · split
            · exact ⟨rfl, (by dsimp only; decide), (by dsimp only; decide)⟩
            · exact rdL_len S Z b n _ _ _ (by omega) ho
          · split
            · exact ⟨rfl, (by dsimp only; decide), (by dsimp only; decide)⟩
            · split
              · exact ⟨rfl, (by dsimp only; decide), (by dsimp only; decide)⟩
              · exact rdL_len S Z b n _ _ _ (by omega) (by rw [List.length_set]; exact ho)
    · rw [rdL_out h64]; exact ⟨ho, (by dsimp only; decide), (by dsimp only; decide)⟩
theorem rdB_len (S1 Z1 S2 Z2 b : List Int) (ahead : Int) : (rdB S1 Z1 S2 Z2 b ahead).1.length = 64 ∧ 0 ≤ (rdB S1 Z1 S2 Z2 b ahead).2.2 ∧ (rdB S1 Z1 S2 Z2 b ahead).2.2 ≤ 8 := by
  have he := rdF_err S1 Z1 b
  unfold rdB
  split
  · exact ⟨rfl, he⟩
  · split
    · exact ⟨rfl, (by dsimp only; decide), (by dsimp only; decide)⟩
    · split
      · exact ⟨rfl, (by dsimp only; decide), (by dsimp only; decide)⟩
      · split
        · exact rdL_len _ _ _ 64 _ _ _ (by omega) (by rw [List.length_set]; rfl)
        · exact ⟨rfl, (by dsimp only; decide), (by dsimp only; decide)⟩
theorem Cs.more2 {w : World} {K : Nat} {A : Option Addr} {syms Z : List Int} (h : Cs w K A syms Z) : Cs w w.heap.size A syms Z := by
  obtain ⟨rows, h1, h2⟩ := h.get
  exact Cs.of h1 h2
theorem keep_q {N gb : Nat} {w8 W w' : World} {a b : Value} (hg : gb < N) (h : Below N w8 W) (hb : Below W.heap.size W w') (c1 : w8.cell? ⟨gb, 34, none⟩ = some a) (c2 : w8.cell? ⟨gb, 35, none⟩ = some b) (hN : N ≤ W.heap.size) :
    Below N w8 w' ∧ w'.cell? ⟨gb, 34, none⟩ = some a ∧ w'.cell? ⟨gb, 35, none⟩ = some b := by
  have h2 := h.trans (hb.mono hN)
  exact ⟨h2, (h2.cell (p := ⟨gb, 34, none⟩) hg).trans c1, (h2.cell (p := ⟨gb, 35, none⟩) hg).trans c2⟩
set_option maxHeartbeats 16000000 in
theorem scanReads_any (w : World)
    (cn1 : List Int) (hcn1 : cn1.length = 16) (hIc1 : Is cn1) (A1 : Option Addr) (n1 c1 : Nat) (ss1 : List Int) (hn1 : ss1.length = n1) (hcc1 : n1 ≤ c1) (hmm1 : c1 ≤ 9223372036854775807) (hR1 : Rd w w.heap.size A1 (bv ss1)) (hB1 : Bs ss1)
    (cn2 : List Int) (hcn2 : cn2.length = 16) (hIc2 : Is cn2) (A2 : Option Addr) (n2 c2 : Nat) (ss2 : List Int) (hn2 : ss2.length = n2) (hcc2 : n2 ≤ c2) (hmm2 : c2 ≤ 9223372036854775807) (hR2 : Rd w w.heap.size A2 (bv ss2)) (hB2 : Bs ss2)
    (A : Option Addr) (n c : Nat) (bs : List Int) (hn : bs.length = n) (hcc : n ≤ c) (hmm : c ≤ 9223372036854775807) (hR : Rd w w.heap.size A (bv bs)) (hB : Bs bs)
    (x : Int) (hx : -9223372036854775808 ≤ x ∧ x ≤ 9223372036854775807) :
    Calls Try.prog 18 #[.agg ((iv cn1 ++ [Value.slice A1 n1 c1]) ++ ((iv cn2 ++ [Value.slice A2 n2 c2]) ++ ([Value.slice A n c] ++ ([Value.int .i64 x])))).toArray] w (ReadsP w) := by
  obtain ⟨L, hL⟩ : ∃ L, L = (iv cn1 ++ [Value.slice A1 n1 c1]) ++ ((iv cn2 ++ [Value.slice A2 n2 c2]) ++ ([Value.slice A n c] ++ ([Value.int .i64 x]))) := ⟨_, rfl⟩
  rw [← hL]
  have hl1 : (iv cn1 ++ [Value.slice A1 n1 c1]).length = 17 := by rw [List.length_append, iv_len, hcn1]; rfl
  have hl2 : (iv cn2 ++ [Value.slice A2 n2 c2]).length = 17 := by rw [List.length_append, iv_len, hcn2]; rfl
  have g34 : L[34]? = some (.slice A n c) := by
    rw [hL, List.getElem?_append_right (by rw [hl1]; decide), hl1, List.getElem?_append_right (by rw [hl2]; decide), hl2]; rfl
  have g35 : L[35]? = some (.int .i64 x) := by
    rw [hL, List.getElem?_append_right (by rw [hl1]; decide), hl1, List.getElem?_append_right (by rw [hl2]; decide), hl2]; rfl
  have r1 : ∀ j v, (iv cn1 ++ [Value.slice A1 n1 c1])[j]? = some v → L[0 + j]? = some v := fun j v hv => by
    have := (List.getElem?_eq_some_iff.1 hv).1
    rw [Nat.zero_add, hL, List.getElem?_append_left this]; exact hv
  have r2 : ∀ j v, (iv cn2 ++ [Value.slice A2 n2 c2])[j]? = some v → L[17 + j]? = some v := fun j v hv => by
    have := (List.getElem?_eq_some_iff.1 hv).1
    rw [hL, List.getElem?_append_right (by rw [hl1]; omega), hl1, show 17 + j - 17 = j by omega, List.getElem?_append_left this]; exact hv
  have R1 := Lib.hid r1
  have R2 := Lib.hid r2
  have G34 := Lib.hid g34
  have G35 := Lib.hid g35
  have H17a := Lib.hid hl1
  have H17b := Lib.hid hl2
  have HN := Lib.hid hn
  have HN1 := Lib.hid hn1
  have HN2 := Lib.hid hn2
  have HC1 := Lib.hid hcn1
  have HC2 := Lib.hid hcn2
  have X0 := Bln.new w 124 L
  have hb0 : Below w.heap.size w (w.alloc (.cells L.toArray 124)) := (Below.refl _ _).alloc (Nat.le_refl _) _
  clear hL r1 r2 g34 g35 hl1 hl2 hn hn1 hn2 hcn1 hcn2
  go_enter Try.func18, Try.ntmps18
  go_upto_region 1 with fail
  generalize w.alloc (.cells L.toArray 124) = w0 at *
  have hs0 := hb0.size
  have hgl := X0.lt
  obtain ⟨gb, hgb⟩ : ∃ g, g = w.heap.size := ⟨_, rfl⟩
  rw [← hgb] at X0 hgl ⊢
  have hgb1 : gb ≤ w.heap.size := by omega
  have hgb2 : w.heap.size ≤ gb := by omega
  clear hgb
  go_wp2_with fail
  refine (alive21_any w0).mono ?_; rintro e w1 ⟨rfl, hb1⟩
  have X1 := X0.below hb1
  have hb1' := hb0.trans (hb1.mono hs0)
  have hs1 := hb1'.size
  have hg1 : gb < w1.heap.size := X1.lt
  have c34 := X1.cell G34.out
  have c35 := X1.cell G35.out
  clear X0 hb1 hb0 hs0 hgl
  by_cases h300 : 300 < n
  · have d1 : decide ((300 : Int) < (n : Int)) = true := decide_eq_true (by omega)
    go_wp2
    go_ret
    exact ⟨rfl, hb1'⟩
  have d1 : decide ((300 : Int) < (n : Int)) = false := decide_eq_false (by omega)
  by_cases hd : DcB x
  · have HD := Lib.hid (decide_eq_true hd)
    have HDC := Lib.hid hd
    clear hd
    have hr1 := X1.range 0 (iv cn1 ++ [Value.slice A1 n1 c1]) R1.out
    go_wp2_with (first | (go_at_call 51; refine (rdc_any _ _).mono ?_; rintro e w' ⟨rfl, rfl⟩; rw [HD.out]) | refine wpList_load_mid rfl 86 (.tmp 29) rfl _ _ rfl (iv cn1 ++ [Value.slice A1 n1 c1]) _ hr1 Try.underlying86 rfl (by rw [H17a.out]; kernel_rfl) ?_)
    refine (refTable_any A1 n1 c1 cn1 ss1 w1 HC1.out hIc1 HN1.out ((hR1.below hb1').more hs1) hB1 (by omega)).mono ?_; rintro e w2 ⟨h1a, h1b, hb2⟩
    have X2 := X1.below hb2
    have hb2' := hb1'.trans (hb2.mono hs1)
    have hs2 := hb2'.size
    clear X1 hr1 c34 c35
    have hr2 := X2.range 17 (iv cn2 ++ [Value.slice A2 n2 c2]) R2.out
    by_cases hk1 : TabOk cn1 ss1
    · obtain ⟨At1, ct1, rfl, hcs1⟩ := h1a hk1
      have HK1 := Lib.hid hk1
      rw [HN1.out]
      have hcs1' := hcs1.cs
      clear h1a h1b hk1 hcs1
      go_wp2_with (refine wpList_load_mid rfl 86 (.tmp 35) rfl _ _ rfl (iv cn2 ++ [Value.slice A2 n2 c2]) _ hr2 Try.underlying86 rfl (by rw [H17b.out]; kernel_rfl) ?_)
      refine (refTable_any A2 n2 c2 cn2 ss2 w2 HC2.out hIc2 HN2.out ((hR2.below hb2').more hs2) hB2 (by omega)).mono ?_; rintro e w3 ⟨h2a, h2b, hb3⟩
      have X3 := X2.below hb3
      have hb3' := hb2'.trans (hb3.mono hs2)
      have hs3 := hb3'.size
      have hcs1b := (hcs1'.keep hb3).more2
      clear X2 hr2 hcs1'
      have hr3 := X3.range 0 (iv cn1 ++ [Value.slice A1 n1 c1]) R1.out
      by_cases hk2 : TabOk cn2 ss2
      · obtain ⟨At2, ct2, rfl, hcs2⟩ := h2a hk2
        have HK2 := Lib.hid hk2
        rw [HN2.out]
        have hcs2b := hcs2.cs
        have hn1b : n1 ≤ 1000 := by have := nodupI_le HK1.out.2.2.1 hB1; rw [HN1.out] at this; omega
        have hn2b : n2 ≤ 1000 := by have := nodupI_le HK2.out.2.2.1 hB2; rw [HN2.out] at this; omega
        clear h2a h2b hk2 hcs2
        go_wp2_with (refine wpList_load_mid rfl 86 (.tmp 47) rfl _ _ rfl (iv cn1 ++ [Value.slice A1 n1 c1]) _ hr3 Try.underlying86 rfl (by rw [H17a.out]; kernel_rfl) ?_)
        refine (newTable_any A1 n1 c1 cn1 ss1 w3 HC1.out hIc1 HN1.out ((hR1.below hb3').more hs3) hB1 (by omega)).mono ?_; rintro e w4 ⟨h3, _, hb4⟩
        obtain ⟨p1, ls1, O1, C1, rfl, hBk1, hO1, hV1, hsy1, hsz1, hzr1⟩ := h3 HK1.out
        have X4 := X3.below hb4
        have hb4' := hb3'.trans (hb4.mono hs3)
        have hs4 := hb4'.size
        have hr4 := X4.range 17 (iv cn2 ++ [Value.slice A2 n2 c2]) R2.out
        have hcs1c := (hcs1b.keep hb4).more2
        have hcs2c := (hcs2b.keep hb4).more2
        clear h3 hr3 X3 hcs1b hcs2b
        go_wp2_with (refine wpList_load_mid rfl 86 (.tmp 53) rfl _ _ rfl (iv cn2 ++ [Value.slice A2 n2 c2]) _ hr4 Try.underlying86 rfl (by rw [H17b.out]; kernel_rfl) ?_)
        refine (newTable_any A2 n2 c2 cn2 ss2 w4 HC2.out hIc2 HN2.out ((hR2.below hb4').more hs4) hB2 (by omega)).mono ?_; rintro e w5 ⟨h4, _, hb5⟩
        obtain ⟨p2, ls2, O2, C2, rfl, hBk2, hO2, hV2, hsy2, hsz2, hzr2⟩ := h4 HK2.out
        have X5 := X4.below hb5
        have hb5' := hb4'.trans (hb5.mono hs4)
        have hs5 := hb5'.size
        have hcs1d := (hcs1c.keep hb5).more2
        have hcs2d := (hcs2c.keep hb5).more2
        rw [← hsy1, ← hsz1] at hcs1d
        rw [← hsy2, ← hsz2] at hcs2d
        have hKB1 := (BkS.of hBk1.bk).keep hb5
        have hKB2 := BkS.of hBk2.bk
        have hol1 : O1.length = n1 := by rw [← sy_len, hsy1, HN1.out]
        have hol2 : O2.length = n2 := by rw [← sy_len, hsy2, HN2.out]
        have HO1 := Lib.hid hO1
        have HO2 := Lib.hid hO2
        have HOL1 := Lib.hid hol1
        have HOL2 := Lib.hid hol2
        have hR5 := (hR.below hb5').more hs5
        have c34 := X5.cell G34.out
        have c35 := X5.cell G35.out
        have hs45 := hb5.size
        have hg5 : gb < w5.heap.size := X5.lt
        clear h4 hr4 X4 hcs1c hcs2c hO1 hO2 hV1 hV2 hol1 hol2 hBk1 hBk2 hsy1 hsz1 hsy2 hsz2 hzr1 hzr2 hb1' hb2' hb3' hb4' hb2 hb3 hb5 hs1 hs2 hs3
        go_wp2_with fail
        refine (newReader_any A n c true bs w5 HN.out hR5 hB (by omega)).mono ?_; rintro e w6 ⟨rp, Ar, cr, rfl, hx6, hrp, hAr, hb6⟩
        have X6 := X5.below hb6
        have hb6' := hb5'.trans (hb6.mono hs5)
        have hs6 := hb6'.size
        have hg6 : gb < w6.heap.size := X6.lt
        have c34 := X6.cell G34.out
        have c35 := X6.cell G35.out
        have hKB1' := hKB1.keep (hb6.mono hKB1.size)
        have hKB2' := hKB2.keep hb6
        clear X5 hKB1 hKB2 hR5
        have hrd : ((bitsOf true bs).drop 0) = bitsOf true bs := List.drop_zero
        obtain ⟨R, hRq⟩ : ∃ R, R = rdB (sy O1) (sz ls1 O1) (sy O2) (sz ls2 O2) (bitsOf true bs) x := ⟨_, rfl⟩
        have HRQ := Lib.hid hRq
        have HRD := Lib.hid hrd
        obtain ⟨hRl, hRe1, hRe2⟩ := rdB_len (sy O1) (sz ls1 O1) (sy O2) (sz ls2 O2) (bitsOf true bs) x
        rw [← hRq] at hRl hRe1 hRe2
        have HRL := Lib.hid hRl
        clear hRq hrd hRl
        go_wp2_with fail
        refine (scanRead_any (R := R) hKB1' HO1.out hKB2' HO2.out (by omega) (by omega) hx6 (fun a ha => (hAr a ha).2) (by rw [HN.out]; omega) x HDC.out (by rw [HRD.out]; exact HRQ.out.symm)).mono ?_; rintro e w7 ⟨m', rfl, hx7, hm', hf7⟩
        have X7 := X6.keep hf7 (by omega)
        have hb57 : Below w5.heap.size w5 w7 := hb6.trans (hf7.below hrp hb6.size)
        have hb7 := hb5'.trans (hb57.mono hs5)
        have hs7 := hb7.size
        have hs57 := hb57.size
        have hcs1g := hcs1d.keep hb57
        have hcs2g := hcs2d.keep hb57
        have hrp7 : rp < w7.heap.size := hx7.lt
        clear X6 hb6 hb6' hf7 hx6 hKB1' hKB2' c34 c35 hcs1d hcs2d hg6
        have hal : ∀ W : World, W.alloc (.cells #[.int .i64 0, .int .i64 0, .int .i64 0, .int .i64 0, .int .i64 0, .int .i64 0, .int .i64 0, .int .i64 0, .int .i64 0, .int .i64 0, .int .i64 0, .int .i64 0, .int .i64 0, .int .i64 0, .int .i64 0, .int .i64 0, .int .i64 0, .int .i64 0, .int .i64 0, .int .i64 0, .int .i64 0, .int .i64 0, .int .i64 0, .int .i64 0, .int .i64 0, .int .i64 0, .int .i64 0, .int .i64 0, .int .i64 0, .int .i64 0, .int .i64 0, .int .i64 0, .int .i64 0, .int .i64 0, .int .i64 0, .int .i64 0, .int .i64 0, .int .i64 0, .int .i64 0, .int .i64 0, .int .i64 0, .int .i64 0, .int .i64 0, .int .i64 0, .int .i64 0, .int .i64 0, .int .i64 0, .int .i64 0, .int .i64 0, .int .i64 0, .int .i64 0, .int .i64 0, .int .i64 0, .int .i64 0, .int .i64 0, .int .i64 0, .int .i64 0, .int .i64 0, .int .i64 0, .int .i64 0, .int .i64 0, .int .i64 0, .int .i64 0, .int .i64 0] 70) = W.alloc (.cells (iv z64).toArray 70) := fun _ => rfl
        have HAL := Lib.hid hal
        obtain ⟨XG, hbG⟩ := Bln.copy w7 70 (iv z64) (iv R.1) (by rw [iv_len, iv_len, HRL.out]; rfl)
        have hth : (w7.alloc (.cells (iv z64).toArray 70)).there w7.heap.size 0 (iv R.1).toArray.size := by
          have h := (Nb.new w7).there R.1 HRL.out
          simpa using h
        have hone := one_iv R.1
        have hsz : (iv R.1).toArray.size = 64 := (iv_len R.1).trans HRL.out
        have HSZ := Lib.hid hsz
        clear hsz
        go_upto_region 15 with (refine wpList_store_mid rfl 70 (.tmp 12) (.tmp 74) rfl _ _ (iv R.1).toArray rfl rfl hth (by rw [HSZ.out]; kernel_rfl) (all_oneCell_toArray hone) ?_)
        have X8 := X7.below hbG
        have hb8 := hb7.trans (hbG.mono hs7)
        have hs8 := hb8.size
        have hx8 := hx7.below hbG
        have hcs1h := hcs1g.keep (hbG.mono hcs1g.size)
        have hcs2h := hcs2g.keep (hbG.mono hcs2g.size)
        have hg8 : gb < w7.heap.size := X7.lt
        generalize (w7.alloc (.cells (iv z64).toArray 70)).setCells w7.heap.size 0 (iv R.1) = w8 at *
        generalize w7.heap.size = gg at *
        have hgg : gg < w8.heap.size := XG.lt
        clear hbG hth X7 hb7 hx7 hcs1g hcs2g hal
        have c34 := X8.cell G34.out
        have c35 := X8.cell G35.out
        have hR8 := (hR.below hb8).more hs8
        go_cut [13, 14, 15] from 76 to 87 (fun gv nv bv wx => ∃ g, gv = .pointer (some ⟨g, 0, none⟩) ∧ nv = .int .i64 (R.2.1 : Nat) ∧ bv = .int .i64 R.2.2 ∧ Bln wx g 70 (iv R.1) ∧ Below w8.heap.size w8 wx)
        case first =>
          have hal := HAL.out
          have hNn := Nb.new
          have hNt : ∀ (W : World) (g : Nat), Nb W g → W.there g 0 (iv R.1).length := fun W g h => h.there R.1 HRL.out
          have hNd : ∀ (W : World) (g : Nat), Nb W g → Nb W.drew g := fun W g h => h
          have hcz : (Try.prog.info? 70).map (·.size) = some (iv R.1).length := by rw [iv_len, HRL.out]; kernel_rfl
          have hone := one_iv R.1
          have hbN : Below w8.heap.size w8 w8 := Below.refl _ _
          have hQ1 : ∀ W : World, (Below w8.heap.size w8 W ∧ W.cell? ⟨gb, 34, none⟩ = some (.slice A n c) ∧ W.cell? ⟨gb, 35, none⟩ = some (.int .i64 x)) → Cs W w8.heap.size At1 (sy O1) (sz ls1 O1) := fun W h => (hcs1h.more2).keep h.1
          have hQ2 : ∀ W : World, (Below w8.heap.size w8 W ∧ W.cell? ⟨gb, 34, none⟩ = some (.slice A n c) ∧ W.cell? ⟨gb, 35, none⟩ = some (.int .i64 x)) → Cs W w8.heap.size At2 (sy O2) (sz ls2 O2) := fun W h => (hcs2h.more2).keep h.1
          have hQR : ∀ W : World, (Below w8.heap.size w8 W ∧ W.cell? ⟨gb, 34, none⟩ = some (.slice A n c) ∧ W.cell? ⟨gb, 35, none⟩ = some (.int .i64 x)) → Rd W W.heap.size A (bv bs) := fun W h => (hR8.below h.1).more h.1.size
          have hQK : ∀ W W' : World, (Below w8.heap.size w8 W ∧ W.cell? ⟨gb, 34, none⟩ = some (.slice A n c) ∧ W.cell? ⟨gb, 35, none⟩ = some (.int .i64 x)) → Below W.heap.size W W' → (Below w8.heap.size w8 W' ∧ W'.cell? ⟨gb, 34, none⟩ = some (.slice A n c) ∧ W'.cell? ⟨gb, 35, none⟩ = some (.int .i64 x)) := fun W W' h hb => keep_q (by omega) h.1 hb c34 c35 h.1.size
          have hQA : ∀ W : World, (Below w8.heap.size w8 W ∧ W.cell? ⟨gb, 34, none⟩ = some (.slice A n c) ∧ W.cell? ⟨gb, 35, none⟩ = some (.int .i64 x)) → (Below w8.heap.size w8 (W.alloc (.cells (iv z64).toArray 70)) ∧ (W.alloc (.cells (iv z64).toArray 70)).cell? ⟨gb, 34, none⟩ = some (.slice A n c) ∧ (W.alloc (.cells (iv z64).toArray 70)).cell? ⟨gb, 35, none⟩ = some (.int .i64 x)) := fun W h => hQK W _ h ((Below.refl _ _).alloc (Nat.le_refl _) _)
          have hQS : ∀ (W : World) (g : Nat), (Below w8.heap.size w8 W ∧ W.cell? ⟨gb, 34, none⟩ = some (.slice A n c) ∧ W.cell? ⟨gb, 35, none⟩ = some (.int .i64 x)) → w8.heap.size ≤ g → (Below w8.heap.size w8 (W.setCells g 0 (iv R.1)) ∧ (W.setCells g 0 (iv R.1)).cell? ⟨gb, 34, none⟩ = some (.slice A n c) ∧ (W.setCells g 0 (iv R.1)).cell? ⟨gb, 35, none⟩ = some (.int .i64 x)) := fun W g h hg => by
            have h2 := (Fr.sets (S := fun _ => False) (a := w8) (.inr hg) (iv R.1) 0 (Fr.of_below h.1)).below (fun _ _ f => f) (Nat.le_refl _)
            exact ⟨h2, (h2.cell (p := ⟨gb, 34, none⟩) (by show gb < _; omega)).trans c34, (h2.cell (p := ⟨gb, 35, none⟩) (by show gb < _; omega)).trans c35⟩
          go_region_held3 (fun w' => Below w8.heap.size w8 w' ∧ w'.cell? ⟨gb, 34, none⟩ = some (.slice A n c) ∧ w'.cell? ⟨gb, 35, none⟩ = some (.int .i64 x))
            (first | exact ⟨hbN, c34, c35⟩ | exact ⟨Below.drew hbN, c34, c35⟩ | assumption | exact hQA _ (by assumption) | exact hQS _ _ (by assumption) (by first | exact Nat.le_refl _ | assumption) | go_keep)
            (first
              | (go_at_call 86; refine (rbits_any A n c bs true _ HN.out (by exact hQR _ (by assumption)) hB (by omega)).mono ?_; rintro e w9 ⟨vb, rfl, hvb, hb9⟩; have hq9 := hQK _ _ (by assumption) hb9; have hz9 := hq9.1.size; obtain ⟨Ab, cb, rfl, hnb, hcb, hRb⟩ := own_sliceN hvb; (try have hn9 : Nb w9 w8.heap.size := Nb.below (hNd _ _ (hNn w8)) hb9); (try have hn9 : Nb w9 w8.heap.size := Nb.below (hNn w8) hb9); (try have hn9 : Nb w9 w8.heap.size := Nb.below (hNn w8.drew) hb9); (try have ht9 := hNt _ _ hn9))
              | (go_at_call 85; refine (refRead_any (R := R) (S1 := sy O1) (Z1 := sz ls1 O1) (S2 := sy O2) (Z2 := sz ls2 O2) (b := bitsOf true bs) (by exact hQ1 _ (by assumption)) HO1.out.zs (sy_bd HO1.out) (by rw [sz_len]; exact HOL1.out) (by exact hQ2 _ (by assumption)) HO2.out.zs (sy_bd HO2.out) (by rw [sz_len]; exact HOL2.out) (by omega) (by omega) (by rw [bitsOf_len, HN.out]) (by assumption) (by assumption) (by first | exact hRb | exact (hRb.below (by go_grown)).more (by go_size)) (bitsOf_01 true bs) (by omega) x HDC.out HRQ.out.symm).mono ?_; rintro e w10 ⟨rfl, hb10⟩; have hq10 := hQK _ _ (by assumption) hb10; have hz10 := hq10.1.size; (try have hn10 : Nb w10 w8.heap.size := Nb.below hn9 hb10); (try have hn10 : Nb w10 w9.heap.size := Nb.below (hNd _ _ (hNn w9)) hb10); (try have hn10 : Nb w10 w9.heap.size := Nb.below (hNn w9) hb10); (try have ht10 := hNt _ _ hn10)))
          all_goals go_wp2_with fail
          all_goals go_meet
          all_goals exact ⟨_, rfl, rfl, rfl, Nb.sets (by first | assumption | exact hNn _) R.1 HRL.out, (hQS _ _ (by first | exact hQA _ (by assumption) | assumption) (by first | exact Nat.le_refl _ | assumption)).1⟩
        case rest =>
          obtain ⟨g, rfl, rfl, rfl, XW, hb9⟩ := hcut
          have XG9 := XG.below (hb9.mono (by omega))
          have hrG := XG9.range 0 (iv R.1) (fun j v hv => by rw [Nat.zero_add]; exact hv)
          have hrW := XW.range 0 (iv R.1) (fun j v hv => by rw [Nat.zero_add]; exact hv)
          have hx9 := hx8.below (hb9.mono (by omega))
          have hb9' := hb8.trans (hb9.mono hs8)
          by_cases hbad : R.2.2 = 0
          · have e1 : m' = R.2.1 := by have := hm' hbad; omega
            have d2 : decide (R.2.2 = 0) = true := decide_eq_true hbad
            go_wp2_with (first | refine wpList_load_mid rfl 70 (.tmp 12) rfl _ _ rfl (iv R.1) _ hrG Try.underlying70 rfl (by rw [iv_len, HRL.out]; kernel_rfl) ?_ | refine wpList_load_mid rfl 70 (.tmp 13) rfl _ _ rfl (iv R.1) _ hrW Try.underlying70 rfl (by rw [iv_len, HRL.out]; kernel_rfl) ?_ | refine wpList_eql_agg rfl 70 70 (.tmp 88) (.tmp 89) rfl _ _ rfl rfl eqG70 true (eq_blk1 R.1 HRL.out _) ?_ | (go_at_call 87; refine (num_E _ (by first | exact ⟨hRe1, hRe2⟩ | decide) _).mono ?_; rintro e w' ⟨rfl, rfl⟩) | (go_at_call 64; refine (at_any hx9).mono ?_; rintro e w' ⟨rfl, rfl⟩; rw [e1]))
            go_ret
            exact ⟨rfl, hb9'⟩
          · have d2 : decide (R.2.2 = 0) = false := decide_eq_false hbad
            go_wp2_with (first | refine wpList_load_mid rfl 70 (.tmp 12) rfl _ _ rfl (iv R.1) _ hrG Try.underlying70 rfl (by rw [iv_len, HRL.out]; kernel_rfl) ?_ | refine wpList_load_mid rfl 70 (.tmp 13) rfl _ _ rfl (iv R.1) _ hrW Try.underlying70 rfl (by rw [iv_len, HRL.out]; kernel_rfl) ?_ | refine wpList_eql_agg rfl 70 70 (.tmp 88) (.tmp 89) rfl _ _ rfl rfl eqG70 true (eq_blk1 R.1 HRL.out _) ?_ | (go_at_call 87; refine (num_E _ (by first | exact ⟨hRe1, hRe2⟩ | decide) _).mono ?_; rintro e w' ⟨rfl, rfl⟩))
            go_ret
            exact ⟨rfl, hb9'⟩
      · obtain rfl := h2b hk2
        go_wp2
        go_ret
        exact ⟨rfl, hb3'⟩
    · obtain rfl := h1b hk1
      go_wp2_with (refine wpList_load_mid rfl 86 (.tmp 35) rfl _ _ rfl (iv cn2 ++ [Value.slice A2 n2 c2]) _ hr2 Try.underlying86 rfl (by rw [H17b.out]; kernel_rfl) ?_)
      refine (refTable_any A2 n2 c2 cn2 ss2 w2 HC2.out hIc2 HN2.out ((hR2.below hb2').more hs2) hB2 (by omega)).mono ?_; rintro e w3 ⟨h2a, h2b, hb3⟩
      have hb3' := hb2'.trans (hb3.mono hs2)
      by_cases hk2 : TabOk cn2 ss2
      · obtain ⟨At2, ct2, rfl, hcs2⟩ := h2a hk2
        go_wp2
        go_ret
        exact ⟨rfl, hb3'⟩
      · obtain rfl := h2b hk2
        go_wp2
        go_ret
        exact ⟨rfl, hb3'⟩
  · have HD := Lib.hid (decide_eq_false hd)
    clear hd
    go_wp2_with (go_at_call 51; refine (rdc_any _ _).mono ?_; rintro e w' ⟨rfl, rfl⟩; rw [HD.out])
    go_ret
    exact ⟨rfl, hb1'⟩
namespace ScanReads
set_option maxRecDepth 100000 in
theorem contract (H : Type) (enc : TypeId × Value → H) (W : World) (base : Nat) (args : Array Value) (ds gs : List (DataW H)) (before : List MemPlace)
    (hval : ∀ (j : Nat) t v, Try.f18.params[j]? = some t → args[j]? = some v → Value.okWide Try.prog W .any base t v)
    (hW : DataW.Whole enc Try.prog Try.f18.params.toList Rows.scanReadsSpec.vars false W args.toList ds gs before) :
    Calls Try.prog 18 args W fun e W' => ∃ v, e = .returned v ∧ Rows.scanReadsSpec.post enc Try.prog Try.f18 false true false false W args v W' := by
  have hW' := hW
  obtain ⟨p, q, hA0, hV, rfl, hfz, hnd⟩ := hW
  have hA : DataW.TrodAll enc Try.prog W 0 (fun _ => true) true Try.f18.params.toList args.toList ds p := hA0
  rw [Try.params18] at hA hval
  clear hA0
  obtain ⟨v0, vs0, d0, ds0, p0, q0, hargs, rfl, rfl, h0, r0⟩ := trodAll_cons hA
  obtain ⟨rfl, rfl, rfl⟩ := trodAll_nil r0
  obtain rfl : args = #[v0] := by cases args; simp_all
  obtain ⟨rfl, rfl⟩ := trodVars_none hV
  obtain ⟨l0, rfl, hl0, n0, hf0⟩ := open_str Try.underlying124 (hval 0 _ _ rfl rfl) h0
  rw [show Try.prog.cellsOf 124 = 36 by kernel_rfl] at hl0
  obtain ⟨y0_0, hy0_0⟩ := hf0 0 _ rfl
  replace hy0_0 : DataW.trod enc Try.prog W 0 (fun _ => true) true n0 86 ((l0.drop 0).take 17) = some y0_0 := by have h : DataW.trod enc Try.prog W 0 (fun _ => true) true n0 86 ((l0.drop 0).take (Try.prog.cellsOf 86)) = some y0_0 := hy0_0; rw [show Try.prog.cellsOf 86 = 17 by kernel_rfl] at h; exact h
  obtain ⟨l0_0, q0_0⟩ : ∃ z, (l0.drop 0).take 17 = z := ⟨_, rfl⟩
  rw [q0_0] at hy0_0
  obtain ⟨hl0_0, n0_0, hf0_0⟩ := sub_str Try.underlying86 hy0_0
  rw [show Try.prog.cellsOf 86 = 17 by kernel_rfl] at hl0_0
  obtain ⟨y0_0_0, hy0_0_0⟩ := hf0_0 0 _ rfl
  replace hy0_0_0 : DataW.trod enc Try.prog W 0 (fun _ => true) true n0_0 84 ((l0_0.drop 0).take 16) = some y0_0_0 := by have h : DataW.trod enc Try.prog W 0 (fun _ => true) true n0_0 84 ((l0_0.drop 0).take (Try.prog.cellsOf 84)) = some y0_0_0 := hy0_0_0; rw [show Try.prog.cellsOf 84 = 16 by kernel_rfl] at h; exact h
  obtain ⟨x0, ex0, hlx0, hIx0⟩ := arr_ints Try.underlying84 Try.underlying3 (by kernel_rfl) (by kernel_rfl) hy0_0_0
  obtain ⟨y0_0_1, hy0_0_1⟩ := hf0_0 1 _ rfl
  replace hy0_0_1 : DataW.trod enc Try.prog W 0 (fun _ => true) true n0_0 79 ((l0_0.drop 16).take 1) = some y0_0_1 := by have h : DataW.trod enc Try.prog W 0 (fun _ => true) true n0_0 79 ((l0_0.drop 16).take (Try.prog.cellsOf 79)) = some y0_0_1 := hy0_0_1; rw [show Try.prog.cellsOf 79 = 1 by kernel_rfl] at h; exact h
  obtain ⟨vx1, ex1⟩ := take_one (l := l0_0) (o := 16) (by omega)
  rw [ex1] at hy0_0_1
  obtain ⟨Ax1, nx1, cx1, x1, rfl, hnx1, hcx1, hmx1, hRx1, hwx1⟩ := open_rd Try.underlying79 Try.underlying5 (by kernel_rfl) hy0_0_1
  have e0_0 := show l0_0 = _ from parts_cons ex0 (parts_cons ex1 (parts_nil hl0_0))
  obtain ⟨y0_1, hy0_1⟩ := hf0 1 _ rfl
  replace hy0_1 : DataW.trod enc Try.prog W 0 (fun _ => true) true n0 86 ((l0.drop 17).take 17) = some y0_1 := by have h : DataW.trod enc Try.prog W 0 (fun _ => true) true n0 86 ((l0.drop 17).take (Try.prog.cellsOf 86)) = some y0_1 := hy0_1; rw [show Try.prog.cellsOf 86 = 17 by kernel_rfl] at h; exact h
  obtain ⟨l0_1, q0_1⟩ : ∃ z, (l0.drop 17).take 17 = z := ⟨_, rfl⟩
  rw [q0_1] at hy0_1
  obtain ⟨hl0_1, n0_1, hf0_1⟩ := sub_str Try.underlying86 hy0_1
  rw [show Try.prog.cellsOf 86 = 17 by kernel_rfl] at hl0_1
  obtain ⟨y0_1_0, hy0_1_0⟩ := hf0_1 0 _ rfl
  replace hy0_1_0 : DataW.trod enc Try.prog W 0 (fun _ => true) true n0_1 84 ((l0_1.drop 0).take 16) = some y0_1_0 := by have h : DataW.trod enc Try.prog W 0 (fun _ => true) true n0_1 84 ((l0_1.drop 0).take (Try.prog.cellsOf 84)) = some y0_1_0 := hy0_1_0; rw [show Try.prog.cellsOf 84 = 16 by kernel_rfl] at h; exact h
  obtain ⟨x2, ex2, hlx2, hIx2⟩ := arr_ints Try.underlying84 Try.underlying3 (by kernel_rfl) (by kernel_rfl) hy0_1_0
  obtain ⟨y0_1_1, hy0_1_1⟩ := hf0_1 1 _ rfl
  replace hy0_1_1 : DataW.trod enc Try.prog W 0 (fun _ => true) true n0_1 79 ((l0_1.drop 16).take 1) = some y0_1_1 := by have h : DataW.trod enc Try.prog W 0 (fun _ => true) true n0_1 79 ((l0_1.drop 16).take (Try.prog.cellsOf 79)) = some y0_1_1 := hy0_1_1; rw [show Try.prog.cellsOf 79 = 1 by kernel_rfl] at h; exact h
  obtain ⟨vx3, ex3⟩ := take_one (l := l0_1) (o := 16) (by omega)
  rw [ex3] at hy0_1_1
  obtain ⟨Ax3, nx3, cx3, x3, rfl, hnx3, hcx3, hmx3, hRx3, hwx3⟩ := open_rd Try.underlying79 Try.underlying5 (by kernel_rfl) hy0_1_1
  have e0_1 := show l0_1 = _ from parts_cons ex2 (parts_cons ex3 (parts_nil hl0_1))
  obtain ⟨y0_2, hy0_2⟩ := hf0 2 _ rfl
  replace hy0_2 : DataW.trod enc Try.prog W 0 (fun _ => true) true n0 79 ((l0.drop 34).take 1) = some y0_2 := by have h : DataW.trod enc Try.prog W 0 (fun _ => true) true n0 79 ((l0.drop 34).take (Try.prog.cellsOf 79)) = some y0_2 := hy0_2; rw [show Try.prog.cellsOf 79 = 1 by kernel_rfl] at h; exact h
  obtain ⟨vx4, ex4⟩ := take_one (l := l0) (o := 34) (by omega)
  rw [ex4] at hy0_2
  obtain ⟨Ax4, nx4, cx4, x4, rfl, hnx4, hcx4, hmx4, hRx4, hwx4⟩ := open_rd Try.underlying79 Try.underlying5 (by kernel_rfl) hy0_2
  obtain ⟨y0_3, hy0_3⟩ := hf0 3 _ rfl
  replace hy0_3 : DataW.trod enc Try.prog W 0 (fun _ => true) true n0 3 ((l0.drop 35).take 1) = some y0_3 := by have h : DataW.trod enc Try.prog W 0 (fun _ => true) true n0 3 ((l0.drop 35).take (Try.prog.cellsOf 3)) = some y0_3 := hy0_3; rw [show Try.prog.cellsOf 3 = 1 by kernel_rfl] at h; exact h
  obtain ⟨x5, ex5, _, wx5⟩ := DataW.trod_int Try.underlying3 hy0_3
  have e0 := show l0 = _ from parts_cons (q0_0.trans e0_0) (parts_cons (q0_1.trans e0_1) (parts_cons ex4 (parts_cons ex5 (parts_nil hl0))))
  rw [e0] at hW' ⊢
  refine (scanReads_any W x0 hlx0 hIx0 Ax1 nx1 cx1 x1 hnx1 hcx1 hmx1 hRx1 (wf_bs hwx1) x2 hlx2 hIx2 Ax3 nx3 cx3 x3 hnx3 hcx3 hmx3 hRx3 (wf_bs hwx3) Ax4 nx4 cx4 x4 hnx4 hcx4 hmx4 hRx4 (wf_bs hwx4) x5 (wf_i wx5)).mono fun e W' ⟨he, hb⟩ => ?_
  subst he
  exact ⟨_, rfl, post_true Facts.laid hW' rfl rfl Try.underlying4 (by kernel_rfl) rfl hb⟩

set_option maxRecDepth 100000 in
theorem lifted (os : Os) (started : os.Started) (H : Type) (enc : TypeId × Value → H) :
    ReturnsInHanded {} Try.checked os 18 .any (Rows.scanReadsSpec.pre6 enc Try.prog Try.f18 Rows.scanReadsRow.domain false) (Rows.scanReadsSpec.post enc Try.prog Try.f18 false true false false) := by
  refine returnsInHanded_of_change (C := Try.checked) Facts.own started (by kernel_rfl) Try.func18
    (ChangeSpec.witness6 (enc := enc) (C := Try.checked) (os := os) false ⟨#[], #[.agg #[.int .i64 0, .int .i64 0, .int .i64 0, .int .i64 0, .int .i64 0, .int .i64 0, .int .i64 0, .int .i64 0, .int .i64 0, .int .i64 0, .int .i64 0, .int .i64 0, .int .i64 0, .int .i64 0, .int .i64 0, .int .i64 0, .slice none 0 0, .int .i64 0, .int .i64 0, .int .i64 0, .int .i64 0, .int .i64 0, .int .i64 0, .int .i64 0, .int .i64 0, .int .i64 0, .int .i64 0, .int .i64 0, .int .i64 0, .int .i64 0, .int .i64 0, .int .i64 0, .int .i64 0, .slice none 0 0, .slice none 0 0, .int .i64 0]], []⟩ 8 (by kernel_rfl) (by kernel_rfl) (by kernel_rfl) (by kernel_rfl)) ?_
  intro W base args ds gs before hval hW _ _
  exact contract H enc W base args ds gs before hval hW

theorem k_wf : Rows.scanReadsRow.wf (OpenSpec.ofChange Rows.scanReadsSpec) = true := by kernel_rfl
theorem k_inp : (Rows.scanReadsRow.inPlace == Try.prog.inPlace 18) = true := by kernel_rfl
theorem k_unf : (Rows.scanReadsRow.unfollowed == Try.prog.unfollowed 18) = true := by kernel_rfl
theorem k_rec : (Rows.scanReadsRow.recurses == Try.prog.recurses 18) = true := by kernel_rfl
theorem k_nam : (Rows.scanReadsRow.named == Try.prog.varsNamed 18) = true := by kernel_rfl
theorem k_pk : (Rows.scanReadsRow.plainKeys == Try.prog.plainKeys) = true := (congrArg (fun x => Rows.scanReadsRow.plainKeys == x) Facts.plainKeys).trans (by kernel_rfl)
theorem k_lf : (Rows.scanReadsRow.lifted == Try.prog.liftsFinal) = true := (congrArg (fun x => Rows.scanReadsRow.lifted == x) Facts.liftsFinal).trans (by kernel_rfl)
theorem k_mk : (Try.prog.make == some Rows.scanReadsRow.make) = true := (congrArg (fun x => x == some Rows.scanReadsRow.make) Facts.make).trans (by kernel_rfl)
theorem k_par : (Try.f18.params.all (Try.prog.readableRec ·)) = true := by kernel_rfl
theorem k_maps : (Rows.scanReadsRow.maps == (Try.f18.params.toList ++ Rows.scanReadsSpec.plain.varTypes Try.prog).any (Try.prog.mapsRec ·)) = true := by kernel_rfl
theorem k_ifs : (Rows.scanReadsRow.ifaces == (Try.f18.params.toList ++ Rows.scanReadsSpec.plain.varTypes Try.prog).any (Try.prog.ifacesRec ·)) = true := by kernel_rfl
theorem k_lps : (Rows.scanReadsRow.loops == (Try.f18.params.toList ++ Rows.scanReadsSpec.plain.varTypes Try.prog).any (Try.prog.loopsFrom ·)) = true := by kernel_rfl
theorem k_wk : (Rows.scanReadsRow.wideKeys == (Try.f18.params.toList ++ Rows.scanReadsSpec.plain.varTypes Try.prog ++ Try.f18.resultTypes.toList).any (Try.prog.wideKeysFrom ·)) = true := by kernel_rfl
theorem k_vl : (Rows.scanReadsRow.veiled == (Try.f18.params.toList ++ Rows.scanReadsSpec.plain.varTypes Try.prog ++ Try.f18.resultTypes.toList).any (Try.prog.veiledRec ·)) = true := by kernel_rfl
theorem closed : joinedFacts Try.prog 18 Try.f18 Rows.scanReadsSpec Rows.scanReadsRow = true :=
  Facts.and_i (Facts.and_i (Facts.and_i (Facts.and_i (Facts.and_i (Facts.and_i (Facts.and_i (Facts.and_i (Facts.and_i (Facts.and_i (Facts.and_i (Facts.and_i (Facts.and_i (Facts.and_i (Facts.and_i (Facts.and_i (Facts.and_i (Facts.and_i (Facts.and_i (Facts.and_i (Facts.and_i (Facts.and_i (Facts.and_i (Facts.and_i (Facts.and_i (Facts.and_i (Facts.and_i (Facts.and_i (Facts.and_i (Facts.and_i (Facts.and_i
    k_wf Facts.laid) Facts.mapsRowed_) k_par) rfl) rfl) Facts.stops) rfl) Facts.stopKnobs) k_inp) k_unf) k_rec) k_nam) k_maps) k_ifs) (by kernel_rfl)) k_lps) k_wk) rfl) (by kernel_rfl)) (by kernel_rfl)) (by kernel_rfl)) k_pk) rfl) Facts.stopsHeard) Facts.mayEnter) k_lf) k_mk) (by kernel_rfl)) (by kernel_rfl)) k_vl) (by kernel_rfl)
theorem named : Try.prog.funcNamed Rows.scanReadsRow.func = some 18 := by kernel_rfl

theorem proved : Rows.ScanReadsSaid :=
  OpenClaim.holds_of_wide 18 Try.f18 rfl rfl rfl rfl rfl rfl rfl ⟨rfl, rfl, rfl, rfl, rfl⟩ rfl rfl rfl rfl rfl named Try.func18 closed
    (of_decide_eq_true (by kernel_rfl)) (by unfold Func.isWrapper; first | (rw [if_pos (by decide +kernel)]; kernel_rfl) | (rw [if_neg (by decide +kernel)]; exact ⟨rfl, rfl⟩))
    (fun os started H enc _ => lifted os started H enc)
end ScanReads
#print axioms ScanReads.proved
end Go.Proofs.Ytlhappecjjbopaa
