/-
  ScanWrites: which bits any pieces come to. No condition.
-/
import Derived.Test.YtlhappecjjbopaaScL
import Derived.Test.YtlhappecjjbopaaScI
import Derived.Test.YtlhappecjjbopaaScC
import Derived.Test.YtlhappecjjbopaaCbA
import Derived.Test.YtlhappecjjbopaaFacts
import Derived.Test.YtlhappecjjbopaaArw
import Derived.Deep.CutBlock
namespace Go.Proofs.Ytlhappecjjbopaa
open Go.ChangeShapes Go.WideShapes Go.ChangeAt Go.WideMaps Go.WideElems Go.RowKit Go.Joins
set_option linter.unusedVariables false
set_option maxRecDepth 100000

theorem piece_p4b {H : Type} {enc : TypeId × Value → H} {W : World} {spare : Nat → Bool} {held : Bool} {nn : Nat} {cs : List Value} {y : DataW H × List MemPlace} (hl : cs.length = 4)
    (hy : DataW.trod enc Try.prog W 0 spare held nn 26 cs = some y) : P4 cs := by
  obtain ⟨_, n', hf⟩ := sub_str Try.underlying26 hy
  obtain ⟨c0, t0, rfl, hl0⟩ := len_cons hl
  obtain ⟨c1, t1, rfl, hl1⟩ := len_cons hl0
  obtain ⟨c2, t2, rfl, hl2⟩ := len_cons hl1
  obtain ⟨c3, t3, rfl, hl3⟩ := len_cons hl2
  obtain rfl := len_nil hl3
  have hk : Try.prog.cellsOf 3 = 1 := by kernel_rfl
  have hkb : Try.prog.cellsOf 4 = 1 := by kernel_rfl
  obtain ⟨y0, h0⟩ := hf 0 _ rfl
  obtain ⟨y1, h1⟩ := hf 1 _ rfl
  obtain ⟨y2, h2⟩ := hf 2 _ rfl
  obtain ⟨y3, h3⟩ := hf 3 _ rfl
  replace h0 : DataW.trod enc Try.prog W 0 spare held n' 4 [c0] = some y0 := by simpa [hkb] using h0
  replace h1 : DataW.trod enc Try.prog W 0 spare held n' 3 [c1] = some y1 := by simpa [hk] using h1
  replace h2 : DataW.trod enc Try.prog W 0 spare held n' 3 [c2] = some y2 := by simpa [hk] using h2
  replace h3 : DataW.trod enc Try.prog W 0 spare held n' 3 [c3] = some y3 := by simpa [hk] using h3
  obtain ⟨x0, e0, _⟩ := DataW.trod_bool Try.underlying4 h0
  obtain ⟨x1, e1, _, w1⟩ := DataW.trod_int Try.underlying3 h1
  obtain ⟨x2, e2, _, w2⟩ := DataW.trod_int Try.underlying3 h2
  obtain ⟨x3, e3, _, w3⟩ := DataW.trod_int Try.underlying3 h3
  simp only [List.cons.injEq, and_true] at e0 e1 e2 e3
  subst e0 e1 e2 e3
  exact ⟨x0, x1, x2, x3, rfl, wf_i w1, wf_i w2, wf_i w3⟩


theorem rows_pcs : ∀ rows : List (List Value), (∀ r ∈ rows, r.length = 4 ∧ P4 r) → ∃ l : List Pc, rows.flatten = pcRows l ∧ l.length = rows.length ∧ ∀ p ∈ l, Pib p
  | [], _ => ⟨[], rfl, rfl, by simp⟩
  | r :: rows, h => by
    obtain ⟨l, h1, h2, h3⟩ := rows_pcs rows (fun x hx => h x (by simp [hx]))
    obtain ⟨_, a, s, e, b, rfl, h4, h5, h6⟩ := h r (by simp)
    refine ⟨(a, s, e, b) :: l, by rw [List.flatten_cons, h1]; rfl, by simp [h2], fun p hp => ?_⟩
    rcases List.mem_cons.1 hp with rfl | hp
    · exact ⟨h4, h5, h6⟩
    · exact h3 p hp
theorem allO_of {ls : List Int} {O : List Nat} (h : ∀ s, s ∉ O → ls.getD s 0 = 0) : AllO ls O := fun s hs h0 => by
  by_cases hm : s ∈ O
  · exact List.mem_iff_getElem?.1 hm
  · rw [h s hm] at h0; omega
theorem codS_of {w : World} {K : Nat} {A : Option Addr} {ls : List Int} {O : List Nat} {C : List Int} (ho : Ordd ls O C) (ha : AllO ls O) (hs : Cs w K A (sy O) (sz ls O)) : CodS w K A O.length ls O C :=
  ⟨rfl, by have := ho.len; omega, ha, hs, fun i s hi => by
    have hm := ho.mem s (List.mem_of_getElem? hi)
    exact ⟨ho.co hi, hm.1, by omega, hm.2.2⟩⟩
/-- a table's book and codes -/
structure TabS (w : World) (cn ss : List Int) (p : Nat) (A : Option Addr) (ls : List Int) (O : List Nat) (C : List Int) : Prop where
  ord : Ordd ls O C
  vl : Vl ls
  all : AllO ls O
  book : BkS w w.heap.size p ls O C
  cods : CodS w w.heap.size A O.length ls O C
  syms : sy O = ss
theorem Cs.more {w : World} {K : Nat} {A : Option Addr} {syms Z : List Int} (h : Cs w K A syms Z) : Cs w w.heap.size A syms Z := by
  obtain ⟨rows, h1, h2⟩ := h.get
  exact Cs.of h1 h2

theorem flatQ_one (ls1 C1 ls2 C2 : List Int) (p : Pc) : flatQ ls1 C1 ls2 C2 [p] = bitsQ ls1 C1 ls2 C2 p := by simp [flatQ]
theorem flatQ_snoc (ls1 C1 ls2 C2 : List Int) (l : List Pc) (p : Pc) : flatQ ls1 C1 ls2 C2 (l ++ [p]) = flatQ ls1 C1 ls2 C2 l ++ bitsQ ls1 C1 ls2 C2 p := by simp [flatQ]
theorem pcRows_drop {l : List Pc} {i : Nat} {p : Pc} (h : l[i]? = some p) : ∃ r, (pcRows l).drop (i * 4) = pcRows [p] ++ r := by
  have h1 : l = l.take i ++ (p :: l.drop (i + 1)) := by
    obtain ⟨hk, he⟩ := List.getElem?_eq_some_iff.1 h
    have h2 := List.drop_eq_getElem_cons hk
    rw [he] at h2
    rw [← h2, List.take_append_drop]
  refine ⟨pcRows (l.drop (i + 1)), ?_⟩
  have hl : (pcRows (l.take i)).length = i * 4 := by
    rw [pcRows_len, List.length_take]
    have := (List.getElem?_eq_some_iff.1 h).1
    omega
  conv => lhs; rw [h1, pcRows_app]
  rw [← hl, List.drop_left']
  · show pcRows ([p] ++ l.drop (i + 1)) = _
    rw [pcRows_app]
  · rfl
def SwP (ls1 C1 ls2 C2 : List Int) (n : Nat) (l : List Pc) (W9 : World) (v ix : Value) (wr : World) : Prop :=
  ∃ i : Nat, i ≤ n ∧ ix = .int .i64 i ∧ (∀ j p, j < i → l[j]? = some p → OkQ ls1 ls2 p) ∧ (∃ ln, ln = (flatQ ls1 C1 ls2 C2 (l.take i)).length ∧ ln ≤ 32 * i ∧ wr.ownsRow W9.heap.size 3 1 v ln (iv (flatQ ls1 C1 ls2 C2 (l.take i)))) ∧ Below W9.heap.size W9 wr

def SwF (ls1 C1 ls2 C2 : List Int) (n : Nat) (l : List Pc) (W9 : World) (v ix : Value) (wr : World) : Prop :=
  ∃ i : Nat, i ≤ n ∧ ix = .int .i64 i ∧ goodQ ls1 ls2 l = l.take i ∧ (∃ ln, ln = (flatQ ls1 C1 ls2 C2 (l.take i)).length ∧ ln ≤ 32 * i ∧ wr.ownsRow W9.heap.size 3 1 v ln (iv (flatQ ls1 C1 ls2 C2 (l.take i)))) ∧ Below W9.heap.size W9 wr
set_option maxHeartbeats 16000000 in
theorem scanWrites_any (w : World) (A : Option Addr) (n c : Nat) (rows : List (List Value)) (hn : rows.length = n) (hcc : n ≤ c) (hmm : c ≤ 9223372036854775807) (hrows : ∀ r ∈ rows, r.length = 4 ∧ P4 r) (hR : Rd w w.heap.size A rows.flatten)
    (cn1 : List Int) (hcn1 : cn1.length = 16) (hIc1 : Is cn1) (A1 : Option Addr) (n1 c1 : Nat) (ss1 : List Int) (hn1 : ss1.length = n1) (hcc1 : n1 ≤ c1) (hmm1 : c1 ≤ 9223372036854775807) (hR1 : Rd w w.heap.size A1 (bv ss1)) (hB1 : Bs ss1)
    (cn2 : List Int) (hcn2 : cn2.length = 16) (hIc2 : Is cn2) (A2 : Option Addr) (n2 c2 : Nat) (ss2 : List Int) (hn2 : ss2.length = n2) (hcc2 : n2 ≤ c2) (hmm2 : c2 ≤ 9223372036854775807) (hR2 : Rd w w.heap.size A2 (bv ss2)) (hB2 : Bs ss2) :
    Calls Try.prog 17 #[.slice A n c, .agg (iv cn1 ++ [Value.slice A1 n1 c1]).toArray, .agg (iv cn2 ++ [Value.slice A2 n2 c2]).toArray] w (ReadsP w) := by
  obtain ⟨i0, hi0, hz0, hz1, hz2⟩ := info_parts Try.info_int
  obtain ⟨j0, hj0, hy0, hy1, hy2⟩ := info_parts Try.info_pc
  obtain ⟨l, hfl, hll, hpib⟩ := rows_pcs rows hrows
  rw [hfl] at hR
  rw [hn] at hll
  have HLL := Lib.hid hll
  have HPI := Lib.hid hpib
  have HN1 := Lib.hid hn1
  have HN2 := Lib.hid hn2
  have HC1 := Lib.hid hcn1
  have HC2 := Lib.hid hcn2
  have hs17a : (iv cn1 ++ [Value.slice A1 n1 c1]).length = 17 := by rw [List.length_append, iv_len, hcn1]; rfl
  have hs17b : (iv cn2 ++ [Value.slice A2 n2 c2]).length = 17 := by rw [List.length_append, iv_len, hcn2]; rfl
  have H17a := Lib.hid hs17a
  have H17b := Lib.hid hs17b
  have X1 := Bln.new w 86 (iv cn1 ++ [Value.slice A1 n1 c1])
  have hb0 : Below w.heap.size w (w.alloc (.cells (iv cn1 ++ [Value.slice A1 n1 c1]).toArray 86)) := (Below.refl _ _).alloc (Nat.le_refl _) _
  clear hfl hll hpib hn1 hn2 hcn1 hcn2 hs17a hs17b hrows hn
  go_enter Try.func17, Try.ntmps17
  go_upto_region 1 with fail
  have X2 := Bln.new (w.alloc (.cells (iv cn1 ++ [Value.slice A1 n1 c1]).toArray 86)) 86 (iv cn2 ++ [Value.slice A2 n2 c2])
  have hba : Below (w.alloc (.cells (iv cn1 ++ [Value.slice A1 n1 c1]).toArray 86)).heap.size (w.alloc (.cells (iv cn1 ++ [Value.slice A1 n1 c1]).toArray 86)) ((w.alloc (.cells (iv cn1 ++ [Value.slice A1 n1 c1]).toArray 86)).alloc (.cells (iv cn2 ++ [Value.slice A2 n2 c2]).toArray 86)) := (Below.refl _ _).alloc (Nat.le_refl _) _
  have X1' := X1.below hba
  have hb0' := hb0.trans (hba.mono hb0.size)
  have hsz1 : (w.alloc (.cells (iv cn1 ++ [Value.slice A1 n1 c1]).toArray 86)).heap.size = w.heap.size + 1 := by simp
  rw [hsz1] at X2
  clear hba hb0 X1 hsz1
  generalize (w.alloc (.cells (iv cn1 ++ [Value.slice A1 n1 c1]).toArray 86)).alloc (.cells (iv cn2 ++ [Value.slice A2 n2 c2]).toArray 86) = w0 at *
  have hs0 := hb0'.size
  go_wp2_with fail
  refine (alive21_any w0).mono ?_; rintro e w1 ⟨rfl, hb1⟩
  have Y1 := X1'.below hb1
  have Y2 := X2.below hb1
  have hb1' := hb0'.trans (hb1.mono hs0)
  have hs1 := hb1'.size
  clear X1' X2 hb1 hb0' hs0
  by_cases h200 : 200 < n
  · have d1 : decide ((200 : Int) < (n : Int)) = true := decide_eq_true (by omega)
    go_wp2
    go_ret
    exact ⟨rfl, hb1'⟩
  have d1 : decide ((200 : Int) < (n : Int)) = false := decide_eq_false (by omega)
  have hr1 := Y1.range 0 (iv cn1 ++ [Value.slice A1 n1 c1]) (fun j v hv => by rw [Nat.zero_add]; exact hv)
  go_wp2_with (refine wpList_load_mid rfl 86 (.tmp 4) rfl _ _ rfl (iv cn1 ++ [Value.slice A1 n1 c1]) _ hr1 Try.underlying86 rfl (by rw [H17a.out]; kernel_rfl) ?_)
  refine (refTable_any A1 n1 c1 cn1 ss1 w1 HC1.out hIc1 HN1.out ((hR1.below hb1').more hs1) hB1 (by omega)).mono ?_; rintro e w2 ⟨h1a, h1b, hb2⟩
  have Y1' := Y1.below hb2
  have Y2' := Y2.below hb2
  have hb2' := hb1'.trans (hb2.mono hs1)
  have hs2 := hb2'.size
  have hr2 := Y2'.range 0 (iv cn2 ++ [Value.slice A2 n2 c2]) (fun j v hv => by rw [Nat.zero_add]; exact hv)
  clear hr1 Y1 Y2
  by_cases hk1 : TabOk cn1 ss1
  · obtain ⟨At1, ct1, rfl, hcs1⟩ := h1a hk1
    have HK1 := Lib.hid hk1
    rw [HN1.out]
    clear h1a h1b hk1
    go_wp2_with (refine wpList_load_mid rfl 86 (.tmp 5) rfl _ _ rfl (iv cn2 ++ [Value.slice A2 n2 c2]) _ hr2 Try.underlying86 rfl (by rw [H17b.out]; kernel_rfl) ?_)
    refine (refTable_any A2 n2 c2 cn2 ss2 w2 HC2.out hIc2 HN2.out ((hR2.below hb2').more hs2) hB2 (by omega)).mono ?_; rintro e w3 ⟨h2a, h2b, hb3⟩
    have Z1 := Y1'.below hb3
    have Z2 := Y2'.below hb3
    have hb3' := hb2'.trans (hb3.mono hs2)
    have hs3 := hb3'.size
    have hr3 := Z1.range 0 (iv cn1 ++ [Value.slice A1 n1 c1]) (fun j v hv => by rw [Nat.zero_add]; exact hv)
    clear hr2 Y1' Y2'
    by_cases hk2 : TabOk cn2 ss2
    · obtain ⟨At2, ct2, rfl, hcs2⟩ := h2a hk2
      have HK2 := Lib.hid hk2
      rw [HN2.out]
      have hcs1' := (hcs1.cs.keep hb3).more
      have hcs2' := hcs2.cs
      have hn1b : n1 ≤ 1000 := by have := nodupI_le HK1.out.2.2.1 hB1; rw [HN1.out] at this; omega
      have hn2b : n2 ≤ 1000 := by have := nodupI_le HK2.out.2.2.1 hB2; rw [HN2.out] at this; omega
      clear h2a h2b hk2 hcs1 hcs2
      go_wp2_with (refine wpList_load_mid rfl 86 (.tmp 4) rfl _ _ rfl (iv cn1 ++ [Value.slice A1 n1 c1]) _ hr3 Try.underlying86 rfl (by rw [H17a.out]; kernel_rfl) ?_)
      refine (newTable_any A1 n1 c1 cn1 ss1 w3 HC1.out hIc1 HN1.out ((hR1.below hb3').more hs3) hB1 (by omega)).mono ?_; rintro e w4 ⟨h3, _, hb4⟩
      obtain ⟨p1, ls1, O1, C1, rfl, hBk1, hO1, hV1, hsy1, hsz1, hzr1⟩ := h3 HK1.out
      have Z2' := Z2.below hb4
      have hb4' := hb3'.trans (hb4.mono hs3)
      have hs4 := hb4'.size
      have hr4 := Z2'.range 0 (iv cn2 ++ [Value.slice A2 n2 c2]) (fun j v hv => by rw [Nat.zero_add]; exact hv)
      have hcs1b := (hcs1'.keep hb4).more
      have hcs2b := (hcs2'.keep hb4).more
      rw [← hsy1, ← hsz1] at hcs1b
      clear h3 hr3 Z1 Z2 hcs1' hcs2'
      go_wp2_with (refine wpList_load_mid rfl 86 (.tmp 5) rfl _ _ rfl (iv cn2 ++ [Value.slice A2 n2 c2]) _ hr4 Try.underlying86 rfl (by rw [H17b.out]; kernel_rfl) ?_)
      refine (newTable_any A2 n2 c2 cn2 ss2 w4 HC2.out hIc2 HN2.out ((hR2.below hb4').more hs4) hB2 (by omega)).mono ?_; rintro e w5 ⟨h4, _, hb5⟩
      obtain ⟨p2, ls2, O2, C2, rfl, hBk2, hO2, hV2, hsy2, hsz2, hzr2⟩ := h4 HK2.out
      have hb5' := hb4'.trans (hb5.mono hs4)
      have hs5 := hb5'.size
      have hcs1c := (hcs1b.keep hb5).more
      have hcs2c := (hcs2b.keep hb5).more
      rw [← hsy2, ← hsz2] at hcs2c
      have hKB1 := (BkS.of hBk1.bk).keep hb5
      have hKB2 := BkS.of hBk2.bk
      have ha1 := allO_of hzr1
      have ha2 := allO_of hzr2
      have hcd1 := codS_of hO1 ha1 hcs1c
      have hcd2 := codS_of hO2 ha2 hcs2c
      have hol1 : O1.length = n1 := by rw [← sy_len, hsy1, HN1.out]
      have hol2 : O2.length = n2 := by rw [← sy_len, hsy2, HN2.out]
      rw [hol1] at hcd1
      rw [hol2] at hcd2
      have HO1 := Lib.hid hO1
      have HO2 := Lib.hid hO2
      have HV1 := Lib.hid hV1
      have HV2 := Lib.hid hV2
      have HA1 := Lib.hid ha1
      have HA2 := Lib.hid ha2
      have HD1 := Lib.hid hcd1
      have HD2 := Lib.hid hcd2
      have hKB1g := hKB1.get
      have HKB1 := Lib.hid hKB1g
      have HKB2 := Lib.hid hBk2.bk
      have hR5 := (hR.below hb5').more hs5
      clear h4 hr4 Z2' hcs1b hcs2b hcs1c hcs2c hO1 hO2 hV1 hV2 ha1 ha2 hcd1 hcd2 hol1 hol2 hKB1 hKB2 hKB1g hBk1 hBk2 hsy1 hsz1 hsy2 hsz2 hzr1 hzr2 hb1' hb2' hb3' hb4' hb2 hb3 hb4 hs1 hs2 hs3 hs4
      have hL0 : (w5.alloc (.cells #[] 27)).ownsRow w5.heap.size 27 4 (.slice (some ⟨w5.heap.size, 0, none⟩) 0 0) 0 [] := World.ownsRow_made w5 #[] 0 (Nat.le_refl _) (by unfold maxLen; omega) (by simp)
      have hbl0 : Below w5.heap.size w5 (w5.alloc (.cells #[] 27)) := (Below.refl _ _).alloc (Nat.le_refl _) _
      go_wp2
      go_loopw [15, 64] (fun v ix wr => ∃ i : Nat, i ≤ n ∧ ix = .int .i64 i ∧ wr.ownsRow w5.heap.size 27 4 v i (pcRows (l.take i)) ∧ Below w5.heap.size w5 wr) (fun _ ix _ => n - (intOf ix).toNat)
      case atStart => exact ⟨0, Nat.zero_le _, rfl, hL0, hbl0⟩
      case round =>
        obtain ⟨i, hi, rfl, hrow, hb⟩ := hrel
        clear hL0 hbl0
        obtain ⟨wi, rfl⟩ : ∃ wi : World, wi = wr := ⟨_, rfl⟩
        obtain ⟨Av, cv, hve, _⟩ := own_sliceN hrow
        subst hve
        by_cases hlt : i < n
        · have dl : decide (i < n) = true := decide_eq_true hlt
          obtain ⟨p, hp⟩ : ∃ p, l[i]? = some p := ⟨l[i]'(by rw [HLL.out]; exact hlt), List.getElem?_eq_getElem _⟩
          have hpl : i * 4 < (pcRows l).length := by rw [pcRows_len, HLL.out]; omega
          obtain ⟨b1, o1, rfl, _, hcr⟩ := (hR5.below hb).at_ hpl
          have htk : l.take (i + 1) = l.take i ++ [p] := by rw [List.take_add_one, hp]; rfl
          have HTK := Lib.hid htk
          obtain ⟨ac, sym, ex, bn⟩ := p
          have a0 := hcr _ _ (pcRows_get hp (j := 0) (u := .bool ac) rfl)
          have a1 := hcr _ _ (pcRows_get hp (j := 1) (u := .int .i64 sym) rfl)
          have a2 := hcr _ _ (pcRows_get hp (j := 2) (u := .int .i64 ex) rfl)
          have a3 := hcr _ _ (pcRows_get hp (j := 3) (u := .int .i64 bn) rfl)
          rw [← Nat.add_assoc] at a0 a1 a2 a3
          rw [Nat.add_zero] at a0
          have hi0' : (0 : Int) ≤ (i : Int) := by omega
          have hi1' : (i : Int) < (n : Int) := by omega
          clear hcr hp hpl htk
          go_upto_region 17 with fail
          have hba : Below wi.heap.size wi (wi.alloc (.cells #[.bool ac, .int .i64 sym, .int .i64 ex, .int .i64 bn] 26)) := (Below.refl _ _).alloc (Nat.le_refl _) _
          have X := Bln.new wi 26 [.bool ac, .int .i64 sym, .int .i64 ex, .int .i64 bn]
          have x0 := X.cell (i := 0) (u := .bool ac) rfl
          have x1 := X.cell (i := 1) (u := .int .i64 sym) rfl
          have x2 := X.cell (i := 2) (u := .int .i64 ex) rfl
          have x3 := X.cell (i := 3) (u := .int .i64 bn) rfl
          have hrow1 := own_keepN hrow hba
          have hb1 := hb.trans (hba.mono hb.size)
          have hsz : (wi.alloc (.cells #[.bool ac, .int .i64 sym, .int .i64 ex, .int .i64 bn] 26)).heap.size = wi.heap.size + 1 := by simp
          clear X
          generalize wi.alloc (.cells #[.bool ac, .int .i64 sym, .int .i64 ex, .int .i64 bn] 26) = wj at *
          have hbb : Below wj.heap.size wj (wj.alloc (.cells (pcV (ac, sym, ex, bn)).toArray 27)) := (Below.refl _ _).alloc (Nat.le_refl _) _
          have hoa := own_keepN hrow1 hbb
          have hsj := hb1.size
          have hsza : w5.heap.size ≤ (wj.alloc (.cells (pcV (ac, sym, ex, bn)).toArray 27)).heap.size := by have := hbb.size; omega
          clear hsz hba
          go_wp2_with (at_builtin; refine wpList_appN _ rfl (.tmp 68) (.tmp 78) 23 rfl Try.underlying23 hj0 hy0 hy1 hy2 rfl (by omega) hoa rfl rfl (Rd.newN wj 27 (pcV (ac, sym, ex, bn))) rfl (pcV_one _) (by omega) (by omega) hsza ?_; intro v7 w7 hown7 hap7)
          go_roundw
          case rel => exact ⟨i + 1, by omega, by go_num, by rw [HTK.out, pcRows_snoc]; exact hown7, hb1.trans ((hbb.mono hsj).trans (hap7.below (fun k hk => (hoa.lt k hk).1) hsza))⟩
          case measure => simp [intOf]; omega
        · have dl : decide (i < n) = false := decide_eq_false hlt
          have hin : i = n := by omega
          have htl : l.take i = l := List.take_of_length_le (by rw [HLL.out]; omega)
          rw [htl] at hrow
          have hb6 := hb5'.trans (hb.mono hs5)
          have hs6 := hb6.size
          have HIN := Lib.hid hin
          clear htl hin
          go_wp2_with fail
          refine (newWriter_any true wi).mono ?_; rintro e w8 ⟨rfl, hW8, hb8⟩
          have hbk1 : BkO w8 wi.heap.size (some p1) ls1 O1 C1 := .inr ⟨p1, rfl, (BkS.of (HKB1.out.below hb)).keep hb8, HO1.out, HV1.out⟩
          have hbk2 : BkO w8 wi.heap.size (some p2) ls2 O2 C2 := .inr ⟨p2, rfl, (BkS.of (HKB2.out.below hb)).keep hb8, HO2.out, HV2.out⟩
          have hrow8 := own_keepN hrow hb8
          obtain ⟨Av2, cv2, hve, _, _, hRv⟩ := own_sliceN hrow8
          injection hve with hve1 _ hve3
          subst hve1 hve3
          have hlt0 := hrow.lt
          have hs8 := hb8.size
          have hb8' := hb6.trans (hb8.mono hs6)
          go_wp2_with fail
          refine (scanWrite_any hbk1 HA1.out HV1.out hbk2 HA2.out HV2.out hs8 (Nat.le_refl _) (fun k hk => by simp [Value.ownBlock] at hk) hW8 (n := i) (l := l) (by rw [HLL.out, HIN.out]) hRv (fun a ha => ⟨fun e => by have := (hlt0 a.block (by rw [ha]; rfl)).2; omega, by simp [Value.ownBlock]⟩) HPI.out (by omega) (by simp)).mono ?_; rintro e w9 ⟨he, v9, hW9, hT9⟩
          have hb89 := hT9.below (B := wi.heap.size) (Nat.le_refl _) (fun k hk => by simp [Value.ownBlock] at hk) hs8
          have hb9' := hb8'.trans (hb89.mono hs6)
          generalize hBq : wi.heap.size = B at *
          have HE : Hid _ := Lib.hid (rfl : (if goodQ ls1 ls2 l = l then Value.nilIface else errV 6) = (if goodQ ls1 ls2 l = l then Value.nilIface else errV 6))
          obtain ⟨ev, hev⟩ : ∃ ev, ev = (if goodQ ls1 ls2 l = l then Value.nilIface else errV 6) := ⟨_, rfl⟩
          rw [← hev] at he
          subst he
          clear HE
          have HE := Lib.hid hev
          have HW9 := Lib.hid hW9
          have hbs9 : Below w5.heap.size w5 w9 := hb.trans ((hb8.mono (by have := hb.size; omega)).trans (hb89.mono (by have := hb.size; omega)))
          have HB0 := Lib.hid hBq
          clear hrow hrow8 hRv hlt0 hb8 hb8' hb89 hT9 hW9 hW8 hbk1 hbk2 hev hb hb6 hs6 hBq hi
          have hL0 : (w9.alloc (.cells #[] 3)).ownsRow w9.heap.size 3 1 (.slice (some ⟨w9.heap.size, 0, none⟩) 0 0) 0 [] := World.ownsRow_made w9 #[] 0 (Nat.le_refl _) (by unfold maxLen; omega) (by simp)
          have hbl0 : Below w9.heap.size w9 (w9.alloc (.cells #[] 3)) := (Below.refl _ _).alloc (Nat.le_refl _) _
          go_upto_block 2 with fail
          go_cut [20, 19] from 88 to 134 (SwF ls1 C1 ls2 C2 n l w9)
          case first =>
            go_wp2_with fail
            go_loopw [20, 19] (SwP ls1 C1 ls2 C2 n l w9) (fun _ ix _ => n - (intOf ix).toNat)
            case atStart => exact ⟨0, Nat.zero_le _, rfl, fun j p h => by omega, ⟨0, by simp [flatQ], by omega, by simpa [flatQ, iv] using hL0⟩, hbl0⟩
            case round =>
              obtain ⟨i, hi', rfl, hok, ⟨ln, hln, hlen, hrow⟩, hb⟩ := hrel
              clear hL0 hbl0
              have HOK := Lib.hid hok
              have HLNQ := Lib.hid hln
              obtain ⟨wi, rfl⟩ : ∃ wi : World, wi = wr := ⟨_, rfl⟩
              obtain ⟨Aw, cw, hwe, _⟩ := own_sliceN hrow
              subst hwe
              clear hok hln
              by_cases hlt : i < n
              · have dl : decide (i < n) = true := decide_eq_true hlt
                obtain ⟨p, hp⟩ : ∃ p, l[i]? = some p := ⟨l[i]'(by rw [HLL.out]; exact hlt), List.getElem?_eq_getElem _⟩
                have hpl : i * 4 < (pcRows l).length := by rw [pcRows_len, HLL.out]; omega
                have hbi := hbs9.trans (hb.mono hbs9.size)
                have hRi := (hR5.below hbi).more hbi.size
                obtain ⟨b1, o1, hAe, _, hcr⟩ := hRi.at_ hpl
                have hpb := HPI.out p (List.mem_of_getElem? hp)
                have htk : l.take (i + 1) = l.take i ++ [p] := by rw [List.take_add_one, hp]; rfl
                have HTK := Lib.hid htk
                have HPP := Lib.hid hp
                obtain ⟨rr, hrr⟩ := pcRows_drop hp
                have hRd := (hRi.drop hAe (i * 4))
                rw [hrr] at hRd
                have hRone := hRd.pre
                subst hAe
                have a0 := hcr _ _ (pcRows_get hp (j := 0) (u := .bool p.1) rfl)
                have a1 := hcr _ _ (pcRows_get hp (j := 1) (u := .int .i64 p.2.1) rfl)
                have a2 := hcr _ _ (pcRows_get hp (j := 2) (u := .int .i64 p.2.2.1) rfl)
                have a3 := hcr _ _ (pcRows_get hp (j := 3) (u := .int .i64 p.2.2.2) rfl)
                rw [← Nat.add_assoc] at a0 a1 a2 a3
                rw [Nat.add_zero] at a0
                have hi0' : (0 : Int) ≤ (i : Int) := by omega
                have hi1' : (i : Int) < (n : Int) := by omega
                have hic : ¬ c = i := by omega
                obtain ⟨⟨hs1, hs2⟩, ⟨he1, he2⟩, hn1', hn2'⟩ := hpb
                have hfa := fun b hb W => fits_any p.2.2.1 p.2.2.2 b hb ⟨he1, he2⟩ W
                have HFA := Lib.hid hfa
                have hba : Below wi.heap.size wi (wi.alloc (.cells #[.bool p.1, .int .i64 p.2.1, .int .i64 p.2.2.1, .int .i64 p.2.2.2] 26)) := (Below.refl _ _).alloc (Nat.le_refl _) _
                have hrowa := own_keep hrow hba
                have hbA := hb.trans (hba.mono hb.size)
                have hRa := (hRone.below hba).more hba.size
                clear hcr hp hpl htk hrr hRd hRone hfa hRi
                generalize hq0 : p.1 = ac at *
                generalize hq1 : p.2.1 = sym at *
                generalize hq2 : p.2.2.1 = ex at *
                generalize hq3 : p.2.2.2 = bn at *
                have hpe : p = (ac, sym, ex, bn) := by rw [← hq0, ← hq1, ← hq2, ← hq3]
                have HPE := Lib.hid hpe
                clear hq0 hq1 hq2 hq3 hpe
                by_cases g1 : 0 ≤ bn
                · have e1 : decide (bn < 0) = false := decide_eq_false (by omega)
                  by_cases g2 : bn ≤ 16
                  · have e2 : decide (16 < bn) = false := decide_eq_false (by omega)
                    by_cases g3 : Fit ex bn
                    · have HF3 := Lib.hid (decide_eq_true g3)
                      by_cases g4 : -1 ≤ sym
                      · have e4 : decide (sym < -1) = false := decide_eq_false (by omega)
                        have hfit : FitP p := by rw [HPE.out]; exact ⟨⟨g1, g2⟩, g3.2.1, g3.2.2, g4, hs2⟩
                        have hcdA := HD1.out.keep (hbi.trans ((hba.mono (by have := hbi.size; omega))))
                        have hcdB := HD2.out.keep (hbi.trans ((hba.mono (by have := hbi.size; omega))))
                        have hsA := hbi.size
                        have hsB := hba.size
                        have HFIT := Lib.hid hfit
                        clear g3 hfit
                        go_wp2_with (go_at_call 74; refine (HFA.out true HF3.out _).mono ?_; rintro e w' ⟨rfl, rfl⟩)
                        refine (refBits_any (l := [p]) hcdA hcdB (by omega) (by omega) rfl hRa (fun q hq => by simp only [List.mem_singleton] at hq; rw [hq]; exact HFIT.out) (by simp)).mono ?_; rintro e w11 ⟨h5, h6, hb11⟩
                        have hbN := hbA.trans (hb11.mono hbA.size)
                        by_cases hoq : OkQ ls1 ls2 p
                        · obtain ⟨v11, rfl, ho11⟩ := h5 (fun q hq => by simp only [List.mem_singleton] at hq; rw [hq]; exact hoq)
                          rw [flatQ_one] at ho11
                          obtain ⟨A11, c11, hv11, hR11⟩ := own_slice ho11
                          subst hv11
                          have HOQ := Lib.hid hoq
                          have hbl : (bitsQ ls1 C1 ls2 C2 p).length ≤ 32 := by
                            unfold bitsQ
                            unfold OkQ at hoq
                            cases hp1 : p.1
                            · rw [hp1] at hoq; exact bitsP_len C1 HV1.out hoq
                            · rw [hp1] at hoq; exact bitsP_len C2 HV2.out hoq
                          have hrow11 := own_keep hrowa hb11
                          have hsz11 := hbN.size
                          obtain ⟨lb, hlb⟩ : ∃ lb, lb = (bitsQ ls1 C1 ls2 C2 p).length := ⟨_, rfl⟩
                          have HLB := Lib.hid hlb
                          rw [← hlb] at hbl
                          rw [← hlb]
                          clear h5 h6 hoq hlb
                          go_wp2_with (at_builtin; refine wpList_app2 _ rfl (.tmp 130) (.tmp 131) 24 rfl Try.underlying24 hi0 hz0 hz1 hz2 rfl hrow11 rfl rfl hR11 (by rw [iv_len, HLB.out]) (one_iv _) (by omega) (by omega) hsz11 ?_; intro v7 w7 hown7 hg7)
                          go_roundw
                          case rel =>
                            have hfl : flatQ ls1 C1 ls2 C2 (l.take (i + 1)) = flatQ ls1 C1 ls2 C2 (l.take i) ++ bitsQ ls1 C1 ls2 C2 p := by rw [HTK.out, flatQ_snoc]
                            refine ⟨i + 1, by omega, by go_num, fun j q hj hq => ?_, ⟨ln + lb, by rw [hfl, List.length_append, ← HLNQ.out, HLB.out], by omega, by rw [hfl, iv_app]; exact hown7⟩, below_app2 hbN hrow11 hg7 (Nat.le_refl _) hsz11⟩
                            rcases Nat.lt_or_ge j i with h1 | h1
                            · exact HOK.out j q h1 hq
                            · obtain rfl : j = i := by omega
                              rw [HPP.out] at hq; injection hq with hq; rw [← hq]; exact HOQ.out
                          case measure => simp [intOf]; omega
                        · obtain rfl := h6 (fun h => hoq (h p (by simp)))
                          have hnq : ¬ OkQ ls1 ls2 p := hoq
                          have hgd := take_while_at HOK.out (fun q hq => by rw [HPP.out] at hq; injection hq with hq; rw [← hq]; exact hnq) (by rw [HLL.out]; exact hi')
                          have HGD := Lib.hid hgd
                          clear hnq hgd
                          have hrow11 := own_keep hrowa hb11
                          clear h5 h6 hoq
                          go_wp2
                          go_meet
                          exact ⟨i, hi', rfl, HGD.out, ⟨ln, HLNQ.out, hlen, hrow11⟩, hbN⟩
                      · have e4 : decide (sym < -1) = true := decide_eq_true (by omega)
                        have hnq : ¬ OkQ ls1 ls2 p := fun h => by
                          rw [HPE.out] at h
                          rcases h.2.2.2 with h1 | h1
                          · simp only at h1; omega
                          · have := hasL_lt h1; simp only at this; omega
                        have hgd := take_while_at HOK.out (fun q hq => by rw [HPP.out] at hq; injection hq with hq; rw [← hq]; exact hnq) (by rw [HLL.out]; exact hi')
                        have HGD := Lib.hid hgd
                        clear hnq hgd
                        clear g3
                        go_wp2_with (go_at_call 74; refine (HFA.out true HF3.out _).mono ?_; rintro e w' ⟨rfl, rfl⟩)
                        go_meet
                        exact ⟨i, hi', rfl, HGD.out, ⟨ln, HLNQ.out, hlen, hrowa⟩, hbA⟩
                    · have HF3 := Lib.hid (decide_eq_false g3)
                      have hnq : ¬ OkQ ls1 ls2 p := fun h => by
                        rw [HPE.out] at h
                        exact g3 ⟨⟨g1, by omega⟩, h.2.1, h.2.2.1⟩
                      have hgd := take_while_at HOK.out (fun q hq => by rw [HPP.out] at hq; injection hq with hq; rw [← hq]; exact hnq) (by rw [HLL.out]; exact hi')
                      have HGD := Lib.hid hgd
                      clear hnq hgd
                      clear g3
                      go_wp2_with (go_at_call 74; refine (HFA.out false HF3.out _).mono ?_; rintro e w' ⟨rfl, rfl⟩)
                      go_meet
                      exact ⟨i, hi', rfl, HGD.out, ⟨ln, HLNQ.out, hlen, hrowa⟩, hbA⟩
                  · have e2 : decide (16 < bn) = true := decide_eq_true (by omega)
                    have hnq : ¬ OkQ ls1 ls2 p := fun h => by rw [HPE.out] at h; exact g2 h.1.2
                    have hgd := take_while_at HOK.out (fun q hq => by rw [HPP.out] at hq; injection hq with hq; rw [← hq]; exact hnq) (by rw [HLL.out]; exact hi')
                    have HGD := Lib.hid hgd
                    clear hnq hgd
                    go_wp2
                    go_meet
                    exact ⟨i, hi', rfl, HGD.out, ⟨ln, HLNQ.out, hlen, hrowa⟩, hbA⟩
                · have e1 : decide (bn < 0) = true := decide_eq_true (by omega)
                  have hnq : ¬ OkQ ls1 ls2 p := fun h => by rw [HPE.out] at h; exact g1 h.1.1
                  have hgd := take_while_at HOK.out (fun q hq => by rw [HPP.out] at hq; injection hq with hq; rw [← hq]; exact hnq) (by rw [HLL.out]; exact hi')
                  have HGD := Lib.hid hgd
                  clear hnq hgd
                  go_wp2
                  go_meet
                  exact ⟨i, hi', rfl, HGD.out, ⟨ln, HLNQ.out, hlen, hrowa⟩, hbA⟩
              · have dl : decide (i < n) = false := decide_eq_false hlt
                have hgd := take_while_at (ls1 := ls1) (ls2 := ls2) (l := l) (i := i) HOK.out (fun q hq => by
                  have := (List.getElem?_eq_some_iff.1 hq).1
                  rw [HLL.out] at this; omega) (by rw [HLL.out]; exact hi')
                have HGD := Lib.hid hgd
                clear hgd
                go_wp2
                go_meet
                exact ⟨i, hi', rfl, HGD.out, ⟨ln, HLNQ.out, hlen, hrow⟩, hb⟩
          case rest =>
            obtain ⟨i, hi', rfl, hgood, ⟨ln, hln, hln2, hrow⟩, hb11⟩ := hcut
            have W11 := HW9.out.below hb11
            have hgl : goodQ ls1 ls2 l = l ↔ i = n := by
              rw [hgood]
              constructor
              · intro h
                have := congrArg List.length h
                rw [List.length_take, HLL.out] at this
                omega
              · intro h
                exact List.take_of_length_le (by rw [HLL.out]; omega)
            rw [hgood] at W11
            have HLN := Lib.hid hln
            have hwl : (flatQ ls1 C1 ls2 C2 (l.take i)).length = ln := hln.symm
            have HWL := Lib.hid hwl
            have hb11' := hb9'.trans (hb11.mono hb9'.size)
            have hs11 := hb11'.size
            obtain ⟨Aw, cw, hwe, _, _, hRw⟩ := own_sliceN hrow
            subst hwe
            have hnl := hrow
            clear hln hgood hwl
            generalize flatQ ls1 C1 ls2 C2 (l.take i) = F at *
            have h01 : B01 F := by have := W11.b01; rw [List.nil_append] at this; exact this
            rw [List.nil_append] at W11
            have hfin : ∀ W : World, Below w.heap.size w W → Wr W B true v9 F → W.ownsRow w9.heap.size 3 1 (.slice Aw ln cw) ln (iv F) → True := fun _ _ _ _ => trivial
            clear hfin hnl
            by_cases hall : i = n
            · have he := HE.out
              rw [if_pos (hgl.2 hall)] at he
              have dl : decide (i < n) = false := decide_eq_false (by omega)
              have HHE := Lib.hid he
              clear hgl hall he
              rw [HHE.out]
              go_wp2_with (first | (go_at_call 35; refine (is_err 6 6 (by omega) _).mono ?_; rintro e w' ⟨rfl, rfl⟩) | (go_at_call 66; refine (wlen_any B true v9 F _ W11).mono ?_; rintro e w' ⟨rfl, rfl⟩; rw [HWL.out]))
              refine (bytes_any B true v9 F _ W11 (by rw [HWL.out]; omega)).mono ?_; rintro e w12 ⟨v12, rfl, ho12, hb12⟩
              have hs12 := hb12.size
              have hb12' := hb11'.trans (hb12.mono hs11)
              have hR12 := (hRw.below hb12).more hs12
              obtain ⟨A12, c12, hv12, hRp⟩ := own_slice ho12
              subst hv12
              go_wp2_with fail
              refine (rbytes_any Aw ln cw F true w12 HWL.out hR12 h01 (by omega)).mono ?_; rintro e w13 ⟨v13, rfl, ho13, hb13⟩
              obtain ⟨A13, c13, hv13, hRq⟩ := own_slice ho13
              subst hv13
              have hb13' := hb12'.trans (hb13.mono hb12'.size)
              have hnb : (pack true (full true F)).length = nby ln := by
                rw [pack_len, full_len]; simp only [nby]; rw [HWL.out]; omega
              have hRp' := (hRp.below hb13).more hb13.size
              rw [HWL.out]
              have hpb : Bs (pack true (full true F)) := pack_bs (full_01 h01)
              have HNB := Lib.hid hnb
              clear hnb
              go_wp2_with fail
              refine (same_is A12 A13 (nby ln) (nby ln) c12 c13 (pack true (full true F)) (pack true (full true F)) true (decide_eq_true rfl) _ _ w13 hRp' hRq hpb hpb HNB.out.symm HNB.out.symm).mono ?_; rintro e w' ⟨rfl, rfl⟩
              go_wp2
              go_ret
              exact ⟨rfl, hb13'⟩
            · have he := HE.out
              rw [if_neg (fun h => hall (hgl.1 h))] at he
              have dl : decide (i < n) = true := decide_eq_true (by omega)
              have HHE := Lib.hid he
              clear hgl hall he
              rw [HHE.out]
              unfold errV
              go_wp2_with (first | (go_at_call 35; refine (is_err 6 6 (by omega) _).mono ?_; rintro e w' ⟨rfl, rfl⟩) | (go_at_call 66; refine (wlen_any B true v9 F _ W11).mono ?_; rintro e w' ⟨rfl, rfl⟩; rw [HWL.out]))
              refine (bytes_any B true v9 F _ W11 (by rw [HWL.out]; omega)).mono ?_; rintro e w12 ⟨v12, rfl, ho12, hb12⟩
              have hs12 := hb12.size
              have hb12' := hb11'.trans (hb12.mono hs11)
              have hR12 := (hRw.below hb12).more hs12
              obtain ⟨A12, c12, hv12, hRp⟩ := own_slice ho12
              subst hv12
              go_wp2_with fail
              refine (rbytes_any Aw ln cw F true w12 HWL.out hR12 h01 (by omega)).mono ?_; rintro e w13 ⟨v13, rfl, ho13, hb13⟩
              obtain ⟨A13, c13, hv13, hRq⟩ := own_slice ho13
              subst hv13
              have hb13' := hb12'.trans (hb13.mono hb12'.size)
              have hnb : (pack true (full true F)).length = nby ln := by
                rw [pack_len, full_len]; simp only [nby]; rw [HWL.out]; omega
              have hRp' := (hRp.below hb13).more hb13.size
              rw [HWL.out]
              have hpb : Bs (pack true (full true F)) := pack_bs (full_01 h01)
              have HNB := Lib.hid hnb
              clear hnb
              go_wp2_with fail
              refine (same_is A12 A13 (nby ln) (nby ln) c12 c13 (pack true (full true F)) (pack true (full true F)) true (decide_eq_true rfl) _ _ w13 hRp' hRq hpb hpb HNB.out.symm HNB.out.symm).mono ?_; rintro e w' ⟨rfl, rfl⟩
              go_wp2
              go_ret
              exact ⟨rfl, hb13'⟩
    · obtain rfl := h2b hk2
      clear h2a h2b hk2
      go_wp2
      go_ret
      exact ⟨rfl, hb3'⟩
  · obtain rfl := h1b hk1
    clear h1a h1b hk1
    go_wp2_with (refine wpList_load_mid rfl 86 (.tmp 5) rfl _ _ rfl (iv cn2 ++ [Value.slice A2 n2 c2]) _ hr2 Try.underlying86 rfl (by rw [H17b.out]; kernel_rfl) ?_)
    refine (refTable_any A2 n2 c2 cn2 ss2 w2 HC2.out hIc2 HN2.out ((hR2.below hb2').more hs2) hB2 (by omega)).mono ?_; rintro e w3 ⟨h2a, h2b, hb3⟩
    have hb3' := hb2'.trans (hb3.mono hs2)
    by_cases hk2 : TabOk cn2 ss2
    · obtain ⟨At2, ct2, rfl, _⟩ := h2a hk2
      clear h2a h2b hk2
      go_wp2
      go_ret
      exact ⟨rfl, hb3'⟩
    · obtain rfl := h2b hk2
      clear h2a h2b hk2
      go_wp2
      go_ret
      exact ⟨rfl, hb3'⟩
namespace ScanWrites
set_option maxRecDepth 100000 in
theorem contract (H : Type) (enc : TypeId × Value → H) (W : World) (base : Nat) (args : Array Value) (ds gs : List (DataW H)) (before : List MemPlace)
    (hval : ∀ (j : Nat) t v, Try.f17.params[j]? = some t → args[j]? = some v → Value.okWide Try.prog W .any base t v)
    (hW : DataW.Whole enc Try.prog Try.f17.params.toList Rows.scanWritesSpec.vars false W args.toList ds gs before) :
    Calls Try.prog 17 args W fun e W' => ∃ v, e = .returned v ∧ Rows.scanWritesSpec.post enc Try.prog Try.f17 false true false false W args v W' := by
  have hW' := hW
  obtain ⟨p, q, hA0, hV, rfl, hfz, hnd⟩ := hW
  have hA : DataW.TrodAll enc Try.prog W 0 (fun _ => true) true Try.f17.params.toList args.toList ds p := hA0
  rw [Try.params17] at hA hval
  clear hA0
  obtain ⟨v0, vs0, d0, ds0, p0, q0, hargs, rfl, rfl, h0, r0⟩ := trodAll_cons hA
  obtain ⟨v1, vs1, d1, ds1, p1, q1, rfl, rfl, rfl, h1, r1⟩ := trodAll_cons r0
  obtain ⟨v2, vs2, d2, ds2, p2, q2, rfl, rfl, rfl, h2, r2⟩ := trodAll_cons r1
  obtain ⟨rfl, rfl, rfl⟩ := trodAll_nil r2
  obtain rfl : args = #[v0, v1, v2] := by cases args; simp_all
  obtain ⟨rfl, rfl⟩ := trodVars_none hV
  obtain ⟨Ax0, nx0, cx0, rfl⟩ := okWide_slice Try.underlying22 (hval 0 _ _ rfl rfl)
  obtain ⟨fu0, hf0⟩ := h0
  obtain ⟨A', n', c', x0, ev0, hnx0, hcx0, hmx0, hQx0, hRx0⟩ := open_rows (m := 4) (Q := P4) Try.underlying22 (by kernel_rfl) (by omega) (fun _ _ _ hl hy => piece_p4b hl hy) hf0
  injection ev0 with ea eb ec
  subst ea eb ec
  obtain ⟨l1, rfl, hl1, n1, hf1⟩ := open_str Try.underlying86 (hval 1 _ _ rfl rfl) h1
  rw [show Try.prog.cellsOf 86 = 17 by kernel_rfl] at hl1
  obtain ⟨y1_0, hy1_0⟩ := hf1 0 _ rfl
  replace hy1_0 : DataW.trod enc Try.prog W 0 (fun _ => true) true n1 84 ((l1.drop 0).take 16) = some y1_0 := by have h : DataW.trod enc Try.prog W 0 (fun _ => true) true n1 84 ((l1.drop 0).take (Try.prog.cellsOf 84)) = some y1_0 := hy1_0; rw [show Try.prog.cellsOf 84 = 16 by kernel_rfl] at h; exact h
  obtain ⟨x1, ex1, hlx1, hIx1⟩ := arr_ints Try.underlying84 Try.underlying3 (by kernel_rfl) (by kernel_rfl) hy1_0
  obtain ⟨y1_1, hy1_1⟩ := hf1 1 _ rfl
  replace hy1_1 : DataW.trod enc Try.prog W 0 (fun _ => true) true n1 79 ((l1.drop 16).take 1) = some y1_1 := by have h : DataW.trod enc Try.prog W 0 (fun _ => true) true n1 79 ((l1.drop 16).take (Try.prog.cellsOf 79)) = some y1_1 := hy1_1; rw [show Try.prog.cellsOf 79 = 1 by kernel_rfl] at h; exact h
  obtain ⟨vx2, ex2⟩ := take_one (l := l1) (o := 16) (by omega)
  rw [ex2] at hy1_1
  obtain ⟨Ax2, nx2, cx2, x2, rfl, hnx2, hcx2, hmx2, hRx2, hwx2⟩ := open_rd Try.underlying79 Try.underlying5 (by kernel_rfl) hy1_1
  have e1 := show l1 = _ from parts_cons ex1 (parts_cons ex2 (parts_nil hl1))
  rw [e1] at hW' ⊢
  obtain ⟨l2, rfl, hl2, n2, hf2⟩ := open_str Try.underlying86 (hval 2 _ _ rfl rfl) h2
  rw [show Try.prog.cellsOf 86 = 17 by kernel_rfl] at hl2
  obtain ⟨y2_0, hy2_0⟩ := hf2 0 _ rfl
  replace hy2_0 : DataW.trod enc Try.prog W 0 (fun _ => true) true n2 84 ((l2.drop 0).take 16) = some y2_0 := by have h : DataW.trod enc Try.prog W 0 (fun _ => true) true n2 84 ((l2.drop 0).take (Try.prog.cellsOf 84)) = some y2_0 := hy2_0; rw [show Try.prog.cellsOf 84 = 16 by kernel_rfl] at h; exact h
  obtain ⟨x3, ex3, hlx3, hIx3⟩ := arr_ints Try.underlying84 Try.underlying3 (by kernel_rfl) (by kernel_rfl) hy2_0
  obtain ⟨y2_1, hy2_1⟩ := hf2 1 _ rfl
  replace hy2_1 : DataW.trod enc Try.prog W 0 (fun _ => true) true n2 79 ((l2.drop 16).take 1) = some y2_1 := by have h : DataW.trod enc Try.prog W 0 (fun _ => true) true n2 79 ((l2.drop 16).take (Try.prog.cellsOf 79)) = some y2_1 := hy2_1; rw [show Try.prog.cellsOf 79 = 1 by kernel_rfl] at h; exact h
  obtain ⟨vx4, ex4⟩ := take_one (l := l2) (o := 16) (by omega)
  rw [ex4] at hy2_1
  obtain ⟨Ax4, nx4, cx4, x4, rfl, hnx4, hcx4, hmx4, hRx4, hwx4⟩ := open_rd Try.underlying79 Try.underlying5 (by kernel_rfl) hy2_1
  have e2 := show l2 = _ from parts_cons ex3 (parts_cons ex4 (parts_nil hl2))
  rw [e2] at hW' ⊢
  refine (scanWrites_any W Ax0 nx0 cx0 x0 hnx0 hcx0 hmx0 hQx0 hRx0 x1 hlx1 hIx1 Ax2 nx2 cx2 x2 hnx2 hcx2 hmx2 hRx2 (wf_bs hwx2) x3 hlx3 hIx3 Ax4 nx4 cx4 x4 hnx4 hcx4 hmx4 hRx4 (wf_bs hwx4)).mono fun e W' ⟨he, hb⟩ => ?_
  subst he
  exact ⟨_, rfl, post_true Facts.laid hW' rfl rfl Try.underlying4 (by kernel_rfl) rfl hb⟩

set_option maxRecDepth 100000 in
theorem lifted (os : Os) (started : os.Started) (H : Type) (enc : TypeId × Value → H) :
    ReturnsInHanded {} Try.checked os 17 .any (Rows.scanWritesSpec.pre6 enc Try.prog Try.f17 Rows.scanWritesRow.domain false) (Rows.scanWritesSpec.post enc Try.prog Try.f17 false true false false) := by
  refine returnsInHanded_of_change (C := Try.checked) Facts.own started (by kernel_rfl) Try.func17
    (ChangeSpec.witness6 (enc := enc) (C := Try.checked) (os := os) false ⟨#[], #[.slice none 0 0, .agg #[.int .i64 0, .int .i64 0, .int .i64 0, .int .i64 0, .int .i64 0, .int .i64 0, .int .i64 0, .int .i64 0, .int .i64 0, .int .i64 0, .int .i64 0, .int .i64 0, .int .i64 0, .int .i64 0, .int .i64 0, .int .i64 0, .slice none 0 0], .agg #[.int .i64 0, .int .i64 0, .int .i64 0, .int .i64 0, .int .i64 0, .int .i64 0, .int .i64 0, .int .i64 0, .int .i64 0, .int .i64 0, .int .i64 0, .int .i64 0, .int .i64 0, .int .i64 0, .int .i64 0, .int .i64 0, .slice none 0 0]], []⟩ 8 (by kernel_rfl) (by kernel_rfl) (by kernel_rfl) (by kernel_rfl)) ?_
  intro W base args ds gs before hval hW _ _
  exact contract H enc W base args ds gs before hval hW

theorem k_wf : Rows.scanWritesRow.wf (OpenSpec.ofChange Rows.scanWritesSpec) = true := by kernel_rfl
theorem k_inp : (Rows.scanWritesRow.inPlace == Try.prog.inPlace 17) = true := by kernel_rfl
theorem k_unf : (Rows.scanWritesRow.unfollowed == Try.prog.unfollowed 17) = true := by kernel_rfl
theorem k_rec : (Rows.scanWritesRow.recurses == Try.prog.recurses 17) = true := by kernel_rfl
theorem k_nam : (Rows.scanWritesRow.named == Try.prog.varsNamed 17) = true := by kernel_rfl
theorem k_pk : (Rows.scanWritesRow.plainKeys == Try.prog.plainKeys) = true := (congrArg (fun x => Rows.scanWritesRow.plainKeys == x) Facts.plainKeys).trans (by kernel_rfl)
theorem k_lf : (Rows.scanWritesRow.lifted == Try.prog.liftsFinal) = true := (congrArg (fun x => Rows.scanWritesRow.lifted == x) Facts.liftsFinal).trans (by kernel_rfl)
theorem k_mk : (Try.prog.make == some Rows.scanWritesRow.make) = true := (congrArg (fun x => x == some Rows.scanWritesRow.make) Facts.make).trans (by kernel_rfl)
theorem k_par : (Try.f17.params.all (Try.prog.readableRec ·)) = true := by kernel_rfl
theorem k_maps : (Rows.scanWritesRow.maps == (Try.f17.params.toList ++ Rows.scanWritesSpec.plain.varTypes Try.prog).any (Try.prog.mapsRec ·)) = true := by kernel_rfl
theorem k_ifs : (Rows.scanWritesRow.ifaces == (Try.f17.params.toList ++ Rows.scanWritesSpec.plain.varTypes Try.prog).any (Try.prog.ifacesRec ·)) = true := by kernel_rfl
theorem k_lps : (Rows.scanWritesRow.loops == (Try.f17.params.toList ++ Rows.scanWritesSpec.plain.varTypes Try.prog).any (Try.prog.loopsFrom ·)) = true := by kernel_rfl
theorem k_wk : (Rows.scanWritesRow.wideKeys == (Try.f17.params.toList ++ Rows.scanWritesSpec.plain.varTypes Try.prog ++ Try.f17.resultTypes.toList).any (Try.prog.wideKeysFrom ·)) = true := by kernel_rfl
theorem k_vl : (Rows.scanWritesRow.veiled == (Try.f17.params.toList ++ Rows.scanWritesSpec.plain.varTypes Try.prog ++ Try.f17.resultTypes.toList).any (Try.prog.veiledRec ·)) = true := by kernel_rfl
theorem closed : joinedFacts Try.prog 17 Try.f17 Rows.scanWritesSpec Rows.scanWritesRow = true :=
  Facts.and_i (Facts.and_i (Facts.and_i (Facts.and_i (Facts.and_i (Facts.and_i (Facts.and_i (Facts.and_i (Facts.and_i (Facts.and_i (Facts.and_i (Facts.and_i (Facts.and_i (Facts.and_i (Facts.and_i (Facts.and_i (Facts.and_i (Facts.and_i (Facts.and_i (Facts.and_i (Facts.and_i (Facts.and_i (Facts.and_i (Facts.and_i (Facts.and_i (Facts.and_i (Facts.and_i (Facts.and_i (Facts.and_i (Facts.and_i (Facts.and_i
    k_wf Facts.laid) Facts.mapsRowed_) k_par) rfl) rfl) Facts.stops) rfl) Facts.stopKnobs) k_inp) k_unf) k_rec) k_nam) k_maps) k_ifs) (by kernel_rfl)) k_lps) k_wk) rfl) (by kernel_rfl)) (by kernel_rfl)) (by kernel_rfl)) k_pk) rfl) Facts.stopsHeard) Facts.mayEnter) k_lf) k_mk) (by kernel_rfl)) (by kernel_rfl)) k_vl) (by kernel_rfl)
theorem named : Try.prog.funcNamed Rows.scanWritesRow.func = some 17 := by kernel_rfl

theorem proved : Rows.ScanWritesSaid :=
  OpenClaim.holds_of_wide 17 Try.f17 rfl rfl rfl rfl rfl rfl rfl ⟨rfl, rfl, rfl, rfl, rfl⟩ rfl rfl rfl rfl rfl named Try.func17 closed
    (of_decide_eq_true (by kernel_rfl)) (by unfold Func.isWrapper; first | (rw [if_pos (by decide +kernel)]; kernel_rfl) | (rw [if_neg (by decide +kernel)]; exact ⟨rfl, rfl⟩))
    (fun os started H enc _ => lifted os started H enc)
end ScanWrites
#print axioms ScanWrites.proved
end Go.Proofs.Ytlhappecjjbopaa
