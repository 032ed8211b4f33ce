/-
  ScanBack: blocks come back from their pieces, by any books that have their symbols. No condition.
-/
import Derived.Test.YtlhappecjjbopaaScU
import Derived.Test.YtlhappecjjbopaaScT
import Derived.Test.YtlhappecjjbopaaScQ
import Derived.Test.YtlhappecjjbopaaScM
import Derived.Test.YtlhappecjjbopaaCbAll
namespace Go.Proofs.Ytlhappecjjbopaa
open Go.ChangeShapes Go.WideShapes Go.ChangeAt Go.WideMaps Go.WideElems Go.RowKit Go.Joins
set_option linter.unusedVariables false
set_option maxRecDepth 100000

theorem info_blk : (Try.prog.info? 70).map (fun i => (i.zero, i.size, i.bytes)) = some (some (.agg #[.int .i64 0, .int .i64 0, .int .i64 0, .int .i64 0, .int .i64 0, .int .i64 0, .int .i64 0, .int .i64 0, .int .i64 0, .int .i64 0, .int .i64 0, .int .i64 0, .int .i64 0, .int .i64 0, .int .i64 0, .int .i64 0, .int .i64 0, .int .i64 0, .int .i64 0, .int .i64 0, .int .i64 0, .int .i64 0, .int .i64 0, .int .i64 0, .int .i64 0, .int .i64 0, .int .i64 0, .int .i64 0, .int .i64 0, .int .i64 0, .int .i64 0, .int .i64 0, .int .i64 0, .int .i64 0, .int .i64 0, .int .i64 0, .int .i64 0, .int .i64 0, .int .i64 0, .int .i64 0, .int .i64 0, .int .i64 0, .int .i64 0, .int .i64 0, .int .i64 0, .int .i64 0, .int .i64 0, .int .i64 0, .int .i64 0, .int .i64 0, .int .i64 0, .int .i64 0, .int .i64 0, .int .i64 0, .int .i64 0, .int .i64 0, .int .i64 0, .int .i64 0, .int .i64 0, .int .i64 0, .int .i64 0, .int .i64 0, .int .i64 0, .int .i64 0]), 64, 512) := by kernel_rfl
theorem info_blk2 : ∃ i z, Try.prog.info? 70 = some i ∧ i.zero = some z ∧ i.size = 64 ∧ i.bytes = 512 ∧ z.cells.size = 64 := by
  obtain ⟨i, h1, h2, h3, h4⟩ := info_parts info_blk
  exact ⟨i, _, h1, h2, h3, h4, by kernel_rfl⟩
/-- the first loop: the good blocks so far, and the bits of their pieces -/
def SbP (n : Nat) (ls1 C1 ls2 C2 : List Int) (ahead : Int) (gB wp : Nat) (w9 : World) (last gv ix : Value) (wr : World) : Prop :=
  ∃ (G : List (List Int)) (v : Value) (i : Nat), i ≤ n ∧ G.length ≤ i ∧ last = .int .i64 (lastG ahead G) ∧ ix = .int .i64 i ∧ goodF ahead G ∧ wr.ownsRow gB 70 64 gv G.length (G.map iv).flatten ∧
    Wr wr wp true v (bitsF ls1 C1 ls2 C2 ahead G) ∧ (∀ k, v.ownBlock = some k → wp ≤ k ∧ gv.ownBlock ≠ some k) ∧ Below wp w9 wr ∧ gB ≤ wr.heap.size

/-- the second loop: so many blocks are read -/
def SbR (G : List (List Int)) (ls1 C1 ls2 C2 : List Int) (ahead : Int) (rp : Nat) (A : Option Addr) (c : Nat) (Bs : List Int) (w9 : World) (last ix : Value) (wr : World) : Prop :=
  ∃ j : Nat, j ≤ G.length ∧ last = .int .i64 (lastG ahead (G.take j)) ∧ ix = .int .i64 j ∧ Re wr rp true A c Bs (bitsF ls1 C1 ls2 C2 ahead (G.take j)).length ∧ Below rp w9 wr
theorem goodF_last {ahead : Int} {G : List (List Int)} (h : goodF ahead G) {j : Nat} (hj : j < G.length) : DcB (lastG ahead (G.take j)) := (goodF_at h hj).2.2

set_option maxHeartbeats 16000000 in
theorem scanBack_any (w : World) (A : Option Addr) (n c : Nat) (rows : List (List Value)) (hn : rows.length = n) (hcc : n ≤ c) (hmm : c ≤ 9223372036854775807) (hrows : ∀ r ∈ rows, r.length = 64 ∧ IvN 64 r) (hR : Rd w w.heap.size A rows.flatten)
    (ahead : Int) (ha : -9223372036854775808 ≤ ahead ∧ ahead ≤ 9223372036854775807) (sh : Int) (hs : -9223372036854775808 ≤ sh ∧ sh ≤ 9223372036854775807) :
    Calls Try.prog 19 #[.slice A n c, .int .i64 ahead, .int .i64 sh] w (ReadsP w) := by
  obtain ⟨ha1, ha2⟩ := ha
  obtain ⟨hs1, hs2⟩ := hs
  obtain ⟨G0, rfl, hG0⟩ := rows_ivs rows hrows
  have hgl : G0.length = n := by rw [← hn, List.length_map]
  have HGL := Lib.hid hgl
  have HG0 := Lib.hid hG0
  clear hrows hn hgl hG0
  go_enter Try.func19, Try.ntmps19
  go_wp2_with fail
  refine (alive21_any w).mono ?_; rintro e w1 ⟨rfl, hb1⟩
  have hs1 := hb1.size
  by_cases h30 : 30 < n
  · have d1 : decide ((30 : Int) < (n : Int)) = true := decide_eq_true (by omega)
    go_wp2
    go_ret
    exact ⟨rfl, hb1⟩
  have d1 : decide ((30 : Int) < (n : Int)) = false := decide_eq_false (by omega)
  go_wp2_with fail
  refine (flat12_any sh w1).mono ?_; rintro e w2 ⟨m1, cf1, hm1, rfl, ho1, hb2⟩
  have hb2' := hb1.trans (hb2.mono hs1)
  obtain ⟨Af1, cf1', hv1, hnc1, hcm1, hRf1⟩ := own_sliceN ho1
  cases hv1
  go_wp2_with fail
  refine (newBookL_any _ 12 _ (flatL 12 4 m1) w2 (flatL_len 12 4 m1) hRf1 (flat_is (flat_fm.1 m1 hm1))).mono ?_; rintro e w3 ⟨h1, -, hb3⟩
  obtain ⟨p1, C1, rfl, hBk1, hCd1⟩ := h1 (flat_fm.1 m1 hm1)
  have hs2 := hb2'.size
  have hb3' := hb2'.trans (hb3.mono hs2)
  have hs3 := hb3'.size
  clear ho1 hRf1 h1
  go_wp2_with fail
  refine (flat256_any sh w3).mono ?_; rintro e w4 ⟨m2, cf2, hm2, rfl, ho2, hb4⟩
  have hb4' := hb3'.trans (hb4.mono hs3)
  have hs4 := hb4'.size
  obtain ⟨Af2, cf2', hv2, hnc2, hcm2, hRf2⟩ := own_sliceN ho2
  cases hv2
  go_wp2_with fail
  refine (newBookL_any _ 256 _ (flatL 256 8 m2) w4 (flatL_len 256 8 m2) hRf2 (flat_is (flat_fm.2 m2 hm2))).mono ?_; rintro e w5 ⟨h2, -, hb5⟩
  obtain ⟨p2, C2, rfl, hBk2, hCd2⟩ := h2 (flat_fm.2 m2 hm2)
  have hb5' := hb4'.trans (hb5.mono hs4)
  have hs5 := hb5'.size
  have hK1 := BkS.of ((BkS.of hBk1.bk).keep (hb4.trans (hb5.mono hb4.size))).get
  have hK2 := BkS.of hBk2.bk
  clear ho2 hRf2 h2 hBk1 hBk2
  have hH1 := Lib.hid (flat_has (flat_fm.1 m1 hm1) hCd1)
  have hH2 := Lib.hid (flat_has (flat_fm.2 m2 hm2) hCd2)
  have hs45 := hb5.size
  go_wp2_with fail
  refine (newWriter_any true w5).mono ?_; rintro e w6 ⟨rfl, hW6, hb6⟩
  have hb6' := hb5'.trans (hb6.mono hs5)
  have hs6 := hb6'.size
  have hK1' := hK1.keep (hb6.mono hK1.size)
  have hK2' := hK2.keep hb6
  have hwp6 : w5.heap.size < w6.heap.size := hW6.blk.lt
  have hb56 := hb6
  have hR5 := (hR.below hb5').more hs5
  clear hK1 hK2 hb6 hb1 hb2 hb3 hb4 hb5 hb2' hb3' hb4' hCd1 hCd2 hs1 hs2 hs3 hs4 hR
  generalize flatL 12 4 m1 = ls1 at *
  generalize flatL 256 8 m2 = ls2 at *
  have hL0 : (w6.alloc (.cells #[] 70)).ownsRow w6.heap.size 70 64 (.slice (some ⟨w6.heap.size, 0, none⟩) 0 0) 0 [] := World.ownsRow_made w6 #[] 0 (Nat.le_refl _) (by unfold maxLen; omega) (by simp)
  have hbl0 : Below w6.heap.size w6 (w6.alloc (.cells #[] 70)) := (Below.refl _ _).alloc (Nat.le_refl _) _
  go_wp2_with fail
  go_loopw [12, 13, 51] (SbP n ls1 C1 ls2 C2 ahead w6.heap.size w5.heap.size w6) (fun _ _ ix _ => n - (intOf ix).toNat)
  case atStart => exact ⟨[], .slice none 0 0, 0, Nat.zero_le _, Nat.le_refl _, rfl, rfl, trivial, hL0, hW6.below hbl0, fun k hk => by simp [Value.ownBlock] at hk, hbl0.mono (by omega), hbl0.size⟩
  case round =>
    obtain ⟨G, v, i, hi, hGi, rfl, rfl, hgd, hrow, hW, hvb, hb, hgB⟩ := hrel
    clear hL0 hbl0 hW6
    obtain ⟨wi, rfl⟩ : ∃ wi : World, wi = wr := ⟨_, rfl⟩
    obtain ⟨Av, cv, hve, _⟩ := own_sliceN hrow
    subst hve
    by_cases hlt : i < n
    · have dl : decide (i < n) = true := decide_eq_true hlt
      obtain ⟨x, hx⟩ : ∃ x, G0[i]? = some x := ⟨G0[i]'(by rw [HGL.out]; exact hlt), List.getElem?_eq_getElem _⟩
      obtain ⟨hx64, hxI⟩ := HG0.out x (List.mem_of_getElem? hx)
      have HXL := Lib.hid hx64
      have hbi := hb56.trans hb
      have hsi := hbi.size
      have hRi := (hR5.below hbi).more hsi
      have hlen : ∀ r ∈ G0.map iv, r.length = 64 := fun r hr => by
        obtain ⟨y, hy, rfl⟩ := List.mem_map.1 hr
        rw [iv_len]; exact (HG0.out y hy).1
      have hget : ∀ j u, (iv x)[j]? = some u → (G0.map iv).flatten[i * 64 + j]? = some u := fun j u hu => flatten_get _ hlen i j (iv x) u (by rw [List.getElem?_map, hx]; rfl) hu
      have hpl : i * 64 < (G0.map iv).flatten.length := by
        have := hget 0 _ (List.getElem?_eq_getElem (by rw [iv_len, hx64]; decide))
        exact (List.getElem?_eq_some_iff.1 this).1
      obtain ⟨b1, o1, rfl, _, hcr⟩ := hRi.at_ hpl
      have hrg : wi.rangeAt b1 (o1 + i * 64) (iv x) := fun j u hu => by rw [Nat.add_assoc]; exact hcr _ _ (hget j u hu)
      have hal : ∀ W : World, W.alloc (.cells #[.int .i64 0, .int .i64 0, .int .i64 0, .int .i64 0, .int .i64 0, .int .i64 0, .int .i64 0, .int .i64 0, .int .i64 0, .int .i64 0, .int .i64 0, .int .i64 0, .int .i64 0, .int .i64 0, .int .i64 0, .int .i64 0, .int .i64 0, .int .i64 0, .int .i64 0, .int .i64 0, .int .i64 0, .int .i64 0, .int .i64 0, .int .i64 0, .int .i64 0, .int .i64 0, .int .i64 0, .int .i64 0, .int .i64 0, .int .i64 0, .int .i64 0, .int .i64 0, .int .i64 0, .int .i64 0, .int .i64 0, .int .i64 0, .int .i64 0, .int .i64 0, .int .i64 0, .int .i64 0, .int .i64 0, .int .i64 0, .int .i64 0, .int .i64 0, .int .i64 0, .int .i64 0, .int .i64 0, .int .i64 0, .int .i64 0, .int .i64 0, .int .i64 0, .int .i64 0, .int .i64 0, .int .i64 0, .int .i64 0, .int .i64 0, .int .i64 0, .int .i64 0, .int .i64 0, .int .i64 0, .int .i64 0, .int .i64 0, .int .i64 0, .int .i64 0] 70) = W.alloc (.cells (iv z64).toArray 70) := fun _ => rfl
      obtain ⟨XG, hbG⟩ := Bln.copy wi 70 (iv z64) (iv x) (by rw [iv_len, iv_len, hx64]; rfl)
      have hth : (wi.alloc (.cells (iv z64).toArray 70)).there wi.heap.size 0 (iv x).toArray.size := by
        have h := (Nb.new wi).there x hx64
        simpa using h
      have hone := one_iv x
      have hsz : (iv x).toArray.size = 64 := (iv_len x).trans hx64
      have HSZ := Lib.hid hsz
      have hi0' : (0 : Int) ≤ (i : Int) := by omega
      have hi1' : (i : Int) < (n : Int) := by omega
      clear hsz hlen hget hpl hcr hx64 hRi
      go_upto_region 15 with (first | refine wpList_load_mid rfl 70 (.tmp 53) rfl _ _ rfl (iv x) _ hrg Try.underlying70 rfl (by rw [iv_len, HXL.out]; kernel_rfl) ?_ | refine wpList_store_mid rfl 70 (.tmp 15) (.tmp 54) rfl _ _ (iv x).toArray rfl rfl hth (by rw [HSZ.out]; kernel_rfl) (all_oneCell_toArray hone) ?_)
      have hvx := fun k hk => (hW.own.lt k hk).2
      have hvg := fun k hk => (hrow.lt k hk).2
      have hrow1 := own_keepN hrow hbG
      have hW1 := hW.below hbG
      have hs5i : w5.heap.size ≤ wi.heap.size := by have := hb.size; omega
      have hbj := hb.trans (hbG.mono hs5i)
      have hgj : w6.heap.size ≤ wi.heap.size := hb.size
      generalize (wi.alloc (.cells (iv z64).toArray 70)).setCells wi.heap.size 0 (iv x) = wj at *
      generalize wi.heap.size = gx at *
      have hgx : gx < wj.heap.size := XG.lt
      clear hbG hth hrg hal hrow hW hb hbi
      have hrx := XG.range 0 (iv x) (fun j v hv => by rw [Nat.zero_add]; exact hv)
      go_wp2_with (refine wpList_load_mid rfl 70 (.tmp 15) rfl _ _ rfl (iv x) _ hrx Try.underlying70 rfl (by rw [iv_len, HXL.out]; kernel_rfl) ?_)
      refine (pieces_any x HXL.out hxI _ wj).mono ?_; rintro e wk ⟨hy, hne, hbk⟩
      have XGk := XG.below hbk
      have hrowk := own_keepN hrow1 hbk
      have hWk := hW1.below hbk
      have hs5j : w5.heap.size ≤ wj.heap.size := by omega
      have hbk' := hbj.trans (hbk.mono hs5j)
      have hsk := hbk.size
      clear XG hrow1 hW1 hbj hrx
      by_cases hg : GoodB x ∧ DcB (lastG ahead G)
      · obtain ⟨pv, rfl, hps⟩ := hy hg
        unfold PcS at hps
        have hpl := hps.lt
        obtain ⟨Ap, cp, hpe, _, _, hRp⟩ := own_sliceN hps
        subst hpe
        have HG := Lib.hid hg
        clear hy hne hg
        go_wp2_with fail
        have hbk1 : BkO wk w5.heap.size (some p1) ls1 (ordU ls1 16) C1 := .inr ⟨p1, rfl, hK1'.keep hbk', hH1.out.ord, hH1.out.vl⟩
        have hbk2 : BkO wk w5.heap.size (some p2) ls2 (ordU ls2 16) C2 := .inr ⟨p2, rfl, hK2'.keep hbk', hH2.out.ord, hH2.out.vl⟩
        have hgl := bitsF_len (C1 := C1) (C2 := C2) hH1.out hH2.out G ahead hgd
        have hvl := fun k hk => (hWk.own.lt k hk).2
        refine (scanWrite_any hbk1 hH1.out.all hH1.out.vl hbk2 hH2.out.all hH2.out.vl (by omega) (Nat.le_refl _) (fun k hk => (hvb k hk).1) hWk (n := (pcs x (lastG ahead G)).length) (l := pcs x (lastG ahead G)) rfl hRp (fun a ha => by
          have h1 := (hpl a.block (by rw [ha]; rfl)).1
          exact ⟨fun e => by omega, fun e => by have := hvx _ e; omega⟩) (pcs_pib x _) (by have := pcs_len x (lastG ahead G); omega) (by omega)).mono ?_; rintro e wl ⟨he, v9, hWl, hTl⟩
        have hgq := goodQ_all (okQ_pcs (C1 := C1) (C2 := C2) hH1.out hH2.out HG.out.1 HG.out.2)
        rw [hgq] at hWl
        rw [if_pos hgq] at he
        subst he
        have hwk := hrowk.lt
        have hrowl := hTl.fr.ownN hrowk (fun k hk h => by
          rcases h with h | h
          · have := (hwk k hk).1; omega
          · exact (hvb k h).2 hk)
        have XGl := XGk.keep hTl.fr (fun h => by
          rcases h with h | h
          · omega
          · have := hvx _ h; omega)
        have hbl := hTl.below (B := w5.heap.size) (Nat.le_refl _) (fun k hk => (hvb k hk).1) (by omega)
        have hbl' := hbk'.trans hbl
        clear hgq hbk1 hbk2 hps hpl hRp
        have hrxl := XGl.range 0 (iv x) (fun j v hv => by rw [Nat.zero_add]; exact hv)
        go_wp2_with (first | refine wpList_load_mid rfl 70 (.tmp 15) rfl _ _ rfl (iv x) _ hrxl Try.underlying70 rfl (by rw [iv_len, HXL.out]; kernel_rfl) ?roundEnd)
        case roundEnd =>
          have hfo : List.foldl (fun (cs : Array Value) (x : Value × Nat) => cs.setIfInBounds x.2 x.1) #[.int .i64 0, .int .i64 0, .int .i64 0, .int .i64 0, .int .i64 0, .int .i64 0, .int .i64 0, .int .i64 0, .int .i64 0, .int .i64 0, .int .i64 0, .int .i64 0, .int .i64 0, .int .i64 0, .int .i64 0, .int .i64 0, .int .i64 0, .int .i64 0, .int .i64 0, .int .i64 0, .int .i64 0, .int .i64 0, .int .i64 0, .int .i64 0, .int .i64 0, .int .i64 0, .int .i64 0, .int .i64 0, .int .i64 0, .int .i64 0, .int .i64 0, .int .i64 0, .int .i64 0, .int .i64 0, .int .i64 0, .int .i64 0, .int .i64 0, .int .i64 0, .int .i64 0, .int .i64 0, .int .i64 0, .int .i64 0, .int .i64 0, .int .i64 0, .int .i64 0, .int .i64 0, .int .i64 0, .int .i64 0, .int .i64 0, .int .i64 0, .int .i64 0, .int .i64 0, .int .i64 0, .int .i64 0, .int .i64 0, .int .i64 0, .int .i64 0, .int .i64 0, .int .i64 0, .int .i64 0, .int .i64 0, .int .i64 0, .int .i64 0, .int .i64 0] (iv x).zipIdx = (iv x).toArray := fold_all _ _ (by rw [iv_len, HXL.out]; rfl)
          have hivl : (iv x).length = 64 := by rw [iv_len, HXL.out]
          obtain ⟨j0, zb, hj0, hy0, hy1, hy2, hy3⟩ := info_blk2
          have hbb : Below wl.heap.size wl (wl.alloc (.cells (iv x).toArray 70)) := (Below.refl _ _).alloc (Nat.le_refl _) _
          have hoa := own_keepN hrowl hbb
          have hsza : w6.heap.size ≤ (wl.alloc (.cells (iv x).toArray 70)).heap.size := by have := hbb.size; have := hTl.fr.size; omega
          have hone2 := one_iv x
          go_upto_region 20 with (at_builtin; refine wpList_appN _ rfl (.tmp 69) (.tmp 71) 105 rfl Try.underlying105 hj0 hy0 hy1 hy2 hy3 (by omega) hoa rfl rfl (Rd.newN wl 70 (iv x)) (by rw [hivl]) hone2 (by omega) (by omega) hsza ?_; intro v7 w7 hown7 hap7)
          have XG7 := (XGl.below hbb).keep hap7.fr (fun e => by have := hvg _ e; omega)
          have hx0 := XG7.cell (i := 0) (ivs_get (by rw [HXL.out]; omega))
          have hW7 := (hWl.below hbb).keep hap7.fr (fun e => by
            have := (hoa.lt _ e).1
            omega) (fun k hk e => by
            have h1 := hwk k e
            rcases hTl.row k hk with h2 | h2
            · exact (hvb k h2).2 e
            · omega)
          have hv7 : ∀ k, v9.ownBlock = some k → w5.heap.size ≤ k ∧ v7.ownBlock ≠ some k := fun k hk => by
            have h0 := (hWl.own.lt k hk).2
            refine ⟨?_, fun e => ?_⟩
            · rcases hTl.row k hk with h2 | h2
              · exact (hvb k h2).1
              · omega
            · rcases hap7.row k e with h1 | h1
              · rcases hTl.row k hk with h2 | h2
                · exact (hvb k h2).2 h1
                · have := (hwk k h1).2; omega
              · have := hbb.size; omega
          have hb7 := hbl'.trans ((hbb.mono (by have := hbl'.size; omega)).trans (hap7.below (fun k hk => by have := (hoa.lt k hk).1; omega) (by omega)))
          have hs7 := hap7.fr.size
          generalize hxq : x.getD 0 0 = x0 at hx0
          have HXQ := Lib.hid hxq
          have H7 := Lib.hid (And.intro hown7 (And.intro hW7 (And.intro hv7 (And.intro hb7 hgd))))
          clear hxq hown7 hW7 hv7 hb7 hoa hbb hfo XG7 XGl hrxl
          go_wp2
          go_roundw
          case rel =>
            obtain ⟨hown7, hW7, hv7, hb7, hgd7⟩ := H7.out
            refine ⟨G ++ [x], v9, i + 1, by omega, by rw [List.length_append]; simp only [List.length_cons, List.length_nil]; omega, by rw [lastG_app, HXQ.out], by go_num, goodF_app hgd7 HXL.out HG.out.1 HG.out.2, ?_, ?_, hv7, hb7, by omega⟩
            · rw [List.length_append, List.map_append, List.flatten_append]
              simpa using hown7
            · rw [bitsF_app, bitsF_one]; exact hW7
          case measure => simp [intOf]; omega
      · obtain rfl := hne hg
        clear hy hne hg
        unfold errV
        go_wp2
        go_roundw
        case rel => exact ⟨G, v, i + 1, by omega, by omega, rfl, by go_num, hgd, hrowk, hWk, hvb, hbk', by omega⟩
        case measure => simp [intOf]; omega
    · have dl : decide (i < n) = false := decide_eq_false hlt
      have hgl := bitsF_len (C1 := C1) (C2 := C2) hH1.out hH2.out G ahead hgd
      have hGL : G.length ≤ 30 := by omega
      have hLL : (bitsF ls1 C1 ls2 C2 ahead G).length ≤ 62400 := by omega
      obtain ⟨L, hLq⟩ : ∃ L, L = bitsF ls1 C1 ls2 C2 ahead G := ⟨_, rfl⟩
      rw [← hLq] at hW hLL
      have HLQ := Lib.hid hLq
      have hL01 : B01 L := by rw [hLq]; exact bitsF_01 _ _ _ _ _ _
      have HL01 := Lib.hid hL01
      have hsi := hb.size
      clear hgl hLq hL01
      go_wp2_with fail
      refine (bytes_any w5.heap.size true v L wi hW (by omega)).mono ?_; rintro e w7 ⟨v7, rfl, ho7, hb7⟩
      have hs7 := hb7.size
      obtain ⟨A7, c7, hv7, hR7⟩ := own_slice ho7
      subst hv7
      have hnb : nby L.length ≤ 68719476736 := by unfold nby; omega
      have hpl : (pack true (full true L)).length = nby L.length := by rw [pack_len, full_len]; unfold nby; omega
      have HPL := Lib.hid hpl
      clear hpl
      go_wp2_with fail
      refine (newReader_any A7 (nby L.length) c7 true (pack true (full true L)) w7 HPL.out hR7 (pack_bs (full_01 HL01.out)) hnb).mono ?_; rintro e w8 ⟨rp, Ar, cr, rfl, hRe, hrp, hAr, hb8⟩
      have hs8 := hb8.size
      have hrl := hRe.lt
      have hb78 : Below wi.heap.size wi w8 := hb7.trans (hb8.mono hs7)
      have hrow8 := own_keepN hrow hb78
      have hW8 := hW.below hb78
      have hvl := fun k hk => (hW.own.lt k hk).2
      have hrwl := fun k hk => (hrow.lt k hk).2
      have hb8' := hb.trans (hb78.mono (by omega))
      have hK1'' := hK1'.keep hb8'
      have hK2'' := hK2'.keep hb8'
      have hb08 := hb6'.trans ((hb.mono (by omega)).trans (hb78.mono (by omega)))
      have hbk : Blk w8 Av G.length G := by
        obtain ⟨A', c', he, _, _, hR'⟩ := own_sliceN hrow8
        injection he with he1
        subst he1
        exact ⟨rfl, hR', fun x hx => by
          obtain ⟨j, hj, rfl⟩ := List.mem_iff_getElem.1 hx
          have h1 := goodF_at hgd hj
          have h2 : G.getD j [] = G[j] := by rw [List.getD_eq_getElem?_getD, List.getElem?_eq_getElem hj]; rfl
          rw [h2] at h1
          exact ⟨h1.1, goodB_is h1.1 h1.2.1⟩⟩
      have HG := Lib.hid hgd
      have HBK := Lib.hid hbk
      have HW8 := Lib.hid hW8
      have hbp : bitsOf true (pack true (full true L)) = bitsF ls1 C1 ls2 C2 ahead G ++ List.replicate (pad L.length) (fill1 true) := by
        rw [bitsOf_pack true (nby L.length) _ (full_01 HL01.out) (full_len true L)]
        unfold full
        rw [← HLQ.out]
      have HBP := Lib.hid hbp
      have hpm : (pack true (full true L)).length ≤ 68719476736 := by rw [HPL.out]; exact hnb
      obtain ⟨Pk, hPk⟩ : ∃ P, P = pack true (full true L) := ⟨_, rfl⟩
      rw [← hPk] at hRe hpm HBP
      have hArp : ∀ a, Ar = some a → a.block < rp := fun a ha => (hAr a ha).2
      have HAR := Lib.hid hArp
      clear hgd hbk hW hrow hrow8 hb78 hb7 hb8 hb ho7 hR7 hAr hArp hPk hbp hvb hW8 hR5 hb56
      go_wp2
      go_loopw [12, 82] (SbR G ls1 C1 ls2 C2 ahead rp Ar cr Pk w8) (fun _ ix _ => G.length - (intOf ix).toNat)
      case atStart => exact ⟨0, Nat.zero_le _, rfl, rfl, hRe, Below.refl _ _⟩
      case round =>
        obtain ⟨j, hj, rfl, rfl, hRe', hbr⟩ := hrel
        obtain ⟨wa, rfl⟩ : ∃ wa : World, wa = wr := ⟨_, rfl⟩
        clear hRe
        by_cases hjl : j < G.length
        · have djl : decide (j < G.length) = true := decide_eq_true hjl
          obtain ⟨x, b1, o1, hx, hxm, hx64, hxI, hAv, hb1, hrg0⟩ := HBK.out.at_ hjl
          have hb1r : b1 < rp := by
            have := hrwl b1 (by rw [hAv]; rfl)
            omega
          have hrg : wa.rangeAt b1 (o1 + j * 64) (iv x) := fun i u hu => (hbr.cell (p := ⟨b1, o1 + j * 64 + i, none⟩) hb1r).trans (hrg0 i u hu)
          have hal : ∀ W : World, W.alloc (.cells #[.int .i64 0, .int .i64 0, .int .i64 0, .int .i64 0, .int .i64 0, .int .i64 0, .int .i64 0, .int .i64 0, .int .i64 0, .int .i64 0, .int .i64 0, .int .i64 0, .int .i64 0, .int .i64 0, .int .i64 0, .int .i64 0, .int .i64 0, .int .i64 0, .int .i64 0, .int .i64 0, .int .i64 0, .int .i64 0, .int .i64 0, .int .i64 0, .int .i64 0, .int .i64 0, .int .i64 0, .int .i64 0, .int .i64 0, .int .i64 0, .int .i64 0, .int .i64 0, .int .i64 0, .int .i64 0, .int .i64 0, .int .i64 0, .int .i64 0, .int .i64 0, .int .i64 0, .int .i64 0, .int .i64 0, .int .i64 0, .int .i64 0, .int .i64 0, .int .i64 0, .int .i64 0, .int .i64 0, .int .i64 0, .int .i64 0, .int .i64 0, .int .i64 0, .int .i64 0, .int .i64 0, .int .i64 0, .int .i64 0, .int .i64 0, .int .i64 0, .int .i64 0, .int .i64 0, .int .i64 0, .int .i64 0, .int .i64 0, .int .i64 0, .int .i64 0] 70) = W.alloc (.cells (iv z64).toArray 70) := fun _ => rfl
          have HXL := Lib.hid hx64
          have hgx : G.getD j [] = x := by rw [List.getD_eq_getElem?_getD, hx]; rfl
          have hbk1 : BkS wa w5.heap.size p1 ls1 (ordU ls1 16) C1 := hK1''.keep (hbr.mono (by omega))
          have hbk2 : BkS wa w5.heap.size p2 ls2 (ordU ls2 16) C2 := hK2''.keep (hbr.mono (by omega))
          have hlast := goodF_last HG.out hjl
          have hgood := goodF_at HG.out hjl
          obtain ⟨r', hat⟩ := bitsF_at ls1 C1 ls2 C2 ahead G (List.replicate (pad L.length) (fill1 true)) hjl
          have hnx := bitsF_next ls1 C1 ls2 C2 ahead G hjl
          have hln := lastG_next ahead G hjl
          rw [hgx] at hgood hat hnx hln
          have hb01 : B01 ((bitsOf true Pk).drop (bitsF ls1 C1 ls2 C2 ahead (G.take j)).length) := (bitsOf_01 _ _).drop _
          have hrd := rdB_pieces (b := (bitsOf true Pk).drop (bitsF ls1 C1 ls2 C2 ahead (G.take j)).length) hH1.out hH2.out hb01 hx64 hgood.2.1 hlast (by rw [HBP.out]; exact hat)
          obtain ⟨XG, hbG⟩ := Bln.copy wa 70 (iv z64) (iv x) (by rw [iv_len, iv_len, hx64]; rfl)
          have hth : (wa.alloc (.cells (iv z64).toArray 70)).there wa.heap.size 0 (iv x).toArray.size := by
            have h := (Nb.new wa).there x hx64
            simpa using h
          have hone := one_iv x
          have hsz : (iv x).toArray.size = 64 := (iv_len x).trans hx64
          have HSZ := Lib.hid hsz
          have hi0' : (0 : Int) ≤ (j : Int) := by omega
          have hi1' : (j : Int) < (G.length : Int) := by omega
          have HRD := Lib.hid hrd
          have HLN := Lib.hid hln
          have HNX := Lib.hid hnx
          have hwl := hbr.size
          subst hAv
          clear hx hxm hx64 hxI hrg0 hgx hat hnx hln hb01 hrd hsz hgood
          go_upto_region 27 with (first | refine wpList_load_mid rfl 70 (.tmp 84) rfl _ _ rfl (iv x) _ hrg Try.underlying70 rfl (by rw [iv_len, HXL.out]; kernel_rfl) ?_ | refine wpList_store_mid rfl 70 (.tmp 20) (.tmp 85) rfl _ _ (iv x).toArray rfl rfl hth (by rw [HSZ.out]; kernel_rfl) (all_oneCell_toArray hone) ?_)
          have hReb := hRe'.below hbG
          have hbj := hbr.trans (hbG.mono (by omega))
          have hbk1 := hbk1.keep (hbG.mono (by omega))
          have hbk2 := hbk2.keep (hbG.mono (by omega))
          have hwj := hbG.size
          generalize (wa.alloc (.cells (iv z64).toArray 70)).setCells wa.heap.size 0 (iv x) = wj at *
          generalize wa.heap.size = gx at *
          have hgxr : gx ≠ rp := by omega
          clear hbG hth hrg hRe' hbr hal
          go_wp2_with fail
          refine (scanRead_any hbk1 hH1.out.ord hbk2 hH2.out.ord (by omega) (by omega) hReb HAR.out hpm _ hlast HRD.out).mono ?_; rintro e w10 ⟨m', rfl, hRe2, hm', hfp⟩
          have hm2 := hm' rfl
          have X10 := XG.keep hfp hgxr
          have hb10 := hbj.trans (hfp.below (B := rp) (Nat.le_refl _) (by omega))
          have hs10 := hfp.size
          dsimp only at *
          rw [errE_nil]
          have hal : ∀ W : World, W.alloc (.cells #[.int .i64 0, .int .i64 0, .int .i64 0, .int .i64 0, .int .i64 0, .int .i64 0, .int .i64 0, .int .i64 0, .int .i64 0, .int .i64 0, .int .i64 0, .int .i64 0, .int .i64 0, .int .i64 0, .int .i64 0, .int .i64 0, .int .i64 0, .int .i64 0, .int .i64 0, .int .i64 0, .int .i64 0, .int .i64 0, .int .i64 0, .int .i64 0, .int .i64 0, .int .i64 0, .int .i64 0, .int .i64 0, .int .i64 0, .int .i64 0, .int .i64 0, .int .i64 0, .int .i64 0, .int .i64 0, .int .i64 0, .int .i64 0, .int .i64 0, .int .i64 0, .int .i64 0, .int .i64 0, .int .i64 0, .int .i64 0, .int .i64 0, .int .i64 0, .int .i64 0, .int .i64 0, .int .i64 0, .int .i64 0, .int .i64 0, .int .i64 0, .int .i64 0, .int .i64 0, .int .i64 0, .int .i64 0, .int .i64 0, .int .i64 0, .int .i64 0, .int .i64 0, .int .i64 0, .int .i64 0, .int .i64 0, .int .i64 0, .int .i64 0, .int .i64 0] 70) = W.alloc (.cells (iv z64).toArray 70) := fun _ => rfl
          obtain ⟨XH, hbH⟩ := Bln.copy w10 70 (iv z64) (iv x) (by rw [iv_len, iv_len, HXL.out]; rfl)
          have hth : (w10.alloc (.cells (iv z64).toArray 70)).there w10.heap.size 0 (iv x).toArray.size := by
            have h := (Nb.new w10).there x HXL.out
            simpa using h
          clear hReb hbk1 hbk2 hm' hfp XG hbj
          go_upto_region 28 with (first | refine wpList_store_mid rfl 70 (.tmp 21) (.tmp 92) rfl _ _ (iv x).toArray rfl rfl hth (by rw [HSZ.out]; kernel_rfl) (all_oneCell_toArray hone) ?_)
          have X11 := X10.below hbH
          have hRe3 := hRe2.below hbH
          have hb11 := hb10.trans (hbH.mono (by omega))
          generalize (w10.alloc (.cells (iv z64).toArray 70)).setCells w10.heap.size 0 (iv x) = w11 at *
          have hrG := X11.range 0 (iv x) (fun j v hv => by rw [Nat.zero_add]; exact hv)
          have hrH := XH.range 0 (iv x) (fun j v hv => by rw [Nat.zero_add]; exact hv)
          have hx0 := X11.cell (i := 0) (ivs_get (by rw [HXL.out]; omega))
          rw [← HLN.out] at hx0
          rw [hm2, ← HNX.out] at hRe3
          clear hth hbH hal X10 hRe2 hb10
          go_wp2_with (first | refine wpList_load_midV (by rfl) 70 (.tmp 21) rfl _ _ rfl (iv x) _ hrH Try.underlying70 rfl (by rw [iv_len, HXL.out]; kernel_rfl) ?_ | refine wpList_load_midV (by rfl) 70 (.tmp 20) rfl _ _ rfl (iv x) _ hrG Try.underlying70 rfl (by rw [iv_len, HXL.out]; kernel_rfl) ?_ | refine wpList_neq_aggG (by rfl) 70 70 (.tmp 97) (.tmp 98) rfl _ _ rfl rfl eqG70 true (eq_blk1 x HXL.out _) ?_)
          go_roundw
          case rel => exact ⟨j + 1, by omega, rfl, by go_num, hRe3, hb11⟩
          case measure => simp [intOf]; omega
        · have djl : decide (j < G.length) = false := decide_eq_false hjl
          have hjG : G.take j = G := List.take_of_length_le (by omega)
          rw [hjG] at hRe' ⊢
          rw [← HLQ.out] at hRe'
          have hWa : Wr wa w5.heap.size true v L := by
            refine HW8.out.keep (S := fun k => rp ≤ k) ⟨hbr.os, hbr.tape, hbr.output, hbr.size, fun i hi hs => hbr.block i (by omega)⟩ (fun e => by omega) (fun k hk e => by have := hvl k hk; omega)
          have hbe := hb08.trans (hbr.mono (by omega))
          clear hbr
          go_wp2_with (first | (go_at_call 64; refine (at_any hRe').mono ?_; rintro e w' ⟨rfl, rfl⟩) | (go_at_call 66; refine (wlen_any _ _ _ _ _ hWa).mono ?_; rintro e w' ⟨rfl, rfl⟩))
          go_ret
          exact ⟨ret_bool (by simp), hbe⟩
namespace ScanBack
set_option maxRecDepth 100000 in
theorem contract (H : Type) (enc : TypeId × Value → H) (W : World) (base : Nat) (args : Array Value) (ds gs : List (DataW H)) (before : List MemPlace)
    (hval : ∀ (j : Nat) t v, Try.f19.params[j]? = some t → args[j]? = some v → Value.okWide Try.prog W .any base t v)
    (hW : DataW.Whole enc Try.prog Try.f19.params.toList Rows.scanBackSpec.vars false W args.toList ds gs before) :
    Calls Try.prog 19 args W fun e W' => ∃ v, e = .returned v ∧ Rows.scanBackSpec.post enc Try.prog Try.f19 false true false false W args v W' := by
  have hW' := hW
  obtain ⟨p, q, hA0, hV, rfl, hfz, hnd⟩ := hW
  have hA : DataW.TrodAll enc Try.prog W 0 (fun _ => true) true Try.f19.params.toList args.toList ds p := hA0
  rw [Try.params19] at hA hval
  clear hA0
  obtain ⟨v0, vs0, d0, ds0, p0, q0, hargs, rfl, rfl, h0, r0⟩ := trodAll_cons hA
  obtain ⟨v1, vs1, d1, ds1, p1, q1, rfl, rfl, rfl, h1, r1⟩ := trodAll_cons r0
  obtain ⟨v2, vs2, d2, ds2, p2, q2, rfl, rfl, rfl, h2, r2⟩ := trodAll_cons r1
  obtain ⟨rfl, rfl, rfl⟩ := trodAll_nil r2
  obtain rfl : args = #[v0, v1, v2] := by cases args; simp_all
  obtain ⟨rfl, rfl⟩ := trodVars_none hV
  obtain ⟨Ax0, nx0, cx0, rfl⟩ := okWide_slice Try.underlying105 (hval 0 _ _ rfl rfl)
  obtain ⟨fu0, hf0⟩ := h0
  obtain ⟨A', n', c', x0, ev0, hnx0, hcx0, hmx0, hQx0, hRx0⟩ := open_rows (m := 64) (Q := IvN 64) Try.underlying105 (by kernel_rfl) (by omega) (fun _ _ _ hl hy => blk_ivn hl hy) hf0
  injection ev0 with ea eb ec
  subst ea eb ec
  obtain ⟨x1, rfl, rfl, rfl, wx1⟩ := open_int Try.underlying3 (hval 1 _ _ rfl rfl) h1
  obtain ⟨x2, rfl, rfl, rfl, wx2⟩ := open_int Try.underlying3 (hval 2 _ _ rfl rfl) h2
  refine (scanBack_any W Ax0 nx0 cx0 x0 hnx0 hcx0 hmx0 hQx0 hRx0 x1 (wf_i wx1) x2 (wf_i wx2)).mono fun e W' ⟨he, hb⟩ => ?_
  subst he
  exact ⟨_, rfl, post_true Facts.laid hW' rfl rfl Try.underlying4 (by kernel_rfl) rfl hb⟩

set_option maxRecDepth 100000 in
theorem lifted (os : Os) (started : os.Started) (H : Type) (enc : TypeId × Value → H) :
    ReturnsInHanded {} Try.checked os 19 .any (Rows.scanBackSpec.pre6 enc Try.prog Try.f19 Rows.scanBackRow.domain false) (Rows.scanBackSpec.post enc Try.prog Try.f19 false true false false) := by
  refine returnsInHanded_of_change (C := Try.checked) Facts.own started (by kernel_rfl) Try.func19
    (ChangeSpec.witness6 (enc := enc) (C := Try.checked) (os := os) false ⟨#[], #[.slice none 0 0, .int .i64 0, .int .i64 0], []⟩ 8 (by kernel_rfl) (by kernel_rfl) (by kernel_rfl) (by kernel_rfl)) ?_
  intro W base args ds gs before hval hW _ _
  exact contract H enc W base args ds gs before hval hW

theorem k_wf : Rows.scanBackRow.wf (OpenSpec.ofChange Rows.scanBackSpec) = true := by kernel_rfl
theorem k_inp : (Rows.scanBackRow.inPlace == Try.prog.inPlace 19) = true := by kernel_rfl
theorem k_unf : (Rows.scanBackRow.unfollowed == Try.prog.unfollowed 19) = true := by kernel_rfl
theorem k_rec : (Rows.scanBackRow.recurses == Try.prog.recurses 19) = true := by kernel_rfl
theorem k_nam : (Rows.scanBackRow.named == Try.prog.varsNamed 19) = true := by kernel_rfl
theorem k_pk : (Rows.scanBackRow.plainKeys == Try.prog.plainKeys) = true := (congrArg (fun x => Rows.scanBackRow.plainKeys == x) Facts.plainKeys).trans (by kernel_rfl)
theorem k_lf : (Rows.scanBackRow.lifted == Try.prog.liftsFinal) = true := (congrArg (fun x => Rows.scanBackRow.lifted == x) Facts.liftsFinal).trans (by kernel_rfl)
theorem k_mk : (Try.prog.make == some Rows.scanBackRow.make) = true := (congrArg (fun x => x == some Rows.scanBackRow.make) Facts.make).trans (by kernel_rfl)
theorem k_par : (Try.f19.params.all (Try.prog.readableRec ·)) = true := by kernel_rfl
theorem k_maps : (Rows.scanBackRow.maps == (Try.f19.params.toList ++ Rows.scanBackSpec.plain.varTypes Try.prog).any (Try.prog.mapsRec ·)) = true := by kernel_rfl
theorem k_ifs : (Rows.scanBackRow.ifaces == (Try.f19.params.toList ++ Rows.scanBackSpec.plain.varTypes Try.prog).any (Try.prog.ifacesRec ·)) = true := by kernel_rfl
theorem k_lps : (Rows.scanBackRow.loops == (Try.f19.params.toList ++ Rows.scanBackSpec.plain.varTypes Try.prog).any (Try.prog.loopsFrom ·)) = true := by kernel_rfl
theorem k_wk : (Rows.scanBackRow.wideKeys == (Try.f19.params.toList ++ Rows.scanBackSpec.plain.varTypes Try.prog ++ Try.f19.resultTypes.toList).any (Try.prog.wideKeysFrom ·)) = true := by kernel_rfl
theorem k_vl : (Rows.scanBackRow.veiled == (Try.f19.params.toList ++ Rows.scanBackSpec.plain.varTypes Try.prog ++ Try.f19.resultTypes.toList).any (Try.prog.veiledRec ·)) = true := by kernel_rfl
theorem closed : joinedFacts Try.prog 19 Try.f19 Rows.scanBackSpec Rows.scanBackRow = true :=
  Facts.and_i (Facts.and_i (Facts.and_i (Facts.and_i (Facts.and_i (Facts.and_i (Facts.and_i (Facts.and_i (Facts.and_i (Facts.and_i (Facts.and_i (Facts.and_i (Facts.and_i (Facts.and_i (Facts.and_i (Facts.and_i (Facts.and_i (Facts.and_i (Facts.and_i (Facts.and_i (Facts.and_i (Facts.and_i (Facts.and_i (Facts.and_i (Facts.and_i (Facts.and_i (Facts.and_i (Facts.and_i (Facts.and_i (Facts.and_i (Facts.and_i
    k_wf Facts.laid) Facts.mapsRowed_) k_par) rfl) rfl) Facts.stops) rfl) Facts.stopKnobs) k_inp) k_unf) k_rec) k_nam) k_maps) k_ifs) (by kernel_rfl)) k_lps) k_wk) rfl) (by kernel_rfl)) (by kernel_rfl)) (by kernel_rfl)) k_pk) rfl) Facts.stopsHeard) Facts.mayEnter) k_lf) k_mk) (by kernel_rfl)) (by kernel_rfl)) k_vl) (by kernel_rfl)
theorem named : Try.prog.funcNamed Rows.scanBackRow.func = some 19 := by kernel_rfl

theorem proved : Rows.ScanBackSaid :=
  OpenClaim.holds_of_wide 19 Try.f19 rfl rfl rfl rfl rfl rfl rfl ⟨rfl, rfl, rfl, rfl, rfl⟩ rfl rfl rfl rfl rfl named Try.func19 closed
    (of_decide_eq_true (by kernel_rfl)) (by unfold Func.isWrapper; first | (rw [if_pos (by decide +kernel)]; kernel_rfl) | (rw [if_neg (by decide +kernel)]; exact ⟨rfl, rfl⟩))
    (fun os started H enc _ => lifted os started H enc)
end ScanBack
#print axioms ScanBack.proved
end Go.Proofs.Ytlhappecjjbopaa
