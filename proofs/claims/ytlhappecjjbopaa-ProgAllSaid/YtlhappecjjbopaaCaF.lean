/-
  CanonCodes: which codes any lengths have. No condition.
-/
import Derived.Test.YtlhappecjjbopaaCaE
import Derived.Test.YtlhappecjjbopaaCaP
namespace Go.Proofs.Ytlhappecjjbopaa
open Go.ChangeShapes Go.WideShapes Go.ChangeAt Go.WideMaps Go.WideElems Go.RowKit Go.Joins
set_option linter.unusedVariables false
set_option maxRecDepth 100000

/-- the codes of the first symbols, noughts else -/
def Wn (O : List Nat) (C W : List Int) (k : Nat) : Prop := W.length = C.length ∧ ∀ s, W.getD s 0 = if s ∈ O.take k then C.getD s 0 else 0
theorem Wn.zero (O : List Nat) (C : List Int) : Wn O C (List.replicate C.length 0) 0 :=
  ⟨by simp, fun s => by
    rw [List.getD_eq_getElem?_getD, List.getElem?_replicate]; simp; split <;> rfl⟩
theorem Wn.step {O : List Nat} {C W : List Int} {k s : Nat} (h : Wn O C W k) (hs : O[k]? = some s) (hl : s < C.length) : Wn O C (W.set s (C.getD s 0)) (k + 1) :=
  ⟨by rw [List.length_set]; exact h.1, fun t => by
    have hm : t ∈ O.take (k + 1) ↔ t ∈ O.take k ∨ t = s := by
      rw [List.take_add_one, hs]; simp
    by_cases ht : t = s
    · subst ht
      rw [getD_set_eq _ (by rw [h.1]; exact hl), if_pos (hm.2 (.inr rfl))]
    · rw [getD_set_ne _ (fun e => ht e.symm), h.2 t]
      by_cases hk : t ∈ O.take k
      · rw [if_pos hk, if_pos (hm.2 (.inl hk))]
      · rw [if_neg hk, if_neg (fun h => (hm.1 h).elim hk ht)]⟩
theorem Wn.all {ls C W : List Int} (hv : Vl ls) (hc : Cd ls C) (h : Wn (ordU ls 16) C W (ordU ls 16).length) : W = C := by
  apply List.ext_getElem h.1
  intro s h1 h2
  have e := h.2 s
  rw [List.take_of_length_le (Nat.le_refl _)] at e
  have hs : W.getD s 0 = C.getD s 0 := by
    by_cases hm : s ∈ ordU ls 16
    · rw [if_pos hm] at e; exact e
    · rw [if_neg hm] at e
      rw [e]
      have hsl : s < ls.length := by rw [← hc.1]; exact h2
      have hb := hv _ (getD_in hsl)
      refine (hc.2.2 s ?_).symm
      rcases Int.lt_or_le 0 (ls.getD s 0) with h0 | h0
      · exact absurd (ordU_mem.2 ⟨hsl, by omega, by omega⟩) hm
      · omega
  rw [List.getD_eq_getElem?_getD, List.getD_eq_getElem?_getD, List.getElem?_eq_getElem h1, List.getElem?_eq_getElem h2] at hs
  exact hs

set_option maxHeartbeats 8000000 in
theorem canonCodes_any (w : World) (A : Option Addr) (n c : Nat) (ls : List Int) (hn : ls.length = n) (hcc : n ≤ c) (hmm : c ≤ 9223372036854775807) (hR : Rd w w.heap.size A (iv ls)) (hI : Is ls) :
    Calls Try.prog 6 #[.slice A n c] w fun e w' => e = .returned (.bool true) ∧ Below w.heap.size w w' := by
  have HN := Lib.hid hn
  clear hn
  go_enter Try.func6, Try.ntmps6
  go_wp2_with fail
  refine (example_any w).mono ?_; rintro e w1 ⟨rfl, hR1, hb1⟩
  go_wp2_with fail
  refine (codes_any _ 8 8 exL w1 rfl hR1 ex_is).mono ?_; rintro e w2 ⟨h1, _, hb2⟩
  obtain ⟨C, g, rfl, hoC, hCd⟩ := h1 ex_fm
  rw [ex_codes hCd] at hoC
  have hb2' := hb1.trans (hb2.mono hb1.size)
  have hs2 := hb2'.size
  have hba : Below w2.heap.size w2 (w2.alloc (.cells (iv [2, 3, 4, 5, 6, 0, 14, 15]).toArray 3)) := (Below.refl _ _).alloc (Nat.le_refl _) _
  have hRC := ((Rd.of_own hoC).below hba).more hba.size
  have hRL : Rd (w2.alloc (.cells (iv [2, 3, 4, 5, 6, 0, 14, 15]).toArray 3)) (w2.alloc (.cells (iv [2, 3, 4, 5, 6, 0, 14, 15]).toArray 3)).heap.size (some ⟨w2.heap.size, 0, none⟩) (iv [2, 3, 4, 5, 6, 0, 14, 15]) := by
    have h := Rd.newN w2 3 (iv [2, 3, 4, 5, 6, 0, 14, 15])
    exact h.more (by simp)
  have hb2a := hb2'.trans (hba.mono hs2)
  clear h1 hR1 hoC hCd
  go_upto_if 30 with (go_at_call 25; refine (ints_eq (some ⟨g, 0, none⟩) (some ⟨w2.heap.size, 0, none⟩) 8 8 8 [2, 3, 4, 5, 6, 0, 14, 15] _ rfl hRC hRL (by omega)).mono ?_; rintro e w3 ⟨rfl, hb3⟩; have hb3' := hb2a.trans (hb3.mono hb2a.size))
  clear hRC hRL hb2 hb3 hb2a hba
  by_cases h5 : 5000 < n
  · go_wp2
    go_ret
    exact ⟨rfl, hb3'⟩
  have hd5 : decide ((5000 : Int) < (n : Int)) = false := by simp; omega
  have hs3 := hb3'.size
  go_wp2_with fail
  refine (copyInts_any A n c ls w3 HN.out ((hR.below hb3').more hs3) (by omega)).mono ?_; rintro e w4 ⟨g, d, rfl, ho4, hb4⟩
  have hb4' := hb3'.trans (hb4.mono hs3)
  have hs4 := hb4'.size
  have hR4 : Rd w4 w4.heap.size (some ⟨g, 0, none⟩) (iv ls) := by
    have h := Rd.of_own ho4; rw [iv_app] at h; exact h.pre
  go_wp2_with fail
  refine (codes_any (some ⟨g, 0, none⟩) n d ls w4 HN.out hR4 hI).mono ?_; rintro e w5 ⟨h1, h2, hb5⟩
  have hb5' := hb4'.trans (hb5.mono hs4)
  have hs5 := hb5'.size
  have hR5 := (hR4.below hb5).more hb5.size
  have ho5 := own_keep ho4 hb5
  have hRA := (hR.below hb5').more hs5
  clear hR4 ho4 hb4 hb5
  by_cases hf : Fm ls
  · have HF := Lib.hid hf
    obtain ⟨C, gc, rfl, hoC, hCd⟩ := h1 hf
    have HCD := Lib.hid hCd
    have HCL := Lib.hid hCd.1
    have hn5 : n ≤ 512 := by have := hf.1; rw [HN.out] at this; exact this
    clear h1 h2 hCd hf
    go_wp2_with fail
    refine (free_any (some ⟨g, 0, none⟩) n d ls w5.heap.size w5 HN.out hR5 hI).mono ?_; rintro e w6 ⟨h6, _, rfl⟩
    obtain rfl := h6 HF.out
    go_wp2_with fail
    refine (rfree_any A n c ls w5.heap.size w5 HN.out hRA hI).mono ?_; rintro e w7 ⟨h7, _, rfl⟩
    obtain rfl := h7 HF.out
    clear h6 h7
    go_wp2_with fail
    refine (keptInts_any A n c g d w3.heap.size ls w5 HN.out hRA (by omega) ho5).mono ?_; rintro e w6 ⟨rfl, hb6⟩
    have hb6' := hb5'.trans (hb6.mono hs5)
    have hs6 := hb6'.size
    have hRA6 := (hR.below hb6').more hs6
    have hoC6 := own_keep hoC hb6
    have hbW : Below w6.heap.size w6 (w6.alloc (.cells (iv (List.replicate n 0)).toArray 3)) := (Below.refl _ _).alloc (Nat.le_refl _) _
    have hmk := make_ints n (by omega)
    have hoW := own_ints w6 (List.replicate n 0) (by rw [List.length_replicate]; omega)
    rw [List.length_replicate] at hoW
    have hoC7 := own_keep hoC6 hbW
    have hb7 := hb6'.trans (hbW.mono hs6)
    have hRA7 := (hR.below hb7).more hb7.size
    have hgw : w6.heap.size < (w6.alloc (.cells (iv (List.replicate n 0)).toArray 3)).heap.size := by simp
    have hgc := (hoC6.lt gc rfl).2
    have hfacts : ∀ k, k < (ordU ls 16).length → ∃ (s : Nat) (bits : List Int), (codesOf (sy (ordU ls 16)) (sz ls (ordU ls 16)))[k]? = some ((s : Int), bits) ∧ (ordU ls 16)[k]? = some s ∧ s < n ∧ hv bits = C.getD s 0 ∧ B01 bits ∧ bits.length ≤ 16 := fun k hk => by
      have hs : (ordU ls 16)[k]? = some ((ordU ls 16)[k]) := List.getElem?_eq_getElem hk
      have hm := ordU_mem.1 (List.mem_of_getElem? hs)
      refine ⟨_, _, ?_, hs, by rw [← HN.out]; exact hm.1, hv_cd HF.out HCD.out hs, cb_01 _ _, ?_⟩
      · rw [codesOf_at _ _ _ (by rw [sz_len]; exact hk), sy_at hs]
      · rw [cb_len, sz_at hs]; omega
    have HFA := Lib.hid hfacts
    have hw0 := Wn.zero (ordU ls 16) C
    have hwa := fun W h => Wn.all (W := W) HF.out.2.1 HCD.out h
    rw [HCL.out, HN.out] at hw0
    have HW0 := Lib.hid hw0
    have HWA := Lib.hid hwa
    have HCN : Hid (C.length = n) := Lib.hid (HCL.out.trans HN.out)
    clear hoC6 hRA6 hfacts hw0 hwa hb6'
    go_wp2_with fail
    clear hmk
    refine (refCodes_any A n c ls _ HN.out hRA7 hI HF.out).mono ?_; rintro e w8 ⟨v, rows, rfl, ho8, hcl8, hb8⟩
    generalize hO : ordU ls 16 = O at *
    generalize codesOf (sy O) (sz ls O) = codes at *
    generalize hno : O.length = no at *
    have HNO := Lib.hid hno
    clear hO hno
    have hoW8 := own_keep hoW hb8
    have hoC8 := own_keep hoC7 hb8
    have hb8' := hb7.trans (hb8.mono hb7.size)
    have hs8 := hb8'.size
    obtain ⟨Av, cv, rfl, hcv1, hcv2, hRv⟩ := own_sliceN ho8
    have hvg : ∀ p : Addr, Av = some p → w6.heap.size < p.block := fun p hp => by
      subst hp
      have := (ho8.lt p.block rfl).1
      omega
    generalize hgwe : w6.heap.size = gw at *
    have HG := Lib.hid hgwe
    have hg8 := (hoW8.lt gw rfl).2
    clear hgwe hoW hoC7 hRA7 hbW hb7
    go_wp2
    go_loopw [93] (fun i wr => ∃ k : Nat, k ≤ no ∧ i = .int .i64 k ∧ ∃ W, wr.ownsRow gw 3 1 (.slice (some ⟨gw, 0, none⟩) n n) n (iv W) ∧ Hid (Wn O C W k) ∧ Fr (fun b => b = gw) w8 wr) (fun i _ => no - (intOf i).toNat)
    case atStart => exact ⟨0, Nat.zero_le _, rfl, _, hoW8, HW0, Fr.refl _ _⟩
    case round =>
      obtain ⟨k, hk, rfl, W, hown, HW, hfr⟩ := hrel
      have hszr := hfr.size
      by_cases hlt : k < no
      · obtain ⟨s, bits, hcode, hOs, hsn, hvb, h01, hbl⟩ := HFA.out k hlt
        obtain ⟨a, ca, hrow, hRa, hal, hax, haB⟩ := hcl8.at_ k _ _ hcode
        have hfl := flatten_get rows hcl8.two k
        have f0 := hfl 0 _ _ hrow rfl
        have f1 := hfl 1 _ _ hrow rfl
        obtain ⟨bk, off, rfl, hbl', hcell⟩ := ((hfr.rd hRv (Nat.le_refl _) (fun p hp hs => by have := hvg p hp; omega)).more hszr).at_ (k := k * 2 + 0) (List.getElem?_eq_some_iff.1 f0).1
        have c0 := hcell _ _ f0
        have c1 := hcell _ _ f1
        simp only [Nat.add_zero] at c0
        rw [← Nat.add_assoc] at c1
        have hRa' := (hfr.rd hRa (Nat.le_refl _) (fun p hp hs => by
          injection hp with hp
          subst hp
          omega)).more hszr
        have hst := HW.out.step hOs (by rw [HCN.out]; exact hsn)
        have hWl : W.length = n := by rw [HW.out.1, HCN.out]
        have HST := Lib.hid hst
        have HVB := Lib.hid hvb
        clear f0 f1 hfl hcell hrow hRa hcode hOs hst hvb
        obtain ⟨q, hq⟩ : ∃ q, q = wr.heap.size := ⟨_, rfl⟩
        obtain ⟨wz, hwz⟩ : ∃ wz, wz = wr.alloc (.cells #[.int .i64 (s : Int), .slice (some a) bits.length ca] 57) := ⟨_, rfl⟩
        have X1 : wz.heap[q]? = some (.cells #[.int .i64 (s : Int), .slice (some a) bits.length ca] 57 (0, 0)) := by rw [hq, hwz]; exact heap_alloc_new wr _
        have hbq : Below wr.heap.size wr wz := by rw [hwz]; exact (Below.refl _ _).alloc (Nat.le_refl _) _
        have hown1 := own_keep hown hbq
        have hRa1 := hRa'.below hbq
        have hfr1 : Fr (fun b => b = gw) w8 wz := hfr.trans (Fr.of_below hbq)
        have hfz := World.ownsRow.frozenAt hown1 s
        have hcw := World.ownsRow.cellAt hown1 s (by omega)
        rw [ivs_get (by rw [hWl]; exact hsn)] at hcw
        have hown2 := own_set hown1 s (hv bits)
        have HOWN := Lib.hid hown2
        have hs0 : (0 : Int) ≤ (s : Int) := by omega
        have hs1 : (s : Int) < (n : Int) := by omega
        clear hown hRa' hfr hown1 hown2 hWl
        go_upto_region 20 with fail
        rw [← hq, ← hwz]
        have y0 : wz.cell? ⟨q, 0, none⟩ = some (.int .i64 (s : Int)) := by simp [World.cell?, X1]
        have y1 : wz.cell? ⟨q, 1, none⟩ = some (.slice (some a) bits.length ca) := by simp [World.cell?, X1]
        clear hwz hq c0 c1
        go_still_tail 7, (by kernel_rfl)
        repeat still_step
        still_call (number04_any (some a) bits.length ca bits wr.heap.size wz.drew rfl (show Rd wz.drew wr.heap.size (some a) (iv bits) from hRa1) h01 (by omega))
        repeat still_step
        refine wpStill_nil ?_
        have hfz' : wz.drew.frozen? ⟨gw, s, none⟩ = false := hfz
        have hcw' : wz.drew.cell? ⟨gw, s, none⟩ = some (.int .i64 (W.getD s 0)) := hcw
        have HOWN' : (wz.drew.setCell ⟨gw, s, none⟩ (.int .i64 (hv bits))).ownsRow gw 3 1 (.slice (some ⟨gw, 0, none⟩) n n) n (iv (W.set s (hv bits))) := HOWN.out
        have hfr2 : Fr (fun b => b = gw) w8 (wz.drew.setCell ⟨gw, s, none⟩ (.int .i64 (hv bits))) := hfr1.drew.setCell (.inl rfl) _
        have HOW2 := Lib.hid HOWN'
        clear hfz hcw hfr1 y0 y1 X1 hRa1 HOWN HOWN'
        go_wp2
        go_roundw
        case rel => exact ⟨k + 1, by omega, by go_num, _, HOW2.out, Lib.hid (by rw [HVB.out]; exact HST.out), hfr2⟩
        case measure => simp [intOf]; omega
      · have hkn : k = no := by omega
        have hWC : W = C := HWA.out W (by have h := HW.out; rw [hkn] at h; exact h)
        rw [hWC] at hown
        have hCr := hfr.own hoC8 (fun b hb e => by
          have h1 : gc = b := Option.some.inj hb
          omega)
        have hb9 := hb8'.trans ((hfr.below (B := gw) (fun b hb e => by omega) (by omega)).mono (by omega))
        have hR1 := Rd.of_own hCr
        have hR2 := Rd.of_own hown
        clear hkn hWC
        go_wp2_with fail
        refine (ints_eq (some ⟨gc, 0, none⟩) (some ⟨gw, 0, none⟩) n n n C _ HCN.out hR1 hR2 (by omega)).mono ?_; rintro e w9 ⟨rfl, hb10⟩
        go_wp2
        go_ret
        exact ⟨rfl, hb9.trans (hb10.mono hb9.size)⟩
  · have HNF := Lib.hid hf
    obtain rfl := h2 hf
    clear h1 h2 hf
    go_wp2_with fail
    refine (free_any (some ⟨g, 0, none⟩) n d ls w5.heap.size w5 HN.out hR5 hI).mono ?_; rintro e w6 ⟨_, h6, rfl⟩
    obtain rfl := h6 HNF.out
    go_wp2_with fail
    refine (rfree_any A n c ls w5.heap.size w5 HN.out hRA hI).mono ?_; rintro e w7 ⟨_, h7, rfl⟩
    obtain ⟨x, rfl⟩ := h7 HNF.out
    clear h6 h7
    go_wp2_with fail
    refine (keptInts_any A n c g d w3.heap.size ls w5 HN.out hRA (by omega) ho5).mono ?_; rintro e w6 ⟨rfl, hb6⟩
    have hb6' := hb5'.trans (hb6.mono hs5)
    go_wp2_with fail
    refine (is_err 6 6 (by omega) _).mono ?_; rintro e w7 ⟨rfl, rfl⟩
    go_wp2_with fail
    refine (is_err 6 6 (by omega) _).mono ?_; rintro e w7 ⟨rfl, rfl⟩
    go_wp2
    go_ret
    exact ⟨rfl, hb6'⟩
namespace CanonCodes
set_option maxRecDepth 100000 in
theorem contract (H : Type) (enc : TypeId × Value → H) (W : World) (base : Nat) (args : Array Value) (ds gs : List (DataW H)) (before : List MemPlace)
    (hval : ∀ (j : Nat) t v, Try.f6.params[j]? = some t → args[j]? = some v → Value.okWide Try.prog W .any base t v)
    (hW : DataW.Whole enc Try.prog Try.f6.params.toList Rows.canonCodesSpec.vars false W args.toList ds gs before) :
    Calls Try.prog 6 args W fun e W' => ∃ v, e = .returned v ∧ Rows.canonCodesSpec.post enc Try.prog Try.f6 false true false false W args v W' := by
  have hW' := hW
  obtain ⟨p, q, hA0, hV, rfl, hfz, hnd⟩ := hW
  have hA : DataW.TrodAll enc Try.prog W 0 (fun _ => true) true Try.f6.params.toList args.toList ds p := hA0
  rw [Try.params6] at hA hval
  clear hA0
  obtain ⟨v0, vs0, d0, ds0, p0, q0, hargs, rfl, rfl, h0, r0⟩ := trodAll_cons hA
  obtain ⟨rfl, rfl, rfl⟩ := trodAll_nil r0
  obtain rfl : args = #[v0] := by cases args; simp_all
  obtain ⟨rfl, rfl⟩ := trodVars_none hV
  obtain ⟨Ax0, nx0, cx0, rfl⟩ := okWide_slice Try.underlying24 (hval 0 _ _ rfl rfl)
  obtain ⟨fu0, hf0⟩ := h0
  obtain ⟨A', n', c', x0, ev0, hnx0, hcx0, hmx0, hRx0, hwx0⟩ := open_rd Try.underlying24 Try.underlying3 (by kernel_rfl) hf0
  injection ev0 with ea eb ec
  subst ea eb ec
  refine (canonCodes_any W Ax0 nx0 cx0 x0 hnx0 hcx0 hmx0 hRx0 (wf_is hwx0)).mono fun e W' ⟨he, hb⟩ => ?_
  subst he
  exact ⟨_, rfl, post_true Facts.laid hW' rfl rfl Try.underlying4 (by kernel_rfl) rfl hb⟩

set_option maxRecDepth 100000 in
theorem lifted (os : Os) (started : os.Started) (H : Type) (enc : TypeId × Value → H) :
    ReturnsInHanded {} Try.checked os 6 .any (Rows.canonCodesSpec.pre6 enc Try.prog Try.f6 Rows.canonCodesRow.domain false) (Rows.canonCodesSpec.post enc Try.prog Try.f6 false true false false) := by
  refine returnsInHanded_of_change (C := Try.checked) Facts.own started (by kernel_rfl) Try.func6
    (ChangeSpec.witness6 (enc := enc) (C := Try.checked) (os := os) false ⟨#[], #[.slice none 0 0], []⟩ 8 (by kernel_rfl) (by kernel_rfl) (by kernel_rfl) (by kernel_rfl)) ?_
  intro W base args ds gs before hval hW _ _
  exact contract H enc W base args ds gs before hval hW

theorem k_wf : Rows.canonCodesRow.wf (OpenSpec.ofChange Rows.canonCodesSpec) = true := by kernel_rfl
theorem k_inp : (Rows.canonCodesRow.inPlace == Try.prog.inPlace 6) = true := by kernel_rfl
theorem k_unf : (Rows.canonCodesRow.unfollowed == Try.prog.unfollowed 6) = true := by kernel_rfl
theorem k_rec : (Rows.canonCodesRow.recurses == Try.prog.recurses 6) = true := by kernel_rfl
theorem k_nam : (Rows.canonCodesRow.named == Try.prog.varsNamed 6) = true := by kernel_rfl
theorem k_pk : (Rows.canonCodesRow.plainKeys == Try.prog.plainKeys) = true := (congrArg (fun x => Rows.canonCodesRow.plainKeys == x) Facts.plainKeys).trans (by kernel_rfl)
theorem k_lf : (Rows.canonCodesRow.lifted == Try.prog.liftsFinal) = true := (congrArg (fun x => Rows.canonCodesRow.lifted == x) Facts.liftsFinal).trans (by kernel_rfl)
theorem k_mk : (Try.prog.make == some Rows.canonCodesRow.make) = true := (congrArg (fun x => x == some Rows.canonCodesRow.make) Facts.make).trans (by kernel_rfl)
theorem k_par : (Try.f6.params.all (Try.prog.readableRec ·)) = true := by kernel_rfl
theorem k_maps : (Rows.canonCodesRow.maps == (Try.f6.params.toList ++ Rows.canonCodesSpec.plain.varTypes Try.prog).any (Try.prog.mapsRec ·)) = true := by kernel_rfl
theorem k_ifs : (Rows.canonCodesRow.ifaces == (Try.f6.params.toList ++ Rows.canonCodesSpec.plain.varTypes Try.prog).any (Try.prog.ifacesRec ·)) = true := by kernel_rfl
theorem k_lps : (Rows.canonCodesRow.loops == (Try.f6.params.toList ++ Rows.canonCodesSpec.plain.varTypes Try.prog).any (Try.prog.loopsFrom ·)) = true := by kernel_rfl
theorem k_wk : (Rows.canonCodesRow.wideKeys == (Try.f6.params.toList ++ Rows.canonCodesSpec.plain.varTypes Try.prog ++ Try.f6.resultTypes.toList).any (Try.prog.wideKeysFrom ·)) = true := by kernel_rfl
theorem k_vl : (Rows.canonCodesRow.veiled == (Try.f6.params.toList ++ Rows.canonCodesSpec.plain.varTypes Try.prog ++ Try.f6.resultTypes.toList).any (Try.prog.veiledRec ·)) = true := by kernel_rfl
theorem closed : joinedFacts Try.prog 6 Try.f6 Rows.canonCodesSpec Rows.canonCodesRow = true :=
  Facts.and_i (Facts.and_i (Facts.and_i (Facts.and_i (Facts.and_i (Facts.and_i (Facts.and_i (Facts.and_i (Facts.and_i (Facts.and_i (Facts.and_i (Facts.and_i (Facts.and_i (Facts.and_i (Facts.and_i (Facts.and_i (Facts.and_i (Facts.and_i (Facts.and_i (Facts.and_i (Facts.and_i (Facts.and_i (Facts.and_i (Facts.and_i (Facts.and_i (Facts.and_i (Facts.and_i (Facts.and_i (Facts.and_i (Facts.and_i (Facts.and_i
    k_wf Facts.laid) Facts.mapsRowed_) k_par) rfl) rfl) Facts.stops) rfl) Facts.stopKnobs) k_inp) k_unf) k_rec) k_nam) k_maps) k_ifs) (by kernel_rfl)) k_lps) k_wk) rfl) (by kernel_rfl)) (by kernel_rfl)) (by kernel_rfl)) k_pk) rfl) Facts.stopsHeard) Facts.mayEnter) k_lf) k_mk) (by kernel_rfl)) (by kernel_rfl)) k_vl) (by kernel_rfl)
theorem named : Try.prog.funcNamed Rows.canonCodesRow.func = some 6 := by kernel_rfl

theorem proved : Rows.CanonCodesSaid :=
  OpenClaim.holds_of_wide 6 Try.f6 rfl rfl rfl rfl rfl rfl rfl ⟨rfl, rfl, rfl, rfl, rfl⟩ rfl rfl rfl rfl rfl named Try.func6 closed
    (of_decide_eq_true (by kernel_rfl)) (by unfold Func.isWrapper; first | (rw [if_pos (by decide +kernel)]; kernel_rfl) | (rw [if_neg (by decide +kernel)]; exact ⟨rfl, rfl⟩))
    (fun os started H enc _ => lifted os started H enc)
end CanonCodes
#print axioms CanonCodes.proved
end Go.Proofs.Ytlhappecjjbopaa
