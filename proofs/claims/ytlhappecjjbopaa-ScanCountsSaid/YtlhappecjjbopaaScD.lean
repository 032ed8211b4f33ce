/-
  ScanCounts: how often symbols stand. No condition.
-/
import Derived.Test.YtlhappecjjbopaaScC
import Derived.Test.YtlhappecjjbopaaFacts
namespace Go.Proofs.Ytlhappecjjbopaa
open Go.ChangeShapes Go.WideShapes Go.ChangeAt Go.WideMaps Go.WideElems Go.RowKit Go.Joins
set_option linter.unusedVariables false
set_option maxRecDepth 100000

theorem Try.info_piece : (Try.prog.info? 27).map (fun i => (i.zero, i.size, i.bytes)) = some (some (.agg #[.bool false, .int .i64 0, .int .i64 0, .int .i64 0]), 4, 32) := by kernel_rfl

set_option maxHeartbeats 4000000 in
theorem scanCounts_any (w : World) (A : Option Addr) (n c : Nat) (rows : List (List Value)) (hn : rows.length = n) (hc : n ≤ c) (hm : c ≤ 9223372036854775807) (hrows : ∀ r ∈ rows, r.length = 4 ∧ P4 r) (hR : Rd w w.heap.size A rows.flatten) :
    Calls Try.prog 3 #[.slice A n c] w fun e w' => e = .returned (.bool true) ∧ Below w.heap.size w w' := by
  obtain ⟨i0, hi, hz0, hz1, hz2⟩ := info_parts Try.info_piece
  have HN := Lib.hid hn
  have HRW := Lib.hid hrows
  have hrl : ∀ k, (rows.take k).flatten.length = (rows.take k).length * 4 := fun k => by
    have h : ∀ rs : List (List Value), (∀ r ∈ rs, r.length = 4) → rs.flatten.length = rs.length * 4 := by
      intro rs
      induction rs with
      | nil => intro _; rfl
      | cons r rs ih => intro h; rw [List.flatten_cons, List.length_append, ih (fun x hx => h x (by simp [hx])), h r (by simp), List.length_cons, Nat.succ_mul]; omega
    exact h _ (fun r hr => (hrows r (List.mem_of_mem_take hr)).1)
  clear hn hrows
  have hmk : ∀ W : World, (Instr.makeSlice 24 (.int .i64 256) (.int .i64 256)).run Try.prog W = .ok (.slice (some ⟨W.heap.size, 0, none⟩) 256 256) (W.alloc (.cells (iv Z256).toArray 3)) := fun W => make_ints 256 (by omega) W
  by_cases hn3 : 1000 < n
  · go_enter Try.func3, Try.ntmps3
    go_wp2
    go_ret
    exact ⟨rfl, Below.refl _ _⟩
  have hdn : decide ((1000 : Int) < (n : Int)) = false := by simp; omega
  go_enter Try.func3, Try.ntmps3
  go_upto_region 4 with fail
  have hb0 : Below w.heap.size w (w.alloc (.cells #[] 27)) := (Below.refl _ _).alloc (Nat.le_refl _) _
  have hl0 : (w.alloc (.cells #[] 27)).ownsRow w.heap.size 27 4 (.slice (some ⟨w.heap.size, 0, none⟩) 0 0) 0 [] := World.ownsRow_made w #[] 0 (Nat.le_refl _) (by unfold maxLen; omega) (by simp)
  have hs0 : w.heap.size < (w.alloc (.cells #[] 27)).heap.size := by simp
  generalize w.alloc (.cells #[] 27) = w0 at *
  go_cut [4, 5] from 14 to 15 (fun vd va wx => ∃ gd ga, vd = .slice (some ⟨gd, 0, none⟩) 256 256 ∧ va = .slice (some ⟨ga, 0, none⟩) 256 256 ∧ gd ≠ ga ∧ R256 wx w0.heap.size gd Z256 ∧ R256 wx w0.heap.size ga Z256 ∧ Below w0.heap.size w0 wx)
  case first =>
    have hz := two256 w0
    have HZ := Lib.hid hz
    clear hz
    go_region
    all_goals go_wp2_with fail
    all_goals go_meet
    all_goals first
      | exact ⟨_, _, rfl, rfl, by omega, HZ.out.1, HZ.out.2.1, HZ.out.2.2⟩
      | exact ⟨_, _, rfl, rfl, by omega, HZ.out.2.1, HZ.out.1, HZ.out.2.2⟩
  case rest =>
    obtain ⟨gd, ga, rfl, rfl, hne, hrd, hra, hbc⟩ := hcut
    have hlc := own_keepN hl0 hbc
    have hbc' := hb0.trans (hbc.mono hb0.size)
    have hgd0 := hrd.lt.1
    have hga0 := hra.lt.1
    clear hmk hbc hl0
    go_wp2
    go_loopw [3, 18] (fun v i wr => ∃ k : Nat, k ≤ n ∧ i = .int .i64 k ∧ wr.ownsRow w.heap.size 27 4 v k (rows.take k).flatten ∧ (∀ b, v.ownBlock = some b → b ≠ gd ∧ b ≠ ga) ∧ R256 wr w.heap.size gd (cnt false (rows.take k)) ∧ R256 wr w.heap.size ga (cnt true (rows.take k)) ∧ Below w.heap.size w wr) (fun _ i _ => n - (intOf i).toNat)
    case atStart => exact ⟨0, Nat.zero_le _, rfl, hlc, fun b hb => by
      have e : w.heap.size = b := Option.some.inj hb
      omega, hrd.base (by omega), hra.base (by omega), hbc'⟩
    case round =>
      obtain ⟨k, hk, rfl, hl, hsep, hd, ha, hb⟩ := hrel
      clear hrd hra hbc' hlc
      by_cases hlt : k < n
      · obtain ⟨r, hr⟩ : ∃ r, rows[k]? = some r := ⟨rows[k]'(by rw [HN.out]; exact hlt), List.getElem?_eq_getElem _⟩
        obtain ⟨hr4, a, s, e, b, rfl, hs, he, hbb⟩ := HRW.out r (List.mem_of_getElem? hr)
        have htk : rows.take (k + 1) = rows.take k ++ [[.bool a, .int .i64 s, .int .i64 e, .int .i64 b]] := by rw [List.take_add_one, hr]; rfl
        have htf : (rows.take (k + 1)).flatten = (rows.take k).flatten ++ [.bool a, .int .i64 s, .int .i64 e, .int .i64 b] := by rw [htk]; simp
        have hfl := flatten_get rows (fun r hr => (HRW.out r hr).1) k
        have f0 := hfl 0 _ _ hr rfl
        have f1 := hfl 1 _ _ hr rfl
        have f2 := hfl 2 _ _ hr rfl
        have f3 := hfl 3 _ _ hr rfl
        obtain ⟨bk, off, rfl, hbl, hcell⟩ := (hR.below hb).at_ (k := k * 4 + 0) (List.getElem?_eq_some_iff.1 f0).1
        have c0 := hcell _ _ f0
        have c1 := hcell _ _ f1
        have c2 := hcell _ _ f2
        have c3 := hcell _ _ f3
        have HTK := Lib.hid htk
        have HTF := Lib.hid htf
        clear hcell f0 f1 f2 f3 hfl hr hr4 htk htf
        simp only [Nat.add_zero] at c0
        rw [← Nat.add_assoc] at c1 c2 c3
        have hsz := hb.size
        obtain ⟨q, hq⟩ : ∃ q, q = wr.heap.size := ⟨_, rfl⟩
        have hvq : ∀ i, Value.ownBlock _ = some i → i < q := fun i hi => by rw [hq]; exact (hl.lt i hi).2
        have X1 : (wr.alloc (.cells #[.bool a, .int .i64 s, .int .i64 e, .int .i64 b] 26)).heap[q]? = some (.cells #[.bool a, .int .i64 s, .int .i64 e, .int .i64 b] 26 (0, 0)) := by rw [hq]; exact heap_alloc_new wr _
        have hz1' : (wr.alloc (.cells #[.bool a, .int .i64 s, .int .i64 e, .int .i64 b] 26)).heap.size = q + 1 := by rw [hq]; simp
        have hbq : Below wr.heap.size wr (wr.alloc (.cells #[.bool a, .int .i64 s, .int .i64 e, .int .i64 b] 26)) := (Below.refl _ _).alloc (Nat.le_refl _) _
        have hl1 := own_keepN hl hbq
        have hd1 := hd.below hbq
        have ha1 := ha.below hbq
        have hb1 := hb.trans (hbq.mono hsz)
        have hqs : w.heap.size ≤ q := by omega
        have HZ1 := Lib.hid hz1'
        clear hz1' hl hd ha hb hbq
        go_upto_region 8 with fail
        rw [← hq]
        generalize wr.alloc (.cells #[.bool a, .int .i64 s, .int .i64 e, .int .i64 b] 26) = w1 at *
        have HQ := Lib.hid hq
        clear hq
        have y0 : w1.cell? ⟨q, 0, none⟩ = some (.bool a) := by simp [World.cell?, X1]
        have y1 : w1.cell? ⟨q, 1, none⟩ = some (.int .i64 s) := by simp [World.cell?, X1]
        have y2 : w1.cell? ⟨q, 2, none⟩ = some (.int .i64 e) := by simp [World.cell?, X1]
        have y3 : w1.cell? ⟨q, 3, none⟩ = some (.int .i64 b) := by simp [World.cell?, X1]
        have hl2 := hl1.alloc (.cells #[.bool a, .int .i64 s, .int .i64 e, .int .i64 b] 27)
        have hbq2 : Below w1.heap.size w1 (w1.alloc (.cells #[.bool a, .int .i64 s, .int .i64 e, .int .i64 b] 27)) := (Below.refl _ _).alloc (Nat.le_refl _) _
        have hd2 := hd1.below hbq2
        have ha2 := ha1.below hbq2
        have hb2 := hb1.trans (hbq2.mono hb1.size)
        have X2 : (w1.alloc (.cells #[.bool a, .int .i64 s, .int .i64 e, .int .i64 b] 27)).heap[q]? = some (.cells #[.bool a, .int .i64 s, .int .i64 e, .int .i64 b] 26 (0, 0)) := (hbq2.block q (by rw [HZ1.out]; omega)).trans X1
        have hqlt : q < (w1.alloc (.cells #[.bool a, .int .i64 s, .int .i64 e, .int .i64 b] 27)).heap.size := by have := hbq2.size; rw [HZ1.out] at this; omega
        go_upto_region 9 with (at_builtin; refine wpList_appN _ rfl (.tmp 22) (.tmp 32) 23 rfl Try.underlying23 hi hz0 hz1 hz2 rfl (by omega) hl2 rfl rfl (Rd.newN w1 27 [.bool a, .int .i64 s, .int .i64 e, .int .i64 b]) rfl (by simp [Value.oneCell']) (by omega) (by omega) hb2.size ?_; intro v3 w3 hl3 hap)
        have hd3 := hd2.keep hap.fr (fun e => (hsep _ e).1 rfl)
        have ha3 := ha2.keep hap.fr (fun e => (hsep _ e).2 rfl)
        have hb3 := hb2.trans (hap.below (fun i hi => (hl2.lt i hi).1) hb2.size)
        have X3 : w3.heap[q]? = some (.cells #[.bool a, .int .i64 s, .int .i64 e, .int .i64 b] 26 (0, 0)) := (hap.fr.block q hqlt (fun e => by have := hvq _ e; omega)).trans X2
        have hsep3 : ∀ i, v3.ownBlock = some i → i ≠ gd ∧ i ≠ ga := fun i hi => by
          rcases hap.row i hi with h | h
          · exact hsep i h
          · have h1 := hd2.lt.2; have h2 := ha2.lt.2; omega
        clear y0 y1 y2 y3 hl1 hd1 ha1 hb1 hl2 hd2 ha2 hb2 X1 X2 hbq2 hqlt c0 c1 c2 c3
        have y0 : w3.cell? ⟨q, 0, none⟩ = some (.bool a) := by simp [World.cell?, X3]
        have y1 : w3.cell? ⟨q, 1, none⟩ = some (.int .i64 s) := by simp [World.cell?, X3]
        clear X3
        have HL3 := Lib.hid hl3
        have HS3 := Lib.hid hsep3
        clear hl3 hsep3 hsep hap hvq
        by_cases hout : s < 0 ∨ 256 ≤ s
        · rcases hout with h0 | h0
          all_goals
            have h1 : cnt false (rows.take (k + 1)) = cnt false (rows.take k) := by rw [HTK.out, cnt_snoc, bump_out _ _ _ _ _ _ (by omega)]
            have h2 : cnt true (rows.take (k + 1)) = cnt true (rows.take k) := by rw [HTK.out, cnt_snoc, bump_out _ _ _ _ _ _ (by omega)]
            have H1 := Lib.hid h1
            have H2 := Lib.hid h2
            clear h1 h2
            go_wp2
            go_roundw
            case rel => exact ⟨k + 1, by omega, by go_num, by rw [HTF.out]; exact HL3.out, HS3.out, by rw [H1.out]; exact hd3, by rw [H2.out]; exact ha3, hb3⟩
            case measure => simp [intOf]; omega
        · obtain ⟨S, rfl⟩ := Int.eq_ofNat_of_zero_le (show 0 ≤ s by omega)
          have hS : S < 256 := by omega
          have hnd : w.heap.size ≤ gd := hd3.lt.1
          have hna : w.heap.size ≤ ga := ha3.lt.1
          have hxl : (rows.take k).length ≤ 100000 := by rw [List.length_take]; omega
          cases a
          · obtain ⟨ol, obd⟩ := cnt_ok false (rows.take k)
            have hx := obd ((cnt false (rows.take k)).getD S 0) (by rw [List.getD_eq_getElem?_getD, List.getElem?_eq_getElem (by omega)]; exact List.getElem_mem _)
            have hcx := hd3.at_ S hS
            have hfx := World.ownsRow.frozenAt hd3 S
            have h1 : cnt false (rows.take (k + 1)) = (cnt false (rows.take k)).set S ((cnt false (rows.take k)).getD S 0 + 1) := by rw [HTK.out, cnt_snoc, bump_at _ _ _ _ _ _ hS, if_pos rfl]
            have h2 : cnt true (rows.take (k + 1)) = cnt true (rows.take k) := by rw [HTK.out, cnt_snoc, bump_at _ _ _ _ _ _ hS, if_neg (by decide)]
            have H1 := Lib.hid h1
            have H2 := Lib.hid h2
            have HD := Lib.hid (hd3.set S ((cnt false (rows.take k)).getD S 0 + 1))
            have HA := Lib.hid (ha3.other (k := S) (Ne.symm hne) (.int .i64 ((cnt false (rows.take k)).getD S 0 + 1)))
            have HLL := Lib.hid (ownsRow_setCell_other HL3.out (a := ⟨gd, S, none⟩) (fun e => (HS3.out _ e).1 rfl) (.int .i64 ((cnt false (rows.take k)).getD S 0 + 1)))
            clear h1 h2 ol obd hd3 ha3
            generalize (cnt false (rows.take k)).getD S 0 = x at *
            go_wp2
            go_roundw
            case rel => exact ⟨k + 1, by omega, by go_num, by rw [HTF.out]; exact HLL.out, HS3.out, by rw [H1.out]; exact HD.out, by rw [H2.out]; exact HA.out, hb3.setCell hnd _⟩
            case measure => simp [intOf]; omega
          · obtain ⟨ol, obd⟩ := cnt_ok true (rows.take k)
            have hx := obd ((cnt true (rows.take k)).getD S 0) (by rw [List.getD_eq_getElem?_getD, List.getElem?_eq_getElem (by omega)]; exact List.getElem_mem _)
            have hcx := ha3.at_ S hS
            have hfx := World.ownsRow.frozenAt ha3 S
            have h1 : cnt true (rows.take (k + 1)) = (cnt true (rows.take k)).set S ((cnt true (rows.take k)).getD S 0 + 1) := by rw [HTK.out, cnt_snoc, bump_at _ _ _ _ _ _ hS, if_pos rfl]
            have h2 : cnt false (rows.take (k + 1)) = cnt false (rows.take k) := by rw [HTK.out, cnt_snoc, bump_at _ _ _ _ _ _ hS, if_neg (by decide)]
            have H1 := Lib.hid h1
            have H2 := Lib.hid h2
            have HD := Lib.hid (ha3.set S ((cnt true (rows.take k)).getD S 0 + 1))
            have HA := Lib.hid (hd3.other (k := S) hne (.int .i64 ((cnt true (rows.take k)).getD S 0 + 1)))
            have HLL := Lib.hid (ownsRow_setCell_other HL3.out (a := ⟨ga, S, none⟩) (fun e => (HS3.out _ e).2 rfl) (.int .i64 ((cnt true (rows.take k)).getD S 0 + 1)))
            clear h1 h2 ol obd hd3 ha3
            generalize (cnt true (rows.take k)).getD S 0 = x at *
            go_wp2
            go_roundw
            case rel => exact ⟨k + 1, by omega, by go_num, by rw [HTF.out]; exact HLL.out, HS3.out, by rw [H2.out]; exact HA.out, by rw [H1.out]; exact HD.out, hb3.setCell hna _⟩
            case measure => simp [intOf]; omega
      · have hkn : k = n := by omega
        rw [List.take_of_length_le (by rw [HN.out]; omega)] at hd ha hl
        obtain ⟨Al, cl, rfl, _, _, hRl⟩ := own_sliceN hl
        have hks : n ≤ k ∧ k ≤ n := by omega
        have hrk : rows.length = k := by rw [HN.out, hkn]
        have HRK := Lib.hid hrk
        clear hkn hrk
        go_wp2_with fail
        refine (count_any Al k cl rows wr HRK.out HRW.out hRl (by omega)).mono ?_; rintro e w4 ⟨g1, g2, rfl, h1, h2, hb4⟩
        have hd4 := hd.below hb4
        have ha4 := ha.below hb4
        have hb4' := hb.trans (hb4.mono hb.size)
        obtain ⟨o1, _⟩ := cnt_ok false rows
        obtain ⟨o2, _⟩ := cnt_ok true rows
        have HO1 := Lib.hid o1
        have HO2 := Lib.hid o2
        clear o1 o2 hd ha hl
        go_wp2_with fail
        refine (ints_eq (some ⟨g1, 0, none⟩) (some ⟨gd, 0, none⟩) 256 256 256 (cnt false rows) w4 HO1.out (Rd.of_own h1) (Rd.of_own hd4) (by omega)).mono ?_; rintro e w5 ⟨rfl, hb5⟩
        have h25 := h2.below hb5
        have ha5 := ha4.below hb5
        have hb5' := hb4'.trans (hb5.mono hb4'.size)
        go_wp2_with (go_at_call 25; refine (ints_eq (some ⟨g2, 0, none⟩) (some ⟨ga, 0, none⟩) 256 256 256 (cnt true rows) w5 HO2.out (Rd.of_own h25) (Rd.of_own ha5) (by omega)).mono ?_; rintro e w6 ⟨rfl, hb6⟩)
        go_ret
        exact ⟨rfl, hb5'.trans (hb6.mono hb5'.size)⟩

theorem piece_p4 {H : Type} {enc : TypeId × Value → H} {W : World} {spare : Nat → Bool} {held : Bool} {nn : Nat} {cs : List Value} {y : DataW H × List MemPlace} (hl : cs.length = 4)
    (hy : DataW.trod enc Try.prog W 0 spare held nn 26 cs = some y) : P4 cs := by
  obtain ⟨_, n', hf⟩ := sub_str Try.underlying26 hy
  obtain ⟨c0, t0, rfl, hl0⟩ := len_cons hl
  obtain ⟨c1, t1, rfl, hl1⟩ := len_cons hl0
  obtain ⟨c2, t2, rfl, hl2⟩ := len_cons hl1
  obtain ⟨c3, t3, rfl, hl3⟩ := len_cons hl2
  obtain rfl := len_nil hl3
  have hk : Try.prog.cellsOf 3 = 1 := by kernel_rfl
  have hkb : Try.prog.cellsOf 4 = 1 := by kernel_rfl
  obtain ⟨y0, h0⟩ := hf 0 _ rfl
  obtain ⟨y1, h1⟩ := hf 1 _ rfl
  obtain ⟨y2, h2⟩ := hf 2 _ rfl
  obtain ⟨y3, h3⟩ := hf 3 _ rfl
  replace h0 : DataW.trod enc Try.prog W 0 spare held n' 4 [c0] = some y0 := by simpa [hkb] using h0
  replace h1 : DataW.trod enc Try.prog W 0 spare held n' 3 [c1] = some y1 := by simpa [hk] using h1
  replace h2 : DataW.trod enc Try.prog W 0 spare held n' 3 [c2] = some y2 := by simpa [hk] using h2
  replace h3 : DataW.trod enc Try.prog W 0 spare held n' 3 [c3] = some y3 := by simpa [hk] using h3
  obtain ⟨x0, e0, _⟩ := DataW.trod_bool Try.underlying4 h0
  obtain ⟨x1, e1, _, w1⟩ := DataW.trod_int Try.underlying3 h1
  obtain ⟨x2, e2, _, w2⟩ := DataW.trod_int Try.underlying3 h2
  obtain ⟨x3, e3, _, w3⟩ := DataW.trod_int Try.underlying3 h3
  simp only [List.cons.injEq, and_true] at e0 e1 e2 e3
  subst e0 e1 e2 e3
  exact ⟨x0, x1, x2, x3, rfl, wf_i w1, wf_i w2, wf_i w3⟩

namespace ScanCounts
set_option maxRecDepth 100000 in
theorem contract (H : Type) (enc : TypeId × Value → H) (W : World) (base : Nat) (args : Array Value) (ds gs : List (DataW H)) (before : List MemPlace)
    (hval : ∀ (j : Nat) t v, Try.f3.params[j]? = some t → args[j]? = some v → Value.okWide Try.prog W .any base t v)
    (hW : DataW.Whole enc Try.prog Try.f3.params.toList Rows.scanCountsSpec.vars false W args.toList ds gs before) :
    Calls Try.prog 3 args W fun e W' => ∃ v, e = .returned v ∧ Rows.scanCountsSpec.post enc Try.prog Try.f3 false true false false W args v W' := by
  have hW' := hW
  obtain ⟨p, q, hA0, hV, rfl, hfz, hnd⟩ := hW
  have hA : DataW.TrodAll enc Try.prog W 0 (fun _ => true) true Try.f3.params.toList args.toList ds p := hA0
  rw [Try.params3] at hA hval
  clear hA0
  obtain ⟨v0, vs0, d0, ds0, p0, q0, hargs, rfl, rfl, h0, r0⟩ := trodAll_cons hA
  obtain ⟨rfl, rfl, rfl⟩ := trodAll_nil r0
  obtain rfl : args = #[v0] := by cases args; simp_all
  obtain ⟨rfl, rfl⟩ := trodVars_none hV
  obtain ⟨Ax0, nx0, cx0, rfl⟩ := okWide_slice Try.underlying22 (hval 0 _ _ rfl rfl)
  obtain ⟨fu0, hf0⟩ := h0
  obtain ⟨A', n', c', x0, ev0, hnx0, hcx0, hmx0, hQx0, hRx0⟩ := open_rows (m := 4) (Q := P4) Try.underlying22 (by kernel_rfl) (by omega) (fun _ _ _ hl hy => piece_p4 hl hy) hf0
  injection ev0 with ea eb ec
  subst ea eb ec
  refine (scanCounts_any W Ax0 nx0 cx0 x0 hnx0 hcx0 hmx0 hQx0 hRx0).mono fun e W' ⟨he, hb⟩ => ?_
  subst he
  exact ⟨_, rfl, post_true Facts.laid hW' rfl rfl Try.underlying4 (by kernel_rfl) rfl hb⟩

set_option maxRecDepth 100000 in
theorem lifted (os : Os) (started : os.Started) (H : Type) (enc : TypeId × Value → H) :
    ReturnsInHanded {} Try.checked os 3 .any (Rows.scanCountsSpec.pre6 enc Try.prog Try.f3 Rows.scanCountsRow.domain false) (Rows.scanCountsSpec.post enc Try.prog Try.f3 false true false false) := by
  refine returnsInHanded_of_change (C := Try.checked) Facts.own started (by kernel_rfl) Try.func3
    (ChangeSpec.witness6 (enc := enc) (C := Try.checked) (os := os) false ⟨#[], #[.slice none 0 0], []⟩ 8 (by kernel_rfl) (by kernel_rfl) (by kernel_rfl) (by kernel_rfl)) ?_
  intro W base args ds gs before hval hW _ _
  exact contract H enc W base args ds gs before hval hW

theorem k_wf : Rows.scanCountsRow.wf (OpenSpec.ofChange Rows.scanCountsSpec) = true := by kernel_rfl
theorem k_inp : (Rows.scanCountsRow.inPlace == Try.prog.inPlace 3) = true := by kernel_rfl
theorem k_unf : (Rows.scanCountsRow.unfollowed == Try.prog.unfollowed 3) = true := by kernel_rfl
theorem k_rec : (Rows.scanCountsRow.recurses == Try.prog.recurses 3) = true := by kernel_rfl
theorem k_nam : (Rows.scanCountsRow.named == Try.prog.varsNamed 3) = true := by kernel_rfl
theorem k_pk : (Rows.scanCountsRow.plainKeys == Try.prog.plainKeys) = true := (congrArg (fun x => Rows.scanCountsRow.plainKeys == x) Facts.plainKeys).trans (by kernel_rfl)
theorem k_lf : (Rows.scanCountsRow.lifted == Try.prog.liftsFinal) = true := (congrArg (fun x => Rows.scanCountsRow.lifted == x) Facts.liftsFinal).trans (by kernel_rfl)
theorem k_mk : (Try.prog.make == some Rows.scanCountsRow.make) = true := (congrArg (fun x => x == some Rows.scanCountsRow.make) Facts.make).trans (by kernel_rfl)
theorem k_par : (Try.f3.params.all (Try.prog.readableRec ·)) = true := by kernel_rfl
theorem k_maps : (Rows.scanCountsRow.maps == (Try.f3.params.toList ++ Rows.scanCountsSpec.plain.varTypes Try.prog).any (Try.prog.mapsRec ·)) = true := by kernel_rfl
theorem k_ifs : (Rows.scanCountsRow.ifaces == (Try.f3.params.toList ++ Rows.scanCountsSpec.plain.varTypes Try.prog).any (Try.prog.ifacesRec ·)) = true := by kernel_rfl
theorem k_lps : (Rows.scanCountsRow.loops == (Try.f3.params.toList ++ Rows.scanCountsSpec.plain.varTypes Try.prog).any (Try.prog.loopsFrom ·)) = true := by kernel_rfl
theorem k_wk : (Rows.scanCountsRow.wideKeys == (Try.f3.params.toList ++ Rows.scanCountsSpec.plain.varTypes Try.prog ++ Try.f3.resultTypes.toList).any (Try.prog.wideKeysFrom ·)) = true := by kernel_rfl
theorem k_vl : (Rows.scanCountsRow.veiled == (Try.f3.params.toList ++ Rows.scanCountsSpec.plain.varTypes Try.prog ++ Try.f3.resultTypes.toList).any (Try.prog.veiledRec ·)) = true := by kernel_rfl
theorem closed : joinedFacts Try.prog 3 Try.f3 Rows.scanCountsSpec Rows.scanCountsRow = true :=
  Facts.and_i (Facts.and_i (Facts.and_i (Facts.and_i (Facts.and_i (Facts.and_i (Facts.and_i (Facts.and_i (Facts.and_i (Facts.and_i (Facts.and_i (Facts.and_i (Facts.and_i (Facts.and_i (Facts.and_i (Facts.and_i (Facts.and_i (Facts.and_i (Facts.and_i (Facts.and_i (Facts.and_i (Facts.and_i (Facts.and_i (Facts.and_i (Facts.and_i (Facts.and_i (Facts.and_i (Facts.and_i (Facts.and_i (Facts.and_i (Facts.and_i
    k_wf Facts.laid) Facts.mapsRowed_) k_par) rfl) rfl) Facts.stops) rfl) Facts.stopKnobs) k_inp) k_unf) k_rec) k_nam) k_maps) k_ifs) (by kernel_rfl)) k_lps) k_wk) rfl) (by kernel_rfl)) (by kernel_rfl)) (by kernel_rfl)) k_pk) rfl) Facts.stopsHeard) Facts.mayEnter) k_lf) k_mk) (by kernel_rfl)) (by kernel_rfl)) k_vl) (by kernel_rfl)
theorem named : Try.prog.funcNamed Rows.scanCountsRow.func = some 3 := by kernel_rfl

theorem proved : Rows.ScanCountsSaid :=
  OpenClaim.holds_of_wide 3 Try.f3 rfl rfl rfl rfl rfl rfl rfl ⟨rfl, rfl, rfl, rfl, rfl⟩ rfl rfl rfl rfl rfl named Try.func3 closed
    (of_decide_eq_true (by kernel_rfl)) (by unfold Func.isWrapper; first | (rw [if_pos (by decide +kernel)]; kernel_rfl) | (rw [if_neg (by decide +kernel)]; exact ⟨rfl, rfl⟩))
    (fun os started H enc _ => lifted os started H enc)
end ScanCounts
#print axioms ScanCounts.proved
end Go.Proofs.Ytlhappecjjbopaa
