/-
  SampleBack: numbers come back from their row. No condition.
-/
import Derived.Test.YtkmgojoojboidaaSpE
import Derived.Test.YtkmgojoojboidaaSpA
import Derived.Test.YtkmgojoojboidaaFacts
namespace Go.Proofs.Ytkmgojoojboidaa
open Go.ChangeShapes Go.WideShapes Go.ChangeAt Go.WideMaps Go.WideElems Go.RowKit Go.Joins
set_option linter.unusedVariables false
set_option maxRecDepth 100000

theorem hv_zeros (a : List Int) (s : Nat) : hv (a ++ List.replicate s 0) = hv a * 2 ^ s := by
  induction s with
  | zero => simp
  | succ s ih => rw [List.replicate_succ', ← List.append_assoc, hv_snoc, ih, two_succ, Int.add_zero, ← Int.mul_assoc, ← Int.mul_assoc, Int.mul_comm 2]
theorem digs_low {x z : Int} {r : Nat} (hr : r ≤ 8) (hx : x % 2 ^ (8 - r) = 0) (hz : 0 ≤ z ∧ z < 2 ^ (8 - r)) : (digs true (x + z) 8).take r = (digs true x 8).take r := by
  apply List.ext_getElem?
  intro i
  rw [List.getElem?_take, List.getElem?_take]
  split
  · rename_i hi
    rw [digs_at true 8 _ i (by omega), digs_at true 8 _ i (by omega)]
    simp only [pk, if_true]
    have hp := two_pos (8 - r)
    have h1 : x = 2 ^ (8 - r) * (x / 2 ^ (8 - r)) := by have := Int.emod_add_mul_ediv x (2 ^ (8 - r)); rw [hx] at this; omega
    have h2 : (x + z) / 2 ^ (8 - r) = x / 2 ^ (8 - r) := by
      have h3 : x + z = z + 2 ^ (8 - r) * (x / 2 ^ (8 - r)) := by omega
      rw [h3, Int.add_mul_ediv_left _ _ (by omega), Int.ediv_eq_zero_of_lt hz.1 hz.2, Int.zero_add]
    have h4 : ∀ y : Int, y / 2 ^ (8 - 1 - i) = y / 2 ^ (8 - r) / 2 ^ (r - 1 - i) := fun y => by
      rw [Int.ediv_ediv_of_nonneg (by omega), ← Int.pow_add, show 8 - r + (r - 1 - i) = 8 - 1 - i by omega]
    rw [h4, h4, h2]
  · rfl
theorem bits_last (P : List Int) {x y : Int} {r : Nat} (h : (digs true y 8).take r = (digs true x 8).take r) : (bitsOf true (P ++ [y])).take (8 * P.length + r) = (bitsOf true (P ++ [x])).take (8 * P.length + r) := by
  rw [bitsOf_app, bitsOf_app, List.take_append, List.take_append, bitsOf_len, show 8 * P.length + r - 8 * P.length = r by omega]
  simp only [bitsOf, List.flatMap_cons, List.flatMap_nil, List.append_nil]
  rw [h]
/-- the numbers of bits that begin with numbers' bits -/
theorem vals_of (D : Nat) (l B : List Int) (hg : ∀ x ∈ l, Gx D x) (h : (bitsOf true B).take (l.length * D) = flt D l) : vals B D l.length = l := by
  apply List.ext_getElem?
  intro i
  by_cases hi : i < l.length
  · unfold vals
    rw [List.getElem?_map, List.getElem?_range hi, Option.map_some, List.getElem?_eq_getElem hi]
    congr 1
    have hgi := hg l[i] (List.getElem_mem _)
    have hle : (i + 1) * D ≤ l.length * D := Nat.mul_le_mul_right D (by omega)
    rw [Nat.succ_mul] at hle
    have h1 : nxt true B (i * D) D = digs true l[i] D := by
      have h2 : nxt true B (i * D) D = ((flt D l).drop (i * D)).take D := by
        unfold nxt
        rw [← h, List.drop_take, List.take_take, Nat.min_eq_left (by omega)]
      rw [h2]
      have h3 : flt D l = flt D (l.take i) ++ (digs true l[i] D ++ flt D (l.drop (i + 1))) := by
        rw [← flt_one, ← flt_app, ← flt_app]
        congr 1
        rw [List.singleton_append, List.getElem_cons_drop, List.take_append_drop]
      have h4 : (flt D (l.take i)).length = i * D := by rw [flt_len, List.length_take, Nat.min_eq_left (by omega)]
      rw [h3, ← h4, List.drop_left, List.take_append_of_le_length (by rw [digs_len]; omega), List.take_of_length_le (by rw [digs_len]; omega)]
    rw [h1]
    exact digs_val true D _ hgi.1 hgi.lt
  · rw [List.getElem?_eq_none (by rw [vals_len]; omega), List.getElem?_eq_none (by omega)]
/-- the row's last byte -/
theorem pack_last (L : List Int) (r : Nat) (hB : B01 L) (hr : r = L.length % 8) (hr0 : 0 < r) : ∃ (P : List Int) (x : Int), pack true (fz L) = P ++ [x] ∧ P.length = L.length / 8 ∧ (0 ≤ x ∧ x ≤ 255) ∧ x % 2 ^ (8 - r) = 0 := by
  have hlen : (pack true (fz L)).length = L.length / 8 + 1 := by rw [pack_len, fz_len]; unfold nby; omega
  obtain ⟨P, x, hPx⟩ : ∃ P x, pack true (fz L) = P ++ [x] := ⟨(pack true (fz L)).dropLast, (pack true (fz L)).getLast (by intro h; rw [h] at hlen; simp at hlen), (List.dropLast_concat_getLast _).symm⟩
  have hPl : P.length = L.length / 8 := by rw [hPx] at hlen; simpa using hlen
  refine ⟨P, x, hPx, hPl, pack_bs (fz_01 hB) x (by rw [hPx]; simp), ?_⟩
  have hat := pack_at true (fz L) (L.length / 8) (by rw [fz_len]; unfold nby; omega)
  rw [hPx, List.getElem?_append_right (by omega), hPl, Nat.sub_self] at hat
  simp only [List.getElem?_cons_zero, Option.some.injEq] at hat
  have hd : ((fz L).drop (8 * (L.length / 8))).take 8 = L.drop (8 * (L.length / 8)) ++ List.replicate (8 - r) 0 := by
    unfold fz
    rw [List.drop_append_of_le_length (by omega), List.take_of_length_le (by simp; unfold pad; omega), show pad L.length = 8 - r by unfold pad; omega]
  rw [hd] at hat
  unfold part at hat
  have hll : (L.drop (8 * (L.length / 8)) ++ List.replicate (8 - r) (0 : Int)).length = 8 := by simp; omega
  simp only [if_true, hll, Nat.sub_self, Int.pow_zero, Int.mul_one] at hat
  rw [hat, hv_zeros]
  exact Int.mul_emod_left _ _
theorem u8_low {x z : Int} {s : Nat} (hs : s ≤ 8) (hx : 0 ≤ x ∧ x ≤ 255) (hm : x % 2 ^ s = 0) (hz : 0 ≤ z ∧ z < 2 ^ s) : bits BinOp.or IntKind.u8 x z = x + z := by
  have h1 : (2 : Int) ^ s ≤ 2 ^ 8 := by
    have := Nat.pow_le_pow_right (show 0 < 2 by omega) hs
    rw [← two_cast, ← two_cast]; omega
  exact bits_join .u8 8 (by decide) wraps_u8 s x z hx.1 hm (by omega) hz.1 hz.2 (by omega)

set_option maxHeartbeats 2000000 in
theorem sampleBack_any (w : World) (A : Option Addr) (n c : Nat) (l : List Int) (hn : l.length = n) (hcc : n ≤ c) (hmm : c ≤ 9223372036854775807) (hR : Rd w w.heap.size A (iv l)) (hI : Is l)
    (d : Int) (hd : -9223372036854775808 ≤ d ∧ d ≤ 9223372036854775807) (q : Int) (hq : 0 ≤ q ∧ q ≤ 255) :
    Calls Try.prog 13 #[.slice A n c, .int .i64 d, .int .u8 q] w fun e w' => e = .returned (.bool true) ∧ Below w.heap.size w w' := by
  have HN := Lib.hid hn
  clear hn
  go_enter Try.func13, Try.ntmps13
  go_wp2_with fail
  refine (pack123 w).mono ?_; rintro e w1 ⟨g1, d1, rfl, hc1, hd1, hd2, hb1⟩
  clear hc1
  by_cases hn5 : 5000 < n
  · go_wp2
    go_ret
    exact ⟨rfl, hb1⟩
  have hs1 := hb1.size
  have hR1 := (hR.below hb1).more hs1
  by_cases hg : Dp d ∧ n ≤ 1048576
  · have hdd := hg.1.bd'
    obtain ⟨D, rfl⟩ := Int.eq_ofNat_of_zero_le (show 0 ≤ d by omega)
    go_wp2_with fail
    refine (pack_any A n c D l w1 HN.out hR1 hI hg).mono ?_; rintro e w3 ⟨p1, p2, hb3⟩
    have hb3' := hb1.trans (hb3.mono hb1.size)
    by_cases hall : ∀ x ∈ l, Gx D x
    · obtain ⟨v, rfl, hv⟩ := p1 hall
      clear p1 p2
      have HALL := Lib.hid hall
      clear hall
      have hL := flt_len D l
      rw [HN.out] at hL
      have hmul : n * D ≤ 80000 := by
        calc n * D ≤ 5000 * 16 := Nat.mul_le_mul (by omega) (by omega)
          _ = 80000 := rfl
      have hmi : ((n : Int) * (D : Int)) = ((n * D : Nat) : Int) := (Int.natCast_mul n D).symm
      have hgu : Gu (nby (n * D)) D n := ⟨hg.1, by omega, by rw [hmi]; unfold nby; omega⟩
      have HGU := Lib.hid hgu
      have hvals := fun B hh => vals_of D l B HALL.out hh
      rw [HN.out] at hvals
      have HV := Lib.hid hvals
      have hB01 := flt_01 D l
      clear hgu hvals
      generalize flt D l = L at *
      generalize hm : n * D = m at *
      have HM := Lib.hid hm
      have HL := Lib.hid hL
      clear hm hL
      by_cases hm8 : m % 8 = 0
      · have hk0 : ((m : Int) % 8) ≤ 0 := by omega
        have hbits : (bitsOf true (pack true (fz L))).take m = L := by
          rw [bitsOf_pack true (nby L.length) (fz L) (fz_01 hB01) (fz_len L)]
          unfold fz; rw [← HL.out, List.take_left]
        obtain ⟨Av, cv, rfl, hRv⟩ := own_slice hv
        have HB := Lib.hid (HV.out _ hbits)
        have hbs := pack_bs (h := true) (fz_01 hB01)
        have hpl : (pack true (fz L)).length = nby m := by rw [pack_len, fz_len, nby_nby, HL.out]
        have HPL := Lib.hid hpl
        clear hbits hv hpl hm8
        go_wp2_with fail
        refine (unpack_any Av (nby m) cv D n (pack true (fz L)) w3 HPL.out hRv hbs HGU.out).mono ?_; rintro e w4 ⟨u, rfl, hu, hb4⟩
        rw [HB.out] at hu
        obtain ⟨Au, cu, rfl, hRu⟩ := own_slice hu
        have hb4' := hb3'.trans (hb4.mono hb3'.size)
        clear hu
        go_wp2_with (go_at_call 41; refine (ints_eq Au A n cu c l w4 HN.out hRu ((hR.below hb4').more hb4'.size) (by omega)).mono ?_; rintro e w5 ⟨rfl, hb5⟩)
        go_ret
        exact ⟨rfl, hb4'.trans (hb5.mono hb4'.size)⟩
      · obtain ⟨r, hr⟩ : ∃ r, r = m % 8 := ⟨_, rfl⟩
        obtain ⟨P, x, hPx, hPl, hx, hx0⟩ := pack_last L r hB01 (by rw [HL.out]; exact hr) (by omega)
        obtain ⟨k, hk⟩ : ∃ k, k = P.length := ⟨_, rfl⟩
        have hmk : m ≤ 8 * k + r ∧ 8 * k + r ≤ m := by rw [HL.out] at hPl; omega
        have hnb : nby m = k + 1 := by unfold nby; omega
        rw [hnb, hPx] at hv
        obtain ⟨g, gd, rfl, hgd1, hgd2, _, hgl⟩ := own_pos hv (by omega)
        have hgb := (hv.lt g rfl).1
        have hcl : w3.cell? ⟨g, k, none⟩ = some (.int .u8 x) := by rw [hv.cellAt _ (by omega), bv_get (by simp; omega)]; simp [hk]
        have hfz := hv.frozenAt k
        have hst : ∀ z, (w3.setCell ⟨g, k, none⟩ (.int .u8 z)).ownsRow w1.heap.size 5 1 (.slice (some ⟨g, 0, none⟩) (k + 1) gd) (k + 1) (bv (P ++ [z])) := fun z => by
          have h := (hv.stored k (.int .u8 z)).1
          rwa [show (bv (P ++ [x])).set k (.int .u8 z) = bv (P ++ [z]) by rw [hk]; simp [bv]] at h
        have hr7 : 1 ≤ r ∧ r ≤ 7 := by omega
        have HST := Lib.hid hst
        have HPX := Lib.hid hPx
        have HX0 := Lib.hid hx0
        have HK := Lib.hid hk
        have HNB := Lib.hid hnb
        clear hm8 hPl hPx hx0 hnb hk hst hv
        have hri : ((m : Int) % 8) = (r : Int) := by omega
        clear hr
        have hz : 0 ≤ q % 2 ^ (8 - r) ∧ q % 2 ^ (8 - r) < 2 ^ (8 - r) := by
          have := two_pos (8 - r)
          exact ⟨Int.emod_nonneg _ (by omega), Int.emod_lt_of_pos _ (by omega)⟩
        have hy : bits BinOp.or IntKind.u8 x (bits BinOp.and IntKind.u8 q ((2 ^ (8 - r) - 1) % 256)) = x + q % 2 ^ (8 - r) := by
          have h1 := two_pos (8 - r)
          have h2 : (2 : Int) ^ (8 - r) ≤ 2 ^ 8 := by
            have := Nat.pow_le_pow_right (show 0 < 2 by omega) (show 8 - r ≤ 8 by omega)
            rw [← two_cast, ← two_cast]; omega
          rw [Int.emod_eq_of_lt (by omega) (by omega), bits_mask .u8 8 (by decide) wraps_u8 (8 - r) (by omega) q hq.1 (by omega), u8_low (by omega) hx HX0.out hz]
        have hyb : 0 ≤ x + q % 2 ^ (8 - r) ∧ x + q % 2 ^ (8 - r) ≤ 255 := by
          rw [← hy]
          have hle : bits BinOp.or IntKind.u8 x (bits BinOp.and IntKind.u8 q ((2 ^ (8 - r) - 1) % 256)) = IntKind.u8.wrap (bits BinOp.or IntKind.u8 x (bits BinOp.and IntKind.u8 q ((2 ^ (8 - r) - 1) % 256))) := by
            have h := wf_b (wf_bits .or .u8 x (bits BinOp.and IntKind.u8 q ((2 ^ (8 - r) - 1) % 256)))
            rw [IntKind.wrap_u8]; omega
          rw [hle, IntKind.wrap_u8]; omega
        have hlow := digs_low (r := r) (by omega) HX0.out hz
        have hbits : (bitsOf true (P ++ [x + q % 2 ^ (8 - r)])).take m = L := by
          have h := bits_last P hlow
          rw [← HK.out, show 8 * k + r = m by omega, ← HPX.out] at h
          rw [h, bitsOf_pack true (nby L.length) (fz L) (fz_01 hB01) (fz_len L)]
          unfold fz; rw [← HL.out, List.take_left]
        have hbs : Bs (P ++ [x + q % 2 ^ (8 - r)]) := fun z hz => by
          rcases List.mem_append.1 hz with hz | hz
          · exact pack_bs (h := true) (fz_01 hB01) z (by rw [HPX.out]; simp [hz])
          · simp at hz; rw [hz]; exact hyb
        have HB := Lib.hid (HV.out _ hbits)
        have HY := Lib.hid hy
        have hpl : (P ++ [x + q % 2 ^ (8 - r)]).length = k + 1 := by simp [HK.out]
        have HPL := Lib.hid hpl
        have hgu2 : Gu (k + 1) D n := by rw [← HNB.out]; exact HGU.out
        have HG2 := Lib.hid hgu2
        clear hz hy hyb hlow hbits hpl hgu2
        generalize x + q % 2 ^ (8 - r) = y at *
        go_wp2_with fail
        rw [HY.out]
        have ho4 := HST.out y
        have hb4 : Below w.heap.size w (w3.setCell ⟨g, k, none⟩ (.int .u8 y)) := hb3'.setCell (show w.heap.size ≤ g by have := hb1.size; omega) _
        generalize w3.setCell ⟨g, k, none⟩ (.int .u8 y) = w4 at *
        have hR4 := Rd.of_own ho4
        refine (unpack_any (some ⟨g, 0, none⟩) (k + 1) gd D n (P ++ [y]) w4 HPL.out hR4 hbs HG2.out).mono ?_; rintro e w5 ⟨u, rfl, hu, hb5⟩
        rw [HB.out] at hu
        obtain ⟨Au, cu, rfl, hRu⟩ := own_slice hu
        have hb5' := hb4.trans (hb5.mono hb4.size)
        clear hu hR4 ho4
        go_wp2_with (go_at_call 41; refine (ints_eq Au A n cu c l w5 HN.out hRu ((hR.below hb5').more hb5'.size) (by omega)).mono ?_; rintro e w6 ⟨rfl, hb6⟩)
        go_ret
        exact ⟨rfl, hb5'.trans (hb6.mono hb5'.size)⟩
    · obtain rfl := p2 hall
      unfold errV
      go_wp2
      go_ret
      exact ⟨rfl, hb3'⟩
  · go_wp2_with fail
    refine (pack_form A n c d w1 hg).mono ?_; rintro e w3 ⟨rfl, hb3⟩
    unfold errV
    go_wp2
    go_ret
    exact ⟨rfl, hb1.trans (hb3.mono hb1.size)⟩
namespace SampleBack
set_option maxRecDepth 100000 in
theorem contract (H : Type) (enc : TypeId × Value → H) (W : World) (base : Nat) (args : Array Value) (ds gs : List (DataW H)) (before : List MemPlace)
    (hval : ∀ (j : Nat) t v, Try.f13.params[j]? = some t → args[j]? = some v → Value.okWide Try.prog W .any base t v)
    (hW : DataW.Whole enc Try.prog Try.f13.params.toList Rows.sampleBackSpec.vars false W args.toList ds gs before) :
    Calls Try.prog 13 args W fun e W' => ∃ v, e = .returned v ∧ Rows.sampleBackSpec.post enc Try.prog Try.f13 false true false false W args v W' := by
  have hW' := hW
  obtain ⟨p, q, hA0, hV, rfl, hfz, hnd⟩ := hW
  have hA : DataW.TrodAll enc Try.prog W 0 (fun _ => true) true Try.f13.params.toList args.toList ds p := hA0
  rw [Try.params13] at hA hval
  clear hA0
  obtain ⟨v0, vs0, d0, ds0, p0, q0, hargs, rfl, rfl, h0, r0⟩ := trodAll_cons hA
  obtain ⟨v1, vs1, d1, ds1, p1, q1, rfl, rfl, rfl, h1, r1⟩ := trodAll_cons r0
  obtain ⟨v2, vs2, d2, ds2, p2, q2, rfl, rfl, rfl, h2, r2⟩ := trodAll_cons r1
  obtain ⟨rfl, rfl, rfl⟩ := trodAll_nil r2
  obtain rfl : args = #[v0, v1, v2] := by cases args; simp_all
  obtain ⟨rfl, rfl⟩ := trodVars_none hV
  obtain ⟨Ax0, nx0, cx0, rfl⟩ := okWide_slice Try.underlying43 (hval 0 _ _ rfl rfl)
  obtain ⟨fu0, hf0⟩ := h0
  obtain ⟨A', n', c', x0, ev0, hnx0, hcx0, hmx0, hRx0, hwx0⟩ := open_rd Try.underlying43 Try.underlying3 (by kernel_rfl) hf0
  injection ev0 with ea eb ec
  subst ea eb ec
  obtain ⟨x1, rfl, rfl, rfl, wx1⟩ := open_int Try.underlying3 (hval 1 _ _ rfl rfl) h1
  obtain ⟨x2, rfl, rfl, rfl, wx2⟩ := open_int Try.underlying5 (hval 2 _ _ rfl rfl) h2
  refine (sampleBack_any W Ax0 nx0 cx0 x0 hnx0 hcx0 hmx0 hRx0 (wf_is hwx0) x1 (wf_i wx1) x2 (wf_b wx2)).mono fun e W' ⟨he, hb⟩ => ?_
  subst he
  exact ⟨_, rfl, post_true Facts.laid hW' rfl rfl Try.underlying4 (by kernel_rfl) rfl hb⟩

set_option maxRecDepth 100000 in
theorem lifted (os : Os) (started : os.Started) (H : Type) (enc : TypeId × Value → H) :
    ReturnsInHanded {} Try.checked os 13 .any (Rows.sampleBackSpec.pre6 enc Try.prog Try.f13 Rows.sampleBackRow.domain false) (Rows.sampleBackSpec.post enc Try.prog Try.f13 false true false false) := by
  refine returnsInHanded_of_change (C := Try.checked) Facts.own started (by kernel_rfl) Try.func13
    (ChangeSpec.witness6 (enc := enc) (C := Try.checked) (os := os) false ⟨#[], #[.slice none 0 0, .int .i64 0, .int .u8 0], []⟩ 8 (by kernel_rfl) (by kernel_rfl) (by kernel_rfl) (by kernel_rfl)) ?_
  intro W base args ds gs before hval hW _ _
  exact contract H enc W base args ds gs before hval hW

theorem k_wf : Rows.sampleBackRow.wf (OpenSpec.ofChange Rows.sampleBackSpec) = true := by kernel_rfl
theorem k_inp : (Rows.sampleBackRow.inPlace == Try.prog.inPlace 13) = true := by kernel_rfl
theorem k_unf : (Rows.sampleBackRow.unfollowed == Try.prog.unfollowed 13) = true := by kernel_rfl
theorem k_rec : (Rows.sampleBackRow.recurses == Try.prog.recurses 13) = true := by kernel_rfl
theorem k_nam : (Rows.sampleBackRow.named == Try.prog.varsNamed 13) = true := by kernel_rfl
theorem k_pk : (Rows.sampleBackRow.plainKeys == Try.prog.plainKeys) = true := (congrArg (fun x => Rows.sampleBackRow.plainKeys == x) Facts.plainKeys).trans (by kernel_rfl)
theorem k_lf : (Rows.sampleBackRow.lifted == Try.prog.liftsFinal) = true := (congrArg (fun x => Rows.sampleBackRow.lifted == x) Facts.liftsFinal).trans (by kernel_rfl)
theorem k_mk : (Try.prog.make == some Rows.sampleBackRow.make) = true := (congrArg (fun x => x == some Rows.sampleBackRow.make) Facts.make).trans (by kernel_rfl)
theorem k_par : (Try.f13.params.all (Try.prog.readableRec ·)) = true := by kernel_rfl
theorem k_maps : (Rows.sampleBackRow.maps == (Try.f13.params.toList ++ Rows.sampleBackSpec.plain.varTypes Try.prog).any (Try.prog.mapsRec ·)) = true := by kernel_rfl
theorem k_ifs : (Rows.sampleBackRow.ifaces == (Try.f13.params.toList ++ Rows.sampleBackSpec.plain.varTypes Try.prog).any (Try.prog.ifacesRec ·)) = true := by kernel_rfl
theorem k_lps : (Rows.sampleBackRow.loops == (Try.f13.params.toList ++ Rows.sampleBackSpec.plain.varTypes Try.prog).any (Try.prog.loopsFrom ·)) = true := by kernel_rfl
theorem k_wk : (Rows.sampleBackRow.wideKeys == (Try.f13.params.toList ++ Rows.sampleBackSpec.plain.varTypes Try.prog ++ Try.f13.resultTypes.toList).any (Try.prog.wideKeysFrom ·)) = true := by kernel_rfl
theorem k_vl : (Rows.sampleBackRow.veiled == (Try.f13.params.toList ++ Rows.sampleBackSpec.plain.varTypes Try.prog ++ Try.f13.resultTypes.toList).any (Try.prog.veiledRec ·)) = true := by kernel_rfl
theorem closed : joinedFacts Try.prog 13 Try.f13 Rows.sampleBackSpec Rows.sampleBackRow = true :=
  Facts.and_i (Facts.and_i (Facts.and_i (Facts.and_i (Facts.and_i (Facts.and_i (Facts.and_i (Facts.and_i (Facts.and_i (Facts.and_i (Facts.and_i (Facts.and_i (Facts.and_i (Facts.and_i (Facts.and_i (Facts.and_i (Facts.and_i (Facts.and_i (Facts.and_i (Facts.and_i (Facts.and_i (Facts.and_i (Facts.and_i (Facts.and_i (Facts.and_i (Facts.and_i (Facts.and_i (Facts.and_i (Facts.and_i (Facts.and_i (Facts.and_i
    k_wf Facts.laid) Facts.mapsRowed_) k_par) rfl) rfl) Facts.stops) rfl) Facts.stopKnobs) k_inp) k_unf) k_rec) k_nam) k_maps) k_ifs) (by kernel_rfl)) k_lps) k_wk) rfl) (by kernel_rfl)) (by kernel_rfl)) (by kernel_rfl)) k_pk) rfl) Facts.stopsHeard) Facts.mayEnter) k_lf) k_mk) (by kernel_rfl)) (by kernel_rfl)) k_vl) (by kernel_rfl)
theorem named : Try.prog.funcNamed Rows.sampleBackRow.func = some 13 := by kernel_rfl

theorem proved : Rows.SampleBackSaid :=
  OpenClaim.holds_of_wide 13 Try.f13 rfl rfl rfl rfl rfl rfl rfl ⟨rfl, rfl, rfl, rfl, rfl⟩ rfl rfl rfl rfl rfl named Try.func13 closed
    (of_decide_eq_true (by kernel_rfl)) (by unfold Func.isWrapper; first | (rw [if_pos (by decide +kernel)]; kernel_rfl) | (rw [if_neg (by decide +kernel)]; exact ⟨rfl, rfl⟩))
    (fun os started H enc _ => lifted os started H enc)
end SampleBack
#print axioms SampleBack.proved
end Go.Proofs.Ytkmgojoojboidaa
