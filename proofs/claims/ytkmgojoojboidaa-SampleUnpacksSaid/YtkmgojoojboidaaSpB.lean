/-
  SampleUnpacks: which numbers any row has. No condition.
-/
import Derived.Test.YtkmgojoojboidaaSpA
import Derived.Test.YtkmgojoojboidaaBiS
import Derived.Test.YtkmgojoojboidaaCopy
import Derived.Test.YtkmgojoojboidaaFacts
namespace Go.Proofs.Ytkmgojoojboidaa
open Go.ChangeShapes Go.WideShapes Go.ChangeAt Go.WideMaps Go.WideElems Go.RowKit Go.Joins
set_option linter.unusedVariables false
set_option maxRecDepth 100000

theorem Rd.sub {w : World} {B g : Nat} {xs : List Value} (h : Rd w B (some ⟨g, 0, none⟩) xs) (m k : Nat) : Rd w B (some ⟨g, m, none⟩) ((xs.drop m).take k) := by
  rcases h with h | ⟨b, off, hA, hb, hc⟩
  · left; rw [h]; simp
  · injection hA with hA
    injection hA with h1 h2
    subst h1 h2
    refine .inr ⟨g, m, rfl, hb, fun i u hu => ?_⟩
    rw [List.getElem?_take] at hu
    split at hu
    · rw [List.getElem?_drop] at hu
      have := hc (m + i) u hu
      rwa [Nat.zero_add] at this
    · cases hu

set_option maxHeartbeats 1000000 in
theorem runpack_bad (A : Option Addr) (n cc : Nat) (d c : Int) (w : World) (hb : ¬ Gu n d c) (hn : n ≤ 1000000) (hc : -9223372036854775808 ≤ c ∧ c ≤ 9223372036854775807) :
    Calls Try.prog 42 #[.slice A n cc, .int .i64 d, .int .i64 c] w fun e w' => e = .returned (.tuple #[.slice none 0 0, .bool false]) ∧ w = w' := by
  by_cases h1 : Dp d
  · have hd := h1.bd
    by_cases h2 : c < 0
    · clear hb
      go_enter Try.func42, Try.ntmps42
      go_wp2_with (go_at_call 23; refine (rdeep_is d true (decide_eq_true h1) _).mono ?_; rintro e w1 ⟨rfl, rfl⟩)
      go_ret2
      exact ⟨rfl, rfl⟩
    by_cases h3 : 1048576 < c
    · clear hb
      go_enter Try.func42, Try.ntmps42
      go_wp2_with (go_at_call 23; refine (rdeep_is d true (decide_eq_true h1) _).mono ?_; rintro e w1 ⟨rfl, rfl⟩)
      go_ret2
      exact ⟨rfl, rfl⟩
    have hm := mul_bd (c := c) (d := d) (by omega) hd
    have hne : ¬ ((n : Int) = (c * d + 7) / 8) := fun h => hb ⟨h1, by omega, h⟩
    clear hb
    obtain ⟨P, hP⟩ := Int.eq_ofNat_of_zero_le hm.1
    rw [hP] at hne hm
    have hP1 : c * d = (P : Int) := hP
    go_enter Try.func42, Try.ntmps42
    go_wp2_with (go_at_call 23; refine (rdeep_is d true (decide_eq_true h1) _).mono ?_; rintro e w1 ⟨rfl, rfl⟩)
    clear hP hP1
    obtain ⟨q, hq1, hq2⟩ : ∃ q, P ≤ 8 * q ∧ 8 * q ≤ P + 7 := ⟨nby P, by unfold nby; omega, by unfold nby; omega⟩
    go_loop [8] (fun v => ∃ j : Nat, v = .int .i64 j ∧ P ≤ j ∧ j ≤ 8 * q) (fun v => 8 * q - (intOf v).toNat)
    case atStart => exact ⟨P, rfl, by omega, by omega⟩
    case round =>
      obtain ⟨j, rfl, hj1, hj2⟩ := hrel
      by_cases hj : j % 8 = 0
      · have h8 : ((j : Int) % 8 != 0) = false := by simp; omega
        have h9 : ((8 * (n : Int)) != (j : Int)) = true := by simp only [bne_iff_ne, ne_eq]; intro h; apply hne; omega
        clear hj
        go_wp2
        go_ret2
        exact ⟨rfl, rfl⟩
      · have h8 : ((j : Int) % 8 != 0) = true := by simp; omega
        go_wp2
        go_round
        case rel => exact ⟨j + 1, by go_num, by omega, by omega⟩
        case measure => simp [intOf]; omega
  · clear hb
    go_enter Try.func42, Try.ntmps42
    go_wp2_with (go_at_call 23; refine (rdeep_is d false (decide_eq_false h1) _).mono ?_; rintro e w1 ⟨rfl, rfl⟩)
    go_ret2
    exact ⟨rfl, rfl⟩

set_option maxHeartbeats 2000000 in
theorem runpack_any (A : Option Addr) (n cc D C : Nat) (B : List Int) (w : World) (hn : B.length = n) (hR : Rd w w.heap.size A (bv B)) (hB : Bs B) (hg : Gu n D C) :
    Calls Try.prog 42 #[.slice A n cc, .int .i64 D, .int .i64 C] w fun e w' => ∃ v, e = .returned (.tuple #[v, .bool true]) ∧ w'.ownsRow w.heap.size 3 1 v C (iv (vals B D C)) ∧ Below w.heap.size w w' := by
  obtain ⟨i0, hi, hz0, hz1, hz2⟩ := info_parts Try.info_int
  obtain ⟨h1, h2, h3⟩ := hg
  have hd := h1.bd
  have hm := mul_bd h2 hd
  have hCD : ((C * D : Nat) : Int) = (C : Int) * (D : Int) := Int.natCast_mul C D
  obtain ⟨P, hP⟩ : ∃ P, P = C * D := ⟨_, rfl⟩
  rw [← hP] at hCD
  have h5 : P ≤ 8 * n ∧ 8 * nby P ≤ 8 * n ∧ 8 * n ≤ 8 * nby P := by unfold nby; omega
  have hnle : n ≤ 2097153 := by omega
  have hkD : ∀ k, k < C → (k + 1) * D ≤ P := fun k hk => by rw [hP]; exact Nat.mul_le_mul_right D (by omega)
  have HKD := Lib.hid hkD
  have HN := Lib.hid hn
  have hm1 : P ≤ 16777216 := by omega
  have hC1 := hCD.symm
  clear hn h3 hkD hCD hP
  go_enter Try.func42, Try.ntmps42
  go_wp2_with (go_at_call 23; refine (rdeep_is D true (decide_eq_true h1) _).mono ?_; rintro e w1 ⟨rfl, rfl⟩)
  clear hC1 hm
  go_loop [8] (fun v => ∃ j : Nat, v = .int .i64 j ∧ P ≤ j ∧ j ≤ 8 * nby P) (fun v => 8 * nby P - (intOf v).toNat)
  case atStart => exact ⟨P, rfl, by omega, by unfold nby; omega⟩
  case round =>
    obtain ⟨j, rfl, hj1, hj2⟩ := hrel
    by_cases hj : j % 8 = 0
    · have h8 : ((j : Int) % 8 != 0) = false := by simp; omega
      have h9 : ((8 * (n : Int)) != (j : Int)) = false := by simp; unfold nby at *; omega
      clear hj
      go_wp2_with fail
      refine (rbits_any A n cc B true w HN.out hR hB (by omega)).mono ?_; rintro e w2 ⟨lv', rfl, ho2, hb2⟩
      obtain ⟨Al, cl, rfl, hRl⟩ := own_slice ho2
      have hclc : 8 * n ≤ cl ∧ cl ≤ 9223372036854775807 := by
        rcases ho2.2 with ⟨hv, h0⟩ | ⟨g, cap, cur, hv, hg, hh, hnc, hcm, _⟩
        · injection hv with _ _ h2; omega
        · injection hv with _ _ h2
          unfold maxLen at hcm; omega
      have hsz2 := hb2.size
      go_wp2
      go_loopw [10, 11] (fun v i wr => ∃ k : Nat, k ≤ C ∧ i = .int .i64 k ∧ wr.ownsRow w2.heap.size 3 1 v k (iv ((vals B D C).take k)) ∧ Below w2.heap.size w2 wr) (fun _ i _ => C - (intOf i).toNat)
      case atStart => exact ⟨0, Nat.zero_le _, rfl, World.ownsRow_nil _ _ _ _, Below.refl _ _⟩
      case round =>
        obtain ⟨k, hk, rfl, hown, hb⟩ := hrel
        by_cases hlt : k < C
        · have hkd := HKD.out k hlt
          rw [Nat.succ_mul] at hkd
          have hdrop : 0 < D := by omega
          have hsb : ∃ gl, Al = some ⟨gl, 0, none⟩ := by
            rcases ho2.2 with ⟨hv, h0⟩ | ⟨gl, cap, cur, hv, _⟩
            · omega
            · injection hv with hv; exact ⟨gl, hv⟩
          obtain ⟨gl, rfl⟩ := hsb
          have hRn := (hRl.below hb).sub (k * D) D
          rw [show (List.drop (k * D) (iv (bitsOf true B))).take D = iv (nxt true B (k * D) D) by unfold nxt iv; rw [List.map_take, List.map_drop]] at hRn
          have hnl := nxt_len true B (k * D) D (by rw [HN.out]; omega)
          have hn01 := nxt_01 true B (k * D) D
          have hvt := vals_take B D C k hlt
          have HVT := Lib.hid hvt
          have hnum := number_any (some ⟨gl, k * D, none⟩) D (cl - k * D) (nxt true B (k * D) D) true _ wr hnl hRn hn01 (by omega)
          have HNU := Lib.hid hnum
          have hpb := part_bd (h := true) (c := D) hn01 (by omega)
          clear hvt hRn hnl hn01 hnum
          have hkdi : ((k : Int) * (D : Int)) = ((k * D : Nat) : Int) := (Int.natCast_mul k D).symm
          generalize part true D (nxt true B (k * D) D) = x at *
          generalize k * D = q at *
          have hqc : q < cl := by omega
          have hown' := hown.alloc (.cells #[Value.int .i64 x] 3)
          have hsz := hb.size
          go_wp2_with (first
            | (go_at_call 47; refine HNU.out.mono ?_; rintro e w3 ⟨rfl, rfl⟩)
            | (at_builtin; refine wpList_app2 _ rfl (.tmp 43) (.tmp 55) 43 rfl Try.underlying43 hi hz0 hz1 hz2 rfl hown' rfl rfl (Rd.new1 _ _ _) rfl (by simp [Value.oneCell']) (by omega) (by omega) (by simp; omega) ?_; intro v4 w4 hown4 hg4; have hb4 : Below w2.heap.size w2 w4 := below_app2 (hb.alloc hsz _) hown' hg4 (Nat.le_refl _) (by simp; omega)))
          go_roundw
          case rel => exact ⟨k + 1, by omega, by go_num, by rw [HVT.out, iv_app]; exact hown4, hb4⟩
          case measure => simp [intOf]; omega
        · go_wp2
          go_ret2
          obtain rfl : k = C := by omega
          refine ⟨_, rfl, ?_, hb2.trans (hb.mono hsz2)⟩
          rw [List.take_of_length_le (by rw [vals_len]; omega)] at hown
          exact own_base hown (fun i hi => Nat.le_trans hsz2 (hown.lt i hi).1)
    · have h8 : ((j : Int) % 8 != 0) = true := by simp; omega
      go_wp2
      go_round
      case rel => exact ⟨j + 1, by go_num, by omega, by unfold nby at *; omega⟩
      case measure => simp [intOf]; unfold nby at *; omega

theorem Bs.lit1 {x : Int} (h : 0 ≤ x ∧ x ≤ 255) : Bs [x] := fun y hy => by simp at hy; subst hy; exact h

set_option maxHeartbeats 2000000 in
theorem sampleUnpacks_any (w : World) (A : Option Addr) (n cc : Nat) (B : List Int) (hn : B.length = n) (hcc : n ≤ cc) (hmm : cc ≤ 9223372036854775807) (hR : Rd w w.heap.size A (bv B)) (hB : Bs B)
    (d : Int) (hd : -9223372036854775808 ≤ d ∧ d ≤ 9223372036854775807) (c : Int) (hc : -9223372036854775808 ≤ c ∧ c ≤ 9223372036854775807) :
    Calls Try.prog 8 #[.slice A n cc, .int .i64 d, .int .i64 c] w fun e w' => e = .returned (.bool true) ∧ Below w.heap.size w w' := by
  have HN := Lib.hid hn
  clear hn
  go_enter Try.func8, Try.ntmps8
  have hb0 : Below w.heap.size w (w.alloc (.cells #[Value.int .u8 108] 5)) := (Below.refl _ _).alloc (Nat.le_refl _) _
  go_wp2_with fail
  refine (unpack_any _ 1 _ 2 3 [108] _ rfl (by have := (Rd.new1 w 5 (.int .u8 108)); simpa [bv] using this) (Bs.lit1 (by omega)) ⟨by unfold Dp; omega, by omega, by decide⟩).mono ?_; rintro e w1 ⟨v1, rfl, ho1, hb1⟩
  have hb1' := hb0.trans (hb1.mono hb0.size)
  rw [show vals [108] 2 3 = [1, 2, 3] from by decide +kernel] at ho1
  obtain ⟨A1, c1, rfl, hR1⟩ := own_slice ho1
  have hR1b := (hR1.below ((Below.refl _ _).alloc (Nat.le_refl _) (.cells #[Value.int .i64 1, .int .i64 2, .int .i64 3] 3))).more (show w1.heap.size ≤ (w1.alloc (.cells #[Value.int .i64 1, .int .i64 2, .int .i64 3] 3)).heap.size by simp)
  have hR1c := Rd.lit w1 3 (iv [1, 2, 3])
  have hb2 : Below w.heap.size w (w1.alloc (.cells #[Value.int .i64 1, .int .i64 2, .int .i64 3] 3)) := hb1'.alloc hb1'.size _
  have hR1d : Rd (w1.alloc (.cells #[Value.int .i64 1, .int .i64 2, .int .i64 3] 3)) (w1.alloc (.cells #[Value.int .i64 1, .int .i64 2, .int .i64 3] 3)).heap.size (some ⟨w1.heap.size, 0, none⟩) (iv [1, 2, 3]) := by
    have h : Rd (w1.alloc (.cells #[Value.int .i64 1, .int .i64 2, .int .i64 3] 3)) (w1.heap.size + 1) (some ⟨w1.heap.size, 0, none⟩) (iv [1, 2, 3]) := hR1c
    simpa using h
  clear ho1 hR1 hR1c hb0 hb1
  go_wp2_with fail
  refine (ints_eq A1 _ 3 c1 3 [1, 2, 3] _ rfl hR1b hR1d (by omega)).mono ?_; rintro e w3 ⟨rfl, hb3⟩
  have hb3' := hb2.trans (hb3.mono hb2.size)
  clear hR1b hR1d hb2 hb3 hb1'
  have hs3 := hb3'.size
  by_cases hn5 : 500 < n
  · go_wp2
    go_ret
    exact ⟨rfl, hb3'⟩
  go_wp2_with fail
  refine (copy_any A n cc B w3 HN.out ((hR.below hb3').more hs3) (by omega)).mono ?_; rintro e w4 ⟨g, gd, rfl, ho4, hb4⟩
  have hb4' := hb3'.trans (hb4.mono hs3)
  have hR4 : Rd w4 w4.heap.size (some ⟨g, 0, none⟩) (bv B) := by
    have h := Rd.of_own ho4; rw [bv_app] at h; exact h.pre
  by_cases hg : Gu n d c
  · obtain ⟨C, rfl⟩ := Int.eq_ofNat_of_zero_le hg.2.1.1
    obtain ⟨D, rfl⟩ := Int.eq_ofNat_of_zero_le (show 0 ≤ d by have := hg.1.bd; omega)
    have hg2 := hg.2.1
    go_wp2_with fail
    refine (unpack_any _ n gd D C B w4 HN.out hR4 hB hg).mono ?_; rintro e w5 ⟨v5, rfl, ho5, hb5⟩
    have hb5' := hb4'.trans (hb5.mono hb4'.size)
    go_wp2_with fail
    refine (runpack_any A n cc D C B w5 HN.out ((hR.below hb5').more hb5'.size) hB hg).mono ?_; rintro e w6 ⟨v6, rfl, ho6, hb6⟩
    have hb6' := hb5'.trans (hb6.mono hb5'.size)
    have ho5b := own_keep ho5 hb6
    have ho4b := own_keep (own_keep ho4 hb5) hb6
    obtain ⟨A5, c5, rfl, hR5⟩ := own_slice ho5b
    obtain ⟨A6, c6, rfl, hR6⟩ := own_slice ho6
    clear ho4 ho5 ho5b ho6 hR4
    go_wp2_with fail
    refine (ints_eq A5 A6 C c5 c6 (vals B D C) w6 (vals_len _ _ _) hR5 hR6 (by omega)).mono ?_; rintro e w7 ⟨rfl, hb7⟩
    have hb7' := hb6'.trans (hb7.mono hb6'.size)
    go_wp2_with (go_at_call 17; refine (kept_any A n cc g gd _ B w7 HN.out ((hR.below hb7').more hb7'.size) hB (by omega) (own_keep ho4b hb7)).mono ?_; rintro e w' ⟨rfl, rfl⟩)
    go_ret
    exact ⟨rfl, hb7'⟩
  · go_wp2_with fail
    refine (unpack_bad _ n gd d c w4 hg (by omega) hc).mono ?_; rintro e w5 ⟨rfl, hb5⟩
    unfold errV
    have hb5' := hb4'.trans (hb5.mono hb4'.size)
    go_wp2_with fail
    refine (runpack_bad A n cc d c w5 hg (by omega) hc).mono ?_; rintro e w' ⟨rfl, rfl⟩
    have ho4b := own_keep ho4 hb5
    clear ho4 hR4
    go_wp2_with fail
    refine (ints_eq none none 0 0 0 [] w5 rfl (Rd.nil_ _ _ _) (Rd.nil_ _ _ _) (by omega)).mono ?_; rintro e w7 ⟨rfl, hb7⟩
    have hb7' := hb5'.trans (hb7.mono hb5'.size)
    go_wp2_with (first
      | (go_at_call 24; refine (is_err 6 6 (by omega) _).mono ?_; rintro e w' ⟨rfl, rfl⟩)
      | (go_at_call 17; refine (kept_any A n cc g gd _ B w7 HN.out ((hR.below hb7').more hb7'.size) hB (by omega) (own_keep ho4b hb7)).mono ?_; rintro e w' ⟨rfl, rfl⟩))
    go_ret
    exact ⟨rfl, hb7'⟩
namespace SampleUnpacks
set_option maxRecDepth 100000 in
theorem contract (H : Type) (enc : TypeId × Value → H) (W : World) (base : Nat) (args : Array Value) (ds gs : List (DataW H)) (before : List MemPlace)
    (hval : ∀ (j : Nat) t v, Try.f8.params[j]? = some t → args[j]? = some v → Value.okWide Try.prog W .any base t v)
    (hW : DataW.Whole enc Try.prog Try.f8.params.toList Rows.sampleUnpacksSpec.vars false W args.toList ds gs before) :
    Calls Try.prog 8 args W fun e W' => ∃ v, e = .returned v ∧ Rows.sampleUnpacksSpec.post enc Try.prog Try.f8 false true false false W args v W' := by
  have hW' := hW
  obtain ⟨p, q, hA0, hV, rfl, hfz, hnd⟩ := hW
  have hA : DataW.TrodAll enc Try.prog W 0 (fun _ => true) true Try.f8.params.toList args.toList ds p := hA0
  rw [Try.params8] at hA hval
  clear hA0
  obtain ⟨v0, vs0, d0, ds0, p0, q0, hargs, rfl, rfl, h0, r0⟩ := trodAll_cons hA
  obtain ⟨v1, vs1, d1, ds1, p1, q1, rfl, rfl, rfl, h1, r1⟩ := trodAll_cons r0
  obtain ⟨v2, vs2, d2, ds2, p2, q2, rfl, rfl, rfl, h2, r2⟩ := trodAll_cons r1
  obtain ⟨rfl, rfl, rfl⟩ := trodAll_nil r2
  obtain rfl : args = #[v0, v1, v2] := by cases args; simp_all
  obtain ⟨rfl, rfl⟩ := trodVars_none hV
  obtain ⟨Ax0, nx0, cx0, rfl⟩ := okWide_slice Try.underlying22 (hval 0 _ _ rfl rfl)
  obtain ⟨fu0, hf0⟩ := h0
  obtain ⟨A', n', c', x0, ev0, hnx0, hcx0, hmx0, hRx0, hwx0⟩ := open_rd Try.underlying22 Try.underlying5 (by kernel_rfl) hf0
  injection ev0 with ea eb ec
  subst ea eb ec
  obtain ⟨x1, rfl, rfl, rfl, wx1⟩ := open_int Try.underlying3 (hval 1 _ _ rfl rfl) h1
  obtain ⟨x2, rfl, rfl, rfl, wx2⟩ := open_int Try.underlying3 (hval 2 _ _ rfl rfl) h2
  refine (sampleUnpacks_any W Ax0 nx0 cx0 x0 hnx0 hcx0 hmx0 hRx0 (wf_bs hwx0) x1 (wf_i wx1) x2 (wf_i wx2)).mono fun e W' ⟨he, hb⟩ => ?_
  subst he
  exact ⟨_, rfl, post_true Facts.laid hW' rfl rfl Try.underlying4 (by kernel_rfl) rfl hb⟩

set_option maxRecDepth 100000 in
theorem lifted (os : Os) (started : os.Started) (H : Type) (enc : TypeId × Value → H) :
    ReturnsInHanded {} Try.checked os 8 .any (Rows.sampleUnpacksSpec.pre6 enc Try.prog Try.f8 Rows.sampleUnpacksRow.domain false) (Rows.sampleUnpacksSpec.post enc Try.prog Try.f8 false true false false) := by
  refine returnsInHanded_of_change (C := Try.checked) Facts.own started (by kernel_rfl) Try.func8
    (ChangeSpec.witness6 (enc := enc) (C := Try.checked) (os := os) false ⟨#[], #[.slice none 0 0, .int .i64 0, .int .i64 0], []⟩ 8 (by kernel_rfl) (by kernel_rfl) (by kernel_rfl) (by kernel_rfl)) ?_
  intro W base args ds gs before hval hW _ _
  exact contract H enc W base args ds gs before hval hW

theorem k_wf : Rows.sampleUnpacksRow.wf (OpenSpec.ofChange Rows.sampleUnpacksSpec) = true := by kernel_rfl
theorem k_inp : (Rows.sampleUnpacksRow.inPlace == Try.prog.inPlace 8) = true := by kernel_rfl
theorem k_unf : (Rows.sampleUnpacksRow.unfollowed == Try.prog.unfollowed 8) = true := by kernel_rfl
theorem k_rec : (Rows.sampleUnpacksRow.recurses == Try.prog.recurses 8) = true := by kernel_rfl
theorem k_nam : (Rows.sampleUnpacksRow.named == Try.prog.varsNamed 8) = true := by kernel_rfl
theorem k_pk : (Rows.sampleUnpacksRow.plainKeys == Try.prog.plainKeys) = true := (congrArg (fun x => Rows.sampleUnpacksRow.plainKeys == x) Facts.plainKeys).trans (by kernel_rfl)
theorem k_lf : (Rows.sampleUnpacksRow.lifted == Try.prog.liftsFinal) = true := (congrArg (fun x => Rows.sampleUnpacksRow.lifted == x) Facts.liftsFinal).trans (by kernel_rfl)
theorem k_mk : (Try.prog.make == some Rows.sampleUnpacksRow.make) = true := (congrArg (fun x => x == some Rows.sampleUnpacksRow.make) Facts.make).trans (by kernel_rfl)
theorem k_par : (Try.f8.params.all (Try.prog.readableRec ·)) = true := by kernel_rfl
theorem k_maps : (Rows.sampleUnpacksRow.maps == (Try.f8.params.toList ++ Rows.sampleUnpacksSpec.plain.varTypes Try.prog).any (Try.prog.mapsRec ·)) = true := by kernel_rfl
theorem k_ifs : (Rows.sampleUnpacksRow.ifaces == (Try.f8.params.toList ++ Rows.sampleUnpacksSpec.plain.varTypes Try.prog).any (Try.prog.ifacesRec ·)) = true := by kernel_rfl
theorem k_lps : (Rows.sampleUnpacksRow.loops == (Try.f8.params.toList ++ Rows.sampleUnpacksSpec.plain.varTypes Try.prog).any (Try.prog.loopsFrom ·)) = true := by kernel_rfl
theorem k_wk : (Rows.sampleUnpacksRow.wideKeys == (Try.f8.params.toList ++ Rows.sampleUnpacksSpec.plain.varTypes Try.prog ++ Try.f8.resultTypes.toList).any (Try.prog.wideKeysFrom ·)) = true := by kernel_rfl
theorem k_vl : (Rows.sampleUnpacksRow.veiled == (Try.f8.params.toList ++ Rows.sampleUnpacksSpec.plain.varTypes Try.prog ++ Try.f8.resultTypes.toList).any (Try.prog.veiledRec ·)) = true := by kernel_rfl
theorem closed : joinedFacts Try.prog 8 Try.f8 Rows.sampleUnpacksSpec Rows.sampleUnpacksRow = true :=
  Facts.and_i (Facts.and_i (Facts.and_i (Facts.and_i (Facts.and_i (Facts.and_i (Facts.and_i (Facts.and_i (Facts.and_i (Facts.and_i (Facts.and_i (Facts.and_i (Facts.and_i (Facts.and_i (Facts.and_i (Facts.and_i (Facts.and_i (Facts.and_i (Facts.and_i (Facts.and_i (Facts.and_i (Facts.and_i (Facts.and_i (Facts.and_i (Facts.and_i (Facts.and_i (Facts.and_i (Facts.and_i (Facts.and_i (Facts.and_i (Facts.and_i
    k_wf Facts.laid) Facts.mapsRowed_) k_par) rfl) rfl) Facts.stops) rfl) Facts.stopKnobs) k_inp) k_unf) k_rec) k_nam) k_maps) k_ifs) (by kernel_rfl)) k_lps) k_wk) rfl) (by kernel_rfl)) (by kernel_rfl)) (by kernel_rfl)) k_pk) rfl) Facts.stopsHeard) Facts.mayEnter) k_lf) k_mk) (by kernel_rfl)) (by kernel_rfl)) k_vl) (by kernel_rfl)
theorem named : Try.prog.funcNamed Rows.sampleUnpacksRow.func = some 8 := by kernel_rfl

theorem proved : Rows.SampleUnpacksSaid :=
  OpenClaim.holds_of_wide 8 Try.f8 rfl rfl rfl rfl rfl rfl rfl ⟨rfl, rfl, rfl, rfl, rfl⟩ rfl rfl rfl rfl rfl named Try.func8 closed
    (of_decide_eq_true (by kernel_rfl)) (by unfold Func.isWrapper; first | (rw [if_pos (by decide +kernel)]; kernel_rfl) | (rw [if_neg (by decide +kernel)]; exact ⟨rfl, rfl⟩))
    (fun os started H enc _ => lifted os started H enc)
end SampleUnpacks
#print axioms SampleUnpacks.proved
end Go.Proofs.Ytkmgojoojboidaa
