/-
  BitsReads: which numbers any bytes come to. No condition.
-/
import Derived.Test.YtkmgojoojboidaaBtW
import Derived.Test.YtkmgojoojboidaaCopy
import Derived.Test.YtkmgojoojboidaaFacts
namespace Go.Proofs.Ytkmgojoojboidaa
open Go.ChangeShapes Go.WideShapes Go.ChangeAt Go.WideMaps Go.WideElems Go.RowKit Go.Joins
set_option linter.unusedVariables false
set_option maxRecDepth 100000

theorem Rd.sub {w : World} {B g : Nat} {xs : List Value} (h : Rd w B (some ⟨g, 0, none⟩) xs) (m k : Nat) : Rd w B (some ⟨g, m, none⟩) ((xs.drop m).take k) := by
  rcases h with h | ⟨b, off, hA, hb, hc⟩
  · left; rw [h]; simp
  · injection hA with hA
    injection hA with h1 h2
    subst h1 h2
    refine .inr ⟨g, m, rfl, hb, fun i u hu => ?_⟩
    rw [List.getElem?_take] at hu
    split at hu
    · rw [List.getElem?_drop] at hu
      have := hc (m + i) u hu
      rwa [Nat.zero_add] at this
    · cases hu

theorem own_cap' {w : World} {base n c : Nat} {e : TypeId} {A : Option Addr} {xs : List Value} (h : w.ownsRow base e 1 (.slice A n c) n xs) : n ≤ c ∧ c ≤ 9223372036854775807 := by
  rcases h.2 with ⟨hv, h0⟩ | ⟨g, cap, cur, hv, hg, hh, hnc, hcm, _⟩
  · injection hv with _ _ h2; omega
  · injection hv with _ _ h2
    unfold maxLen at hcm; omega

set_option maxHeartbeats 4000000 in
theorem bitsReads_any (w : World) (A : Option Addr) (n c : Nat) (B : List Int) (hn : B.length = n) (hc : n ≤ c) (hm : c ≤ 9223372036854775807) (hR : Rd w w.heap.size A (bv B)) (hB : Bs B) (h : Bool)
    (A2 : Option Addr) (n2 c2 : Nat) (cs : List Int) (hn2 : cs.length = n2) (hc2 : n2 ≤ c2) (hm2 : c2 ≤ 9223372036854775807) (hR2 : Rd w w.heap.size A2 (iv cs)) (hI2 : Is cs) :
    Calls Try.prog 9 #[.slice A n c, .bool h, .slice A2 n2 c2] w fun e w' => e = .returned (.bool true) ∧ Below w.heap.size w w' := by
  have HN := Lib.hid hn
  have HN2 := Lib.hid hn2
  clear hn hn2
  by_cases hl1 : 2000 < n
  · go_enter Try.func9, Try.ntmps9
    go_wp2_with fail
    refine (alive03_any w).mono ?_; rintro e w1 ⟨rfl, hb1⟩
    go_wp2
    go_ret
    exact ⟨rfl, hb1⟩
  by_cases hl2 : 300 < n2
  · go_enter Try.func9, Try.ntmps9
    go_wp2_with fail
    refine (alive03_any w).mono ?_; rintro e w1 ⟨rfl, hb1⟩
    go_wp2
    go_ret
    exact ⟨rfl, hb1⟩
  go_enter Try.func9, Try.ntmps9
  go_wp2_with fail
  refine (alive03_any w).mono ?_; rintro e w1 ⟨rfl, hb1⟩
  have hs1 := hb1.size
  go_wp2_with fail
  refine (copy_any A n c B w1 HN.out ((hR.below hb1).more hs1) (by omega)).mono ?_; rintro e w2 ⟨g, d, rfl, ho2, hb2⟩
  have hb2' := hb1.trans (hb2.mono hs1)
  have hgl := ho2.lt g rfl
  have hR2' : Rd w2 w2.heap.size (some ⟨g, 0, none⟩) (bv B) := by
    have h := Rd.of_own ho2; rw [bv_app] at h; exact h.pre
  go_wp2_with fail
  refine (newReader_any (some ⟨g, 0, none⟩) n d h B w2 HN.out hR2' hB (by omega)).mono ?_; rintro e w3 ⟨p, A', c', rfl, hx3, hp3, hA3, hb3⟩
  have hb3' := hb2'.trans (hb3.mono hb2'.size)
  have ho3 := own_keep ho2 hb3
  go_wp2_with fail
  refine (kept_any A n c g d _ B w3 HN.out ((hR.below hb3').more hb3'.size) hB (by omega) ho3).mono ?_; rintro e w' ⟨rfl, rfl⟩
  have ho3s : w3.ownsRow w1.heap.size 5 1 (.slice (some ⟨g, 0, none⟩) n d) n (bv B) := by
    rw [bv_app] at ho3
    exact own_short ho3 (by rw [bv_len]; exact HN.out)
  go_wp2_with fail
  refine (over_any _ n _ B w3 ho3s hB (by omega)).mono ?_; rintro e w4 ⟨rfl, hf4⟩
  have hx4 := hx3.keep hf4 (fun e => by
    have e' : g = p := Option.some.inj e
    omega) (fun a ha e => by
    have e' : g = a.block := Option.some.inj e
    have := (hA3 a ha).1; omega)
  have hb4' : Below w.heap.size w w4 := hb3'.trans (hf4.below (fun k hk e => by
    have e' : g = k := Option.some.inj e
    omega) hb3'.size)
  have hs4 := hf4.size
  go_wp2_with fail
  refine (rbits_any A n c B h w4 HN.out ((hR.below hb4').more hb4'.size) hB (by omega)).mono ?_; rintro e w5 ⟨lv', rfl, ho5, hb5⟩
  have hb5' := hb4'.trans (hb5.mono hb4'.size)
  have hx5 := hx4.below hb5
  have hpw : w.heap.size ≤ p := by have := hb2'.size; omega
  have hlb : ∀ k, lv'.ownBlock = some k → k ≠ p := fun k hk e => by
    have := (ho5.lt k hk).1
    have := hx4.lt
    omega
  clear ho2 ho3 ho3s hf4 hx3 hx4 hb3 hb2 hb5 hR2' hb2' hb3' hb4' hs4 hgl hp3 hA3
  have hsz5 := hb5'.size
  obtain ⟨Al, cl, rfl, hRl⟩ := own_slice ho5
  have hcl := own_cap' ho5
  generalize w4.heap.size = B0 at *
  go_wp2
  go_loopw [10, 45] (fun v i wr => ∃ k : Nat, k ≤ n2 ∧ i = .int .i64 k ∧ ∃ m : Nat, v = .int .i64 m ∧ Re wr p h A' c' B m ∧ wr.ownsRow B0 3 1 (.slice Al (8 * n) cl) (8 * n) (iv (bitsOf h B)) ∧ Below w.heap.size w wr) (fun _ i _ => n2 - (intOf i).toNat)
  case atStart => exact ⟨0, Nat.zero_le _, rfl, 0, rfl, hx5, ho5, hb5'⟩
  case round =>
    obtain ⟨k, hk, rfl, m, rfl, hx, ho, hb⟩ := hrel
    clear hx5 ho5 hb5' hRl hsz5
    have hle := hx.le
    rw [HN.out] at hle
    have hBl : B.length ≤ 68719476736 := by rw [HN.out]; omega
    by_cases hlt : k < n2
    · obtain ⟨b, off, rfl, hbl, hcell⟩ := (hR2.below hb).at_ (k := k) (by rw [iv_len, HN2.out]; exact hlt)
      have hcx := hcell k _ (iv_get (by rw [HN2.out]; exact hlt))
      have hxb : -9223372036854775808 ≤ cs.getD k 0 ∧ cs.getD k 0 ≤ 9223372036854775807 := by
        have hin : cs.getD k 0 ∈ cs := by rw [List.getD_eq_getElem?_getD, List.getElem?_eq_getElem (by rw [HN2.out]; exact hlt)]; exact List.getElem_mem _
        exact hI2 _ hin
      clear hcell
      generalize cs.getD k 0 = x at *
      have hkeep : ∀ w' : World, Fp p wr w' → w'.ownsRow B0 3 1 (.slice Al (8 * n) cl) (8 * n) (iv (bitsOf h B)) := fun w' hf => Fr.own hf ho (fun i hi e => hlb i hi e)
      have HK := Lib.hid hkeep
      clear hkeep
      by_cases h7 : x = -7
      · have h7' : (x == -7) = true := by simpa using h7
        clear h7
        go_wp2_with fail
        refine (ralign_any hx hBl).mono ?_; rintro e w6 ⟨rfl, hx6, hf6⟩
        have hnb : m ≤ 8 * nby m ∧ 8 * nby m < m + 8 ∧ 8 * nby m ≤ 8 * n := by unfold nby; omega
        have hb6 := hb.trans (hf6.below hpw hb.size)
        obtain ⟨q, hq⟩ : ∃ q, q = nby m := ⟨_, rfl⟩
        rw [← hq] at hnb hx6
        clear hq
        go_wp2
        go_loop [10] (fun v => ∃ j : Nat, v = .int .i64 j ∧ m ≤ j ∧ j ≤ 8 * q) (fun v => 8 * q - (intOf v).toNat)
        case atStart => exact ⟨m, rfl, by omega, by omega⟩
        case round =>
          obtain ⟨j, rfl, hj1, hj2⟩ := hrel
          by_cases hj : j % 8 = 0
          · have h8 : ((j : Int) % 8 != 0) = false := by simp; omega
            have hjq : j = 8 * q := by omega
            have HJ := Lib.hid hjq
            clear hj hjq
            go_wp2
            go_roundw
            case rel => exact ⟨k + 1, by omega, by go_num, j, rfl, by rw [HJ.out]; exact hx6, HK.out _ hf6, hb6⟩
            case measure => simp [intOf]; omega
          · have h8 : ((j : Int) % 8 != 0) = true := by simp; omega
            go_wp2
            go_round
            case rel => exact ⟨j + 1, by go_num, by omega, by omega⟩
            case measure => simp [intOf]; omega
      · have h7' : (x == -7) = false := by simpa using h7
        clear h7
        have hatm : ((m : Int) != (m : Int)) = false := by simp
        have hlf : ((8 * B.length - m : Nat) : Int) = 8 * (n : Int) - (m : Int) := by rw [HN.out]; omega
        have HLF := Lib.hid hlf
        clear hlf
        by_cases hr : 0 ≤ x ∧ x ≤ 32
        · obtain ⟨q, rfl⟩ := Int.eq_ofNat_of_zero_le hr.1
          by_cases hend : 8 * n - m < q
          · go_wp2_with fail
            refine (take_end hx hBl q (by omega) (by rw [HN.out]; omega)).mono ?_; rintro e w6 ⟨rfl, hb6⟩
            unfold errV
            have hx6 := hx.below hb6
            have hb6' := hb.trans (hb6.mono hb.size)
            go_wp2_with fail
            refine (is_err 8 8 (by omega) w6).mono ?_; rintro e w' ⟨rfl, rfl⟩
            go_wp2_with fail
            refine (at_any hx6).mono ?_; rintro e w' ⟨rfl, rfl⟩
            go_wp2_with fail
            refine (left_any hx6 hBl).mono ?_; rintro e w7 ⟨rfl, hb7⟩
            rw [HLF.out]
            have hb67 : Below wr.heap.size wr w7 := hb6.trans (hb7.mono hb6.size)
            go_wp2
            go_roundw
            case rel => exact ⟨k + 1, by omega, by go_num, m, rfl, hx.below hb67, own_keep ho hb67, hb.trans (hb67.mono hb.size)⟩
            case measure => simp [intOf]; omega
          · go_wp2_with fail
            refine (take_any hx hBl q (by omega) (by rw [HN.out]; omega)).mono ?_; rintro e w6 ⟨rfl, hx6, hf6⟩
            have ho6 := HK.out _ hf6
            have hb6 := hb.trans (hf6.below hpw hb.size)
            have hnl := nxt_len h B m q (by rw [HN.out]; omega)
            have hn01 := nxt_01 h B m q
            have hpb := part_bd (h := h) (c := q) hn01 (by omega)
            have hnn : (part h q (nxt h B m q) != part h q (nxt h B m q)) = false := by simp
            have hR6 := Rd.of_own ho6
            have hatq : (((m : Int) + (q : Int)) != ((m : Int) + (q : Int))) = false := by simp
            have hlq : ((8 * B.length - (m + q) : Nat) : Int) = 8 * (n : Int) - ((m : Int) + (q : Int)) := by rw [HN.out]; omega
            have HLQ := Lib.hid hlq
            clear hlq
            have hsb : Al = none ∨ ∃ gl, Al = some ⟨gl, 0, none⟩ := by
              rcases ho6.2 with ⟨hv, _⟩ | ⟨gl, cap, cur, hv, _⟩
              · injection hv with hv; exact .inl hv
              · injection hv with hv; exact .inr ⟨gl, hv⟩
            have hsz6 := hb6.size
            rcases hsb with rfl | ⟨gl, rfl⟩
            · obtain ⟨hv, h80⟩ | ⟨gl, cap, cur, hv, _⟩ := ho6.2
              · injection hv with _ hv2 hv3
                subst hv3
                have hn0 : n = 0 := by omega
                have hm0 : m = 0 := by omega
                have hq0 : q = 0 := by omega
                have hRz : Rd w6 w6.heap.size none (iv (nxt h B m q)) := by
                  have : nxt h B m q = [] := List.eq_nil_of_length_eq_zero (by rw [hnl, hq0])
                  rw [this]; exact Rd.nil_ _ _ _
                have HM0 := Lib.hid hm0
                have HQ0 := Lib.hid hq0
                have HN0 := Lib.hid hn0
                have hz1 : m ≤ 0 := by omega
                have hz2 : q ≤ 0 := by omega
                clear hn0 hm0 hq0 hv2 h80
                go_wp2_with fail
                refine (number_any none q 0 (nxt h B m q) h _ w6 hnl hRz hn01 (by omega)).mono ?_; rintro e w' ⟨rfl, rfl⟩
                go_wp2_with fail
                refine (at_any hx6).mono ?_; rintro e w' ⟨rfl, rfl⟩
                go_wp2_with fail
                refine (left_any hx6 hBl).mono ?_; rintro e w7 ⟨rfl, hb7⟩
                rw [HLQ.out]
                go_wp2
                go_roundw
                case rel => exact ⟨k + 1, by omega, by go_num, m + q, by go_num, hx6.below hb7, own_keep ho6 hb7, hb6.trans (hb7.mono hb6.size)⟩
                case measure => simp [intOf]; omega
              · injection hv with hv; cases hv
            · by_cases hcm : cl = m
              · have hq0 : q = 0 := by omega
                have hRz : ∀ Az, Rd w6 w6.heap.size Az (iv (nxt h B m q)) := fun Az => by
                  have : nxt h B m q = [] := List.eq_nil_of_length_eq_zero (by rw [hnl, hq0])
                  rw [this]; exact Rd.nil_ _ _ _
                have HRZ := Lib.hid hRz
                have hcm' := hcm.symm
                subst hcm'
                have hz2 : q ≤ 0 := by omega
                clear hq0 hRz
                go_wp2_with fail
                refine (number_any (some ⟨gl, 0, none⟩) q 0 (nxt h B m q) h _ w6 hnl (HRZ.out _) hn01 (by omega)).mono ?_; rintro e w' ⟨rfl, rfl⟩
                go_wp2_with fail
                refine (at_any hx6).mono ?_; rintro e w' ⟨rfl, rfl⟩
                go_wp2_with fail
                refine (left_any hx6 hBl).mono ?_; rintro e w7 ⟨rfl, hb7⟩
                rw [HLQ.out]
                go_wp2
                go_roundw
                case rel => exact ⟨k + 1, by omega, by go_num, m + q, by go_num, hx6.below hb7, own_keep ho6 hb7, hb6.trans (hb7.mono hb6.size)⟩
                case measure => simp [intOf]; omega
              · have hRn := hR6.sub m q
                rw [show (List.drop m (iv (bitsOf h B))).take q = iv (nxt h B m q) by unfold nxt iv; rw [List.map_take, List.map_drop]] at hRn
                have hcm1 : m < cl := by omega
                go_wp2_with fail
                refine (number_any (some ⟨gl, m, none⟩) q (cl - m) (nxt h B m q) h _ w6 hnl hRn hn01 (by omega)).mono ?_; rintro e w' ⟨rfl, rfl⟩
                go_wp2_with fail
                refine (at_any hx6).mono ?_; rintro e w' ⟨rfl, rfl⟩
                go_wp2_with fail
                refine (left_any hx6 hBl).mono ?_; rintro e w7 ⟨rfl, hb7⟩
                rw [HLQ.out]
                go_wp2
                go_roundw
                case rel => exact ⟨k + 1, by omega, by go_num, m + q, by go_num, hx6.below hb7, own_keep ho6 hb7, hb6.trans (hb7.mono hb6.size)⟩
                case measure => simp [intOf]; omega
        · go_wp2_with fail
          refine (take_range (some ⟨p, 0, none⟩) x hr wr).mono ?_; rintro e w' ⟨rfl, rfl⟩
          unfold errV
          have hcond : x < 0 ∨ 32 < x := by omega
          rcases hcond with hx0 | hx0
          all_goals
            go_wp2_with fail
            refine (is_err 7 7 (by omega) wr).mono ?_; rintro e w' ⟨rfl, rfl⟩
            go_wp2_with fail
            refine (at_any hx).mono ?_; rintro e w' ⟨rfl, rfl⟩
            go_wp2_with fail
            refine (left_any hx hBl).mono ?_; rintro e w7 ⟨rfl, hb7⟩
            rw [HLF.out]
            go_wp2
            go_roundw
            case rel => exact ⟨k + 1, by omega, by go_num, m, rfl, hx.below hb7, own_keep ho hb7, hb.trans (hb7.mono hb.size)⟩
            case measure => simp [intOf]; omega
    · go_wp2
      go_ret
      exact ⟨rfl, hb⟩
namespace BitsReads
set_option maxRecDepth 100000 in
theorem contract (H : Type) (enc : TypeId × Value → H) (W : World) (base : Nat) (args : Array Value) (ds gs : List (DataW H)) (before : List MemPlace)
    (hval : ∀ (j : Nat) t v, Try.f9.params[j]? = some t → args[j]? = some v → Value.okWide Try.prog W .any base t v)
    (hW : DataW.Whole enc Try.prog Try.f9.params.toList Rows.bitsReadsSpec.vars false W args.toList ds gs before) :
    Calls Try.prog 9 args W fun e W' => ∃ v, e = .returned v ∧ Rows.bitsReadsSpec.post enc Try.prog Try.f9 false true false false W args v W' := by
  have hW' := hW
  obtain ⟨p, q, hA0, hV, rfl, hfz, hnd⟩ := hW
  have hA : DataW.TrodAll enc Try.prog W 0 (fun _ => true) true Try.f9.params.toList args.toList ds p := hA0
  rw [Try.params9] at hA hval
  clear hA0
  obtain ⟨v0, vs0, d0, ds0, p0, q0, hargs, rfl, rfl, h0, r0⟩ := trodAll_cons hA
  obtain ⟨v1, vs1, d1, ds1, p1, q1, rfl, rfl, rfl, h1, r1⟩ := trodAll_cons r0
  obtain ⟨v2, vs2, d2, ds2, p2, q2, rfl, rfl, rfl, h2, r2⟩ := trodAll_cons r1
  obtain ⟨rfl, rfl, rfl⟩ := trodAll_nil r2
  obtain rfl : args = #[v0, v1, v2] := by cases args; simp_all
  obtain ⟨rfl, rfl⟩ := trodVars_none hV
  obtain ⟨Ax0, nx0, cx0, rfl⟩ := okWide_slice Try.underlying22 (hval 0 _ _ rfl rfl)
  obtain ⟨fu0, hf0⟩ := h0
  obtain ⟨A', n', c', x0, ev0, hnx0, hcx0, hmx0, hRx0, hwx0⟩ := open_rd Try.underlying22 Try.underlying5 (by kernel_rfl) hf0
  injection ev0 with ea eb ec
  subst ea eb ec
  obtain ⟨x1, rfl, rfl, rfl⟩ := open_bool Try.underlying4 (hval 1 _ _ rfl rfl) h1
  obtain ⟨Ax2, nx2, cx2, rfl⟩ := okWide_slice Try.underlying43 (hval 2 _ _ rfl rfl)
  obtain ⟨fu2, hf2⟩ := h2
  obtain ⟨A', n', c', x2, ev2, hnx2, hcx2, hmx2, hRx2, hwx2⟩ := open_rd Try.underlying43 Try.underlying3 (by kernel_rfl) hf2
  injection ev2 with ea eb ec
  subst ea eb ec
  refine (bitsReads_any W Ax0 nx0 cx0 x0 hnx0 hcx0 hmx0 hRx0 (wf_bs hwx0) x1 Ax2 nx2 cx2 x2 hnx2 hcx2 hmx2 hRx2 (wf_is hwx2)).mono fun e W' ⟨he, hb⟩ => ?_
  subst he
  exact ⟨_, rfl, post_true Facts.laid hW' rfl rfl Try.underlying4 (by kernel_rfl) rfl hb⟩

set_option maxRecDepth 100000 in
theorem lifted (os : Os) (started : os.Started) (H : Type) (enc : TypeId × Value → H) :
    ReturnsInHanded {} Try.checked os 9 .any (Rows.bitsReadsSpec.pre6 enc Try.prog Try.f9 Rows.bitsReadsRow.domain false) (Rows.bitsReadsSpec.post enc Try.prog Try.f9 false true false false) := by
  refine returnsInHanded_of_change (C := Try.checked) Facts.own started (by kernel_rfl) Try.func9
    (ChangeSpec.witness6 (enc := enc) (C := Try.checked) (os := os) false ⟨#[], #[.slice none 0 0, .bool false, .slice none 0 0], []⟩ 8 (by kernel_rfl) (by kernel_rfl) (by kernel_rfl) (by kernel_rfl)) ?_
  intro W base args ds gs before hval hW _ _
  exact contract H enc W base args ds gs before hval hW

theorem k_wf : Rows.bitsReadsRow.wf (OpenSpec.ofChange Rows.bitsReadsSpec) = true := by kernel_rfl
theorem k_inp : (Rows.bitsReadsRow.inPlace == Try.prog.inPlace 9) = true := by kernel_rfl
theorem k_unf : (Rows.bitsReadsRow.unfollowed == Try.prog.unfollowed 9) = true := by kernel_rfl
theorem k_rec : (Rows.bitsReadsRow.recurses == Try.prog.recurses 9) = true := by kernel_rfl
theorem k_nam : (Rows.bitsReadsRow.named == Try.prog.varsNamed 9) = true := by kernel_rfl
theorem k_pk : (Rows.bitsReadsRow.plainKeys == Try.prog.plainKeys) = true := (congrArg (fun x => Rows.bitsReadsRow.plainKeys == x) Facts.plainKeys).trans (by kernel_rfl)
theorem k_lf : (Rows.bitsReadsRow.lifted == Try.prog.liftsFinal) = true := (congrArg (fun x => Rows.bitsReadsRow.lifted == x) Facts.liftsFinal).trans (by kernel_rfl)
theorem k_mk : (Try.prog.make == some Rows.bitsReadsRow.make) = true := (congrArg (fun x => x == some Rows.bitsReadsRow.make) Facts.make).trans (by kernel_rfl)
theorem k_par : (Try.f9.params.all (Try.prog.readableRec ·)) = true := by kernel_rfl
theorem k_maps : (Rows.bitsReadsRow.maps == (Try.f9.params.toList ++ Rows.bitsReadsSpec.plain.varTypes Try.prog).any (Try.prog.mapsRec ·)) = true := by kernel_rfl
theorem k_ifs : (Rows.bitsReadsRow.ifaces == (Try.f9.params.toList ++ Rows.bitsReadsSpec.plain.varTypes Try.prog).any (Try.prog.ifacesRec ·)) = true := by kernel_rfl
theorem k_lps : (Rows.bitsReadsRow.loops == (Try.f9.params.toList ++ Rows.bitsReadsSpec.plain.varTypes Try.prog).any (Try.prog.loopsFrom ·)) = true := by kernel_rfl
theorem k_wk : (Rows.bitsReadsRow.wideKeys == (Try.f9.params.toList ++ Rows.bitsReadsSpec.plain.varTypes Try.prog ++ Try.f9.resultTypes.toList).any (Try.prog.wideKeysFrom ·)) = true := by kernel_rfl
theorem k_vl : (Rows.bitsReadsRow.veiled == (Try.f9.params.toList ++ Rows.bitsReadsSpec.plain.varTypes Try.prog ++ Try.f9.resultTypes.toList).any (Try.prog.veiledRec ·)) = true := by kernel_rfl
theorem closed : joinedFacts Try.prog 9 Try.f9 Rows.bitsReadsSpec Rows.bitsReadsRow = true :=
  Facts.and_i (Facts.and_i (Facts.and_i (Facts.and_i (Facts.and_i (Facts.and_i (Facts.and_i (Facts.and_i (Facts.and_i (Facts.and_i (Facts.and_i (Facts.and_i (Facts.and_i (Facts.and_i (Facts.and_i (Facts.and_i (Facts.and_i (Facts.and_i (Facts.and_i (Facts.and_i (Facts.and_i (Facts.and_i (Facts.and_i (Facts.and_i (Facts.and_i (Facts.and_i (Facts.and_i (Facts.and_i (Facts.and_i (Facts.and_i (Facts.and_i
    k_wf Facts.laid) Facts.mapsRowed_) k_par) rfl) rfl) Facts.stops) rfl) Facts.stopKnobs) k_inp) k_unf) k_rec) k_nam) k_maps) k_ifs) (by kernel_rfl)) k_lps) k_wk) rfl) (by kernel_rfl)) (by kernel_rfl)) (by kernel_rfl)) k_pk) rfl) Facts.stopsHeard) Facts.mayEnter) k_lf) k_mk) (by kernel_rfl)) (by kernel_rfl)) k_vl) (by kernel_rfl)
theorem named : Try.prog.funcNamed Rows.bitsReadsRow.func = some 9 := by kernel_rfl

theorem proved : Rows.BitsReadsSaid :=
  OpenClaim.holds_of_wide 9 Try.f9 rfl rfl rfl rfl rfl rfl rfl ⟨rfl, rfl, rfl, rfl, rfl⟩ rfl rfl rfl rfl rfl named Try.func9 closed
    (of_decide_eq_true (by kernel_rfl)) (by unfold Func.isWrapper; first | (rw [if_pos (by decide +kernel)]; kernel_rfl) | (rw [if_neg (by decide +kernel)]; exact ⟨rfl, rfl⟩))
    (fun os started H enc _ => lifted os started H enc)
end BitsReads
#print axioms BitsReads.proved
end Go.Proofs.Ytkmgojoojboidaa
