/-
  BitsUnstuffs: stuffed bytes come back, whatever marker stands behind them. No condition.
-/
import Derived.Test.YtkmgojoojboidaaStuB
import Derived.Test.YtkmgojoojboidaaOwn
import Derived.Test.YtkmgojoojboidaaFacts
namespace Go.Proofs.Ytkmgojoojboidaa
open Go.ChangeShapes Go.WideShapes Go.ChangeAt Go.WideMaps Go.WideElems Go.RowKit Go.Joins
set_option linter.unusedVariables false

/-- behind each 255 stands a 0 -/
theorem stf_next : ∀ (b : List Int) (i : Nat), (stf b).getD i 0 = 255 → i + 1 < (stf b).length ∧ (stf b).getD (i + 1) 0 = 0
  | [], i, h => by simp [stf] at h
  | x :: b, i, h => by
    unfold stf at h ⊢
    by_cases hx : x = 255
    · rw [if_pos hx] at h ⊢
      match i with
      | 0 => simp
      | 1 => simp at h
      | i + 2 =>
        have := stf_next b i (by simpa using h)
        simp at this ⊢; exact ⟨by omega, this.2⟩
    · rw [if_neg hx] at h ⊢
      match i with
      | 0 => simp at h; exact absurd h hx
      | i + 1 =>
        have := stf_next b i (by simpa using h)
        simp at this ⊢; exact ⟨by omega, this.2⟩

theorem stf_at (l : List Int) (i : Nat) (h : i < (stf l).length) : (bv (stf l))[i]? = some (.int .u8 ((stf l).getD i 0)) := bv_at h

theorem own_cap {w : World} {base n c : Nat} {e : TypeId} {A : Option Addr} {xs : List Value} (h : w.ownsRow base e 1 (.slice A n c) n xs) : n ≤ c ∧ c ≤ 9223372036854775807 := by
  rcases h.2 with ⟨hv, h0⟩ | ⟨g, cap, cur, hv, hg, hh, hnc, hcm, _⟩
  · injection hv with _ _ h2; omega
  · injection hv with _ _ h2
    unfold maxLen at hcm; omega

theorem own_zero (w : World) (e : TypeId) (base : Nat) (hb : base ≤ w.heap.size) : (w.alloc (.cells #[] e)).ownsRow base e 1 (.slice (some ⟨w.heap.size, 0, none⟩) 0 0) 0 [] :=
  World.ownsRow_made w #[] 0 hb (by unfold maxLen; omega) (by simp)

set_option maxRecDepth 100000 in
set_option maxHeartbeats 2000000 in
theorem bitsUnstuffs_any (w : World) (A : Option Addr) (n c : Nat) (l : List Int) (hn : l.length = n) (hc : n ≤ c) (hm : c ≤ 9223372036854775807) (hR : Rd w w.heap.size A (bv l)) (hB : Bs l)
    (A2 : Option Addr) (n2 c2 : Nat) (l2 : List Int) (hn2 : l2.length = n2) (hc2 : n2 ≤ c2) (hm2 : c2 ≤ 9223372036854775807) (hR2 : Rd w w.heap.size A2 (bv l2)) (hB2 : Bs l2) :
    Calls Try.prog 4 #[.slice A n c, .slice A2 n2 c2] w fun e w' => e = .returned (.bool true) ∧ Below w.heap.size w w' := by
  by_cases hb1 : 65536 < n
  · go_enter Try.func4, Try.ntmps4
    go_wp2
    go_ret
    exact ⟨rfl, Below.refl _ _⟩
  by_cases hb2 : 1024 < n2
  · go_enter Try.func4, Try.ntmps4
    go_wp2
    go_ret
    exact ⟨rfl, Below.refl _ _⟩
  obtain ⟨i0, hi, hz0, hz1, hz2⟩ := info_parts Try.info_u8
  have HN := Lib.hid hn
  have HN2 := Lib.hid hn2
  clear hn hn2
  have hsl := stf_len l
  rw [HN.out] at hsl
  obtain ⟨m, hme⟩ : ∃ m, m = (stf l).length := ⟨_, rfl⟩
  rw [← hme] at hsl
  have HM := Lib.hid hme
  clear hme
  have hsB := stf_bs hB
  have hu1 := us_stf l [255, 217]
  rw [show us [255, 217] = ([], 0) from by decide, List.append_nil, Nat.add_zero, ← HM.out] at hu1
  have hu2 := us_stf l l2
  rw [← HM.out] at hu2
  obtain ⟨v1, v2, _, v4⟩ := us_facts _ l2 (Nat.le_refl _)
  rw [HN2.out] at v1
  have hvB : Bs (us l2).1 := us_bs hB2
  have HU1 := Lib.hid hu1
  have HU2 := Lib.hid hu2
  clear hu1 hu2 v4
  go_enter Try.func4, Try.ntmps4
  go_wp2_with fail
  refine (stuff_any _ 1 _ [255] _ rfl (by simpa [bv] using Rd.new1 w 5 (.int .u8 255)) (by intro x hx; simp at hx; omega) (by omega)).mono ?_; rintro e w1 ⟨t, rfl, ht, hb1⟩
  have hb1' : Below w.heap.size w w1 := ((Below.refl _ _).alloc (Nat.le_refl _) _).trans (hb1.mono (by simp))
  have hs1 := hb1'.size
  rw [show stf [255] = [255, 0] from by decide] at ht
  obtain ⟨At, ct, rfl, hRt⟩ := own_slice ht
  have hstr := run_str (P := Try.prog) (w := w1) Try.underlying22 Try.underlying5 Try.underlying9 hRt (by intro x hx; simp at hx; omega) 2 ct rfl
  rw [show bstr [255, 0] = ({ data := #[255, 0] } : ByteArray) from rfl] at hstr
  clear ht hRt hb1
  go_wp2_with fail
  clear hstr
  refine (stuff_any A n c l w1 HN.out ((hR.below hb1').more hs1) hB (by omega)).mono ?_; rintro e w2 ⟨s, rfl, hs, hb2⟩
  have hb2' := hb1'.trans (hb2.mono hs1)
  obtain ⟨As, cs, rfl, hRs⟩ := own_slice hs
  rw [← HM.out] at hs ⊢
  have hsb := hs.lt
  have hown0 := own_zero w2 5 w2.heap.size (Nat.le_refl _)
  have hb20 : Below w2.heap.size w2 (w2.alloc (.cells #[] 5)) := (Below.refl _ _).alloc (Nat.le_refl _) _
  have hRs0 : Rd (w2.alloc (.cells #[] 5)) w2.heap.size As (bv (stf l)) := hRs.below hb20
  have hlen0 : (bv (stf l)).length = m := by rw [bv_len, ← HM.out]
  have HLEN0 := Lib.hid hlen0
  clear hlen0
  have hsz0 : w2.heap.size ≤ (w2.alloc (.cells #[] 5)).heap.size := by simp
  go_wp2_with (first
    | (at_builtin; refine wpList_app2 _ rfl (.tmp 26) (.tmp 27) 22 rfl Try.underlying22 hi hz0 hz1 hz2 rfl hown0 rfl rfl hRs0 HLEN0.out (one_bv _) (by omega) (by omega) hsz0 ?_; intro v1 w3 hown3 hg3; have hb3 : Below w2.heap.size w2 w3 := below_app2 hb20 hown0 hg3 (Nat.le_refl _) hsz0; simp only [Nat.zero_add, List.nil_append] at hown3)
    | (at_builtin; refine wpList_app2 _ rfl (.tmp 28) (.tmp 29) 22 rfl Try.underlying22 hi hz0 hz1 hz2 rfl (hown3.alloc _) rfl rfl (Rd.new2 _ _ _ _) rfl (by simp [Value.oneCell']) (by omega) (by omega) (by have := hb3.size; simp; omega) ?_; intro v2' w4 hown4 hg4; have hb4 : Below w2.heap.size w2 w4 := below_app2 (hb3.alloc hb3.size _) (hown3.alloc _) hg4 (Nat.le_refl _) (by have := hb3.size; simp; omega); obtain ⟨Ay, cy, rfl, hRy⟩ := own_slice hown4))
  have hb4' := hb2'.trans (hb4.mono hb2'.size)
  have hRs2 : Rd w2 w2.heap.size As (bv (stf l)) := hRs
  rw [show bv (stf l) ++ [Value.int .u8 255, Value.int .u8 217] = bv (stf l ++ [255, 217]) from by simp [bv]] at hRy
  refine (unstuff_any Ay (m + 2) cy (stf l ++ [255, 217]) w4 (by rw [List.length_append, ← HM.out]; rfl) hRy (by
    intro x hx
    rcases List.mem_append.1 hx with hx | hx
    · exact hsB x hx
    · simp at hx; omega) (by omega)).mono ?_; rintro e w5 ⟨u, rfl, hu, hb5⟩
  have hb5' := hb4'.trans (hb5.mono hb4'.size)
  have hb25 : Below w2.heap.size w2 w5 := hb4.trans (hb5.mono hb4.size)
  have hsz5 := hb25.size
  rw [HU1.out] at hu ⊢
  dsimp only at hu ⊢
  obtain ⟨Au, cu, rfl, hRu⟩ := own_slice hu
  rw [HN.out] at hu ⊢
  clear hown0 hb20 hRs0 hsz0 hown4 hg4 hRy hb4 hown3 hg3 hb3 hb5 hs
  have hown0 := own_zero w5 5 w5.heap.size (Nat.le_refl _)
  have hb50 : Below w5.heap.size w5 (w5.alloc (.cells #[] 5)) := (Below.refl _ _).alloc (Nat.le_refl _) _
  have hRs0 : Rd (w5.alloc (.cells #[] 5)) w2.heap.size As (bv (stf l)) := (hRs2.below hb25).below (hb50.mono hsz5)
  have hsz0 : w5.heap.size ≤ (w5.alloc (.cells #[] 5)).heap.size := by simp
  have hHN2 : (bv l2).length = n2 := by rw [bv_len]; exact HN2.out
  have HLEN2 := Lib.hid hHN2
  clear hHN2
  go_wp2_with (first
    | (at_builtin; refine wpList_app2 _ rfl (.tmp 35) (.tmp 36) 22 rfl Try.underlying22 hi hz0 hz1 hz2 rfl hown0 rfl rfl hRs0 HLEN0.out (one_bv _) (by omega) (by omega) hsz0 ?_; intro v1 w6 hown6 hg6; have hb6 : Below w5.heap.size w5 w6 := below_app2 hb50 hown0 hg6 (Nat.le_refl _) hsz0; simp only [Nat.zero_add, List.nil_append] at hown6)
    | (at_builtin; refine wpList_app2 _ rfl (.tmp 37) (.tmp 38) 22 rfl Try.underlying22 hi hz0 hz1 hz2 rfl hown6 rfl rfl ((hR2.below hb5').below (hb6.mono hb5'.size)) HLEN2.out (one_bv _) (by omega) (by omega) hb6.size ?_; intro v2' w7 hown7 hg7; have hb7 : Below w5.heap.size w5 w7 := below_app2 hb6 hown6 hg7 (Nat.le_refl _) hb6.size; obtain ⟨Ay, cy, rfl, hRy⟩ := own_slice hown7))
  have hb7' := hb5'.trans (hb7.mono hb5'.size)
  rw [← bv_app] at hRy
  refine (unstuff_any Ay (m + n2) cy (stf l ++ l2) w7 (by rw [List.length_append, ← HM.out, HN2.out]) hRy (by
    intro x hx
    rcases List.mem_append.1 hx with hx | hx
    · exact hsB x hx
    · exact hB2 x hx) (by omega)).mono ?_; rintro e w8 ⟨z, rfl, hz, hb8⟩
  have hb8' := hb7'.trans (hb8.mono hb7'.size)
  have hb58 : Below w5.heap.size w5 w8 := hb7.trans (hb8.mono hb7.size)
  have hb28 := hb25.trans (hb58.mono hsz5)
  rw [HU2.out] at hz ⊢
  dsimp only at hz ⊢
  rw [List.length_append, HN.out] at hz
  obtain ⟨Az, cz, rfl, hRz⟩ := own_slice hz
  have hzc := own_cap hz
  rw [bv_app] at hRz
  have hRz1 := hRz.pre
  clear hown0 hb50 hRs0 hsz0 hown7 hg7 hRy hown6 hg6 hb6 hb7 hb8 hz hRz hu
  clear HU2 hvB
  generalize (us l2).1.length = r at *
  generalize (us l2).2 = q at *
  go_wp2_with fail
  refine (same_is _ _ _ _ _ _ l l true (by simp) _ _ _ (hRu.below hb58) (hR.below hb8') hB hB HN.out.symm HN.out.symm).mono ?_; rintro e w' ⟨rfl, rfl⟩
  go_wp2_with fail
  refine (same_is _ _ _ _ _ _ l l true (by simp) _ _ _ hRz1 (hR.below hb8') hB hB HN.out.symm HN.out.symm).mono ?_; rintro e w' ⟨rfl, rfl⟩
  have hnext := stf_next l
  have HNX := Lib.hid hnext
  have hRs8 : Rd w8 w2.heap.size As (bv (stf l)) := hRs2.below hb28
  have hgb := fun i => stf_at l i
  have HGB := Lib.hid hgb
  clear hnext hgb hzc
  go_wp2_with fail
  go_loop [77] (fun i => ∃ k : Nat, k ≤ m ∧ i = .int .i64 k) (fun i => m - (intOf i).toNat)
  case atStart => exact ⟨0, Nat.zero_le _, rfl⟩
  case round =>
    obtain ⟨k, hk, rfl⟩ := hrel
    by_cases hlt : k < m
    · obtain ⟨b, off, rfl, hbb, hcc⟩ := hRs8.at_ (k := k) (by rw [HLEN0.out]; exact hlt)
      have hcell : w8.cell? ⟨b, off + k, none⟩ = some (.int .u8 ((stf l).getD k 0)) := hcc k _ (HGB.out k (by rw [← HM.out]; exact hlt))
      have hnx := HNX.out k
      rw [← HM.out] at hnx
      by_cases h5 : (stf l).getD k 0 = 255
      · obtain ⟨h6, h7⟩ := hnx h5
        have hcell2 : w8.cell? ⟨b, off + (k + 1), none⟩ = some (.int .u8 0) := by
          have := hcc (k + 1) _ (HGB.out (k + 1) (by rw [← HM.out]; exact h6))
          rw [h7] at this; exact this
        rw [h5] at hcell
        have htt : ((k : Int) == (m : Int) - 1) = false := by simp; omega
        clear hnx h5 h7 hcc
        go_wp2_with fail
        go_round
        case rel => exact ⟨k + 1, by omega, by go_num⟩
        case measure => simp [intOf]; omega
      · have h5b : ((stf l).getD k 0 == 255) = false := by simpa using h5
        generalize (stf l).getD k 0 = x at *
        clear hnx hcc h5
        go_wp2_with fail
        go_round
        case rel => exact ⟨k + 1, by omega, by go_num⟩
        case measure => simp [intOf]; omega
    · go_wp2
      go_ret
      exact ⟨rfl, hb8'⟩
namespace BitsUnstuffs
set_option maxRecDepth 100000 in
theorem contract (H : Type) (enc : TypeId × Value → H) (W : World) (base : Nat) (args : Array Value) (ds gs : List (DataW H)) (before : List MemPlace)
    (hval : ∀ (j : Nat) t v, Try.f4.params[j]? = some t → args[j]? = some v → Value.okWide Try.prog W .any base t v)
    (hW : DataW.Whole enc Try.prog Try.f4.params.toList Rows.bitsUnstuffsSpec.vars false W args.toList ds gs before) :
    Calls Try.prog 4 args W fun e W' => ∃ v, e = .returned v ∧ Rows.bitsUnstuffsSpec.post enc Try.prog Try.f4 false true false false W args v W' := by
  have hW' := hW
  obtain ⟨p, q, hA0, hV, rfl, hfz, hnd⟩ := hW
  have hA : DataW.TrodAll enc Try.prog W 0 (fun _ => true) true Try.f4.params.toList args.toList ds p := hA0
  rw [Try.params4] at hA hval
  clear hA0
  obtain ⟨v0, vs0, d0, ds0, p0, q0, hargs, rfl, rfl, h0, r0⟩ := trodAll_cons hA
  obtain ⟨v1, vs1, d1, ds1, p1, q1, rfl, rfl, rfl, h1, r1⟩ := trodAll_cons r0
  obtain ⟨rfl, rfl, rfl⟩ := trodAll_nil r1
  obtain rfl : args = #[v0, v1] := by cases args; simp_all
  obtain ⟨rfl, rfl⟩ := trodVars_none hV
  obtain ⟨Ax0, nx0, cx0, rfl⟩ := okWide_slice Try.underlying22 (hval 0 _ _ rfl rfl)
  obtain ⟨fu0, hf0⟩ := h0
  obtain ⟨A', n', c', x0, ev0, hnx0, hcx0, hmx0, hRx0, hwx0⟩ := open_rd Try.underlying22 Try.underlying5 (by kernel_rfl) hf0
  injection ev0 with ea eb ec
  subst ea eb ec
  obtain ⟨Ax1, nx1, cx1, rfl⟩ := okWide_slice Try.underlying22 (hval 1 _ _ rfl rfl)
  obtain ⟨fu1, hf1⟩ := h1
  obtain ⟨A', n', c', x1, ev1, hnx1, hcx1, hmx1, hRx1, hwx1⟩ := open_rd Try.underlying22 Try.underlying5 (by kernel_rfl) hf1
  injection ev1 with ea eb ec
  subst ea eb ec
  refine (bitsUnstuffs_any W Ax0 nx0 cx0 x0 hnx0 hcx0 hmx0 hRx0 (wf_bs hwx0) Ax1 nx1 cx1 x1 hnx1 hcx1 hmx1 hRx1 (wf_bs hwx1)).mono fun e W' ⟨he, hb⟩ => ?_
  subst he
  exact ⟨_, rfl, post_true Facts.laid hW' rfl rfl Try.underlying4 (by kernel_rfl) rfl hb⟩

set_option maxRecDepth 100000 in
theorem lifted (os : Os) (started : os.Started) (H : Type) (enc : TypeId × Value → H) :
    ReturnsInHanded {} Try.checked os 4 .any (Rows.bitsUnstuffsSpec.pre6 enc Try.prog Try.f4 Rows.bitsUnstuffsRow.domain false) (Rows.bitsUnstuffsSpec.post enc Try.prog Try.f4 false true false false) := by
  refine returnsInHanded_of_change (C := Try.checked) Facts.own started (by kernel_rfl) Try.func4
    (ChangeSpec.witness6 (enc := enc) (C := Try.checked) (os := os) false ⟨#[], #[.slice none 0 0, .slice none 0 0], []⟩ 8 (by kernel_rfl) (by kernel_rfl) (by kernel_rfl) (by kernel_rfl)) ?_
  intro W base args ds gs before hval hW _ _
  exact contract H enc W base args ds gs before hval hW

theorem k_wf : Rows.bitsUnstuffsRow.wf (OpenSpec.ofChange Rows.bitsUnstuffsSpec) = true := by kernel_rfl
theorem k_inp : (Rows.bitsUnstuffsRow.inPlace == Try.prog.inPlace 4) = true := by kernel_rfl
theorem k_unf : (Rows.bitsUnstuffsRow.unfollowed == Try.prog.unfollowed 4) = true := by kernel_rfl
theorem k_rec : (Rows.bitsUnstuffsRow.recurses == Try.prog.recurses 4) = true := by kernel_rfl
theorem k_nam : (Rows.bitsUnstuffsRow.named == Try.prog.varsNamed 4) = true := by kernel_rfl
theorem k_pk : (Rows.bitsUnstuffsRow.plainKeys == Try.prog.plainKeys) = true := (congrArg (fun x => Rows.bitsUnstuffsRow.plainKeys == x) Facts.plainKeys).trans (by kernel_rfl)
theorem k_lf : (Rows.bitsUnstuffsRow.lifted == Try.prog.liftsFinal) = true := (congrArg (fun x => Rows.bitsUnstuffsRow.lifted == x) Facts.liftsFinal).trans (by kernel_rfl)
theorem k_mk : (Try.prog.make == some Rows.bitsUnstuffsRow.make) = true := (congrArg (fun x => x == some Rows.bitsUnstuffsRow.make) Facts.make).trans (by kernel_rfl)
theorem k_par : (Try.f4.params.all (Try.prog.readableRec ·)) = true := by kernel_rfl
theorem k_maps : (Rows.bitsUnstuffsRow.maps == (Try.f4.params.toList ++ Rows.bitsUnstuffsSpec.plain.varTypes Try.prog).any (Try.prog.mapsRec ·)) = true := by kernel_rfl
theorem k_ifs : (Rows.bitsUnstuffsRow.ifaces == (Try.f4.params.toList ++ Rows.bitsUnstuffsSpec.plain.varTypes Try.prog).any (Try.prog.ifacesRec ·)) = true := by kernel_rfl
theorem k_lps : (Rows.bitsUnstuffsRow.loops == (Try.f4.params.toList ++ Rows.bitsUnstuffsSpec.plain.varTypes Try.prog).any (Try.prog.loopsFrom ·)) = true := by kernel_rfl
theorem k_wk : (Rows.bitsUnstuffsRow.wideKeys == (Try.f4.params.toList ++ Rows.bitsUnstuffsSpec.plain.varTypes Try.prog ++ Try.f4.resultTypes.toList).any (Try.prog.wideKeysFrom ·)) = true := by kernel_rfl
theorem k_vl : (Rows.bitsUnstuffsRow.veiled == (Try.f4.params.toList ++ Rows.bitsUnstuffsSpec.plain.varTypes Try.prog ++ Try.f4.resultTypes.toList).any (Try.prog.veiledRec ·)) = true := by kernel_rfl
theorem closed : joinedFacts Try.prog 4 Try.f4 Rows.bitsUnstuffsSpec Rows.bitsUnstuffsRow = true :=
  Facts.and_i (Facts.and_i (Facts.and_i (Facts.and_i (Facts.and_i (Facts.and_i (Facts.and_i (Facts.and_i (Facts.and_i (Facts.and_i (Facts.and_i (Facts.and_i (Facts.and_i (Facts.and_i (Facts.and_i (Facts.and_i (Facts.and_i (Facts.and_i (Facts.and_i (Facts.and_i (Facts.and_i (Facts.and_i (Facts.and_i (Facts.and_i (Facts.and_i (Facts.and_i (Facts.and_i (Facts.and_i (Facts.and_i (Facts.and_i (Facts.and_i
    k_wf Facts.laid) Facts.mapsRowed_) k_par) rfl) rfl) Facts.stops) rfl) Facts.stopKnobs) k_inp) k_unf) k_rec) k_nam) k_maps) k_ifs) (by kernel_rfl)) k_lps) k_wk) rfl) (by kernel_rfl)) (by kernel_rfl)) (by kernel_rfl)) k_pk) rfl) Facts.stopsHeard) Facts.mayEnter) k_lf) k_mk) (by kernel_rfl)) (by kernel_rfl)) k_vl) (by kernel_rfl)
theorem named : Try.prog.funcNamed Rows.bitsUnstuffsRow.func = some 4 := by kernel_rfl

theorem proved : Rows.BitsUnstuffsSaid :=
  OpenClaim.holds_of_wide 4 Try.f4 rfl rfl rfl rfl rfl rfl rfl ⟨rfl, rfl, rfl, rfl, rfl⟩ rfl rfl rfl rfl rfl named Try.func4 closed
    (of_decide_eq_true (by kernel_rfl)) (by unfold Func.isWrapper; first | (rw [if_pos (by decide +kernel)]; kernel_rfl) | (rw [if_neg (by decide +kernel)]; exact ⟨rfl, rfl⟩))
    (fun os started H enc _ => lifted os started H enc)
end BitsUnstuffs
#print axioms BitsUnstuffs.proved
end Go.Proofs.Ytkmgojoojboidaa
