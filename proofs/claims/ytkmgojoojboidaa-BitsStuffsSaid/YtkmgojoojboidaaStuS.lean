/-
  BitsStuffs: what any bytes are stuffed to, and which bytes stuffed ones come from. No condition.
-/
import Derived.Test.YtkmgojoojboidaaStuB
import Derived.Test.YtkmgojoojboidaaApart
import Derived.Test.YtkmgojoojboidaaOwn
import Derived.Test.YtkmgojoojboidaaFacts
import Derived.Deep.CutRange
import Derived.Deep.RegionWith
namespace Go.Proofs.Ytkmgojoojboidaa
open Go.ChangeShapes Go.WideShapes Go.ChangeAt Go.WideMaps Go.WideElems Go.RowKit Go.Joins
set_option linter.unusedVariables false

set_option maxHeartbeats 1000000 in
theorem bitsStuffs_any (w : World) (A : Option Addr) (n c : Nat) (l : List Int) (hn : l.length = n) (hc : n ≤ c) (hm : c ≤ 9223372036854775807) (hR : Rd w w.heap.size A (bv l)) (hB : Bs l) :
    Calls Try.prog 3 #[.slice A n c] w fun e w' => e = .returned (.bool true) ∧ Below w.heap.size w w' := by
  by_cases hbig : 65536 < n
  · go_enter Try.func3, Try.ntmps3
    go_wp2
    go_ret
    exact ⟨rfl, Below.refl _ _⟩
  have HN := Lib.hid hn
  clear hn
  obtain ⟨u1, u2, u3, u4⟩ := us_facts _ l (Nat.le_refl _)
  rw [HN.out] at u1
  have U3 := Lib.hid u3
  clear u3 u4
  go_enter Try.func3, Try.ntmps3
  go_wp2_with fail
  refine (copy_any A n c l w HN.out hR (by omega)).mono ?_; rintro e w1 ⟨g, d, rfl, hr, hb1⟩
  have hRr : Rd w1 w1.heap.size (some ⟨g, 0, none⟩) (bv l) := by have h := Rd.of_own hr; rw [bv_app] at h; exact h.pre
  have hs1 := hb1.size
  go_wp2_with fail
  refine (stuff_any _ n d l w1 HN.out hRr hB (by omega)).mono ?_; rintro e w2 ⟨s, rfl, hs, hb2⟩
  have hb2' := hb1.trans (hb2.mono hs1)
  have hs2 := hb2.size
  go_wp2_with fail
  refine (unstuff_any _ n d l w2 HN.out ((hRr.below hb2).more hs2) hB (by omega)).mono ?_; rintro e w3 ⟨u, rfl, hu, hb3⟩
  have hb3' := hb2'.trans (hb3.mono hb2'.size)
  have hs3 := hb3.size
  have hr3 := own_keep (own_keep hr hb2) hb3
  have hs3o := own_keep hs hb3
  have hsb : ∀ b, s.ownBlock = some b → w1.heap.size ≤ b ∧ b < w2.heap.size := hs.lt
  have hub : ∀ b, u.ownBlock = some b → w2.heap.size ≤ b ∧ b < w3.heap.size := hu.lt
  have hgl := (hr.lt g rfl).2
  obtain ⟨As, cs, rfl, hRs⟩ := own_slice hs3o
  obtain ⟨Au, cu, rfl, hRu⟩ := own_slice hu
  clear hs hr
  go_wp2_with fail
  refine (stuff_any _ 2 _ [1, 255] _ rfl (by simpa [bv] using Rd.new2 w3 5 (.int .u8 1) (.int .u8 255)) (by intro x hx; simp at hx; omega) (by omega)).mono ?_; rintro e w4 ⟨t, rfl, ht, hb4⟩
  have hb4' : Below w.heap.size w w4 := (hb3'.alloc hb3'.size _).trans (hb4.mono (by have := hb3'.size; simp; omega))
  have hb34 : Below w3.heap.size w3 w4 := ((Below.refl _ _).alloc (Nat.le_refl _) _).trans (hb4.mono (by simp))
  have hs4 := hb34.size
  rw [show stf [1, 255] = [1, 255, 0] from by decide] at ht
  obtain ⟨At, ct, rfl, hRt⟩ := own_slice ht
  have hstr := run_str (P := Try.prog) (w := w4) Try.underlying22 Try.underlying5 Try.underlying9 hRt (by intro x hx; simp at hx; omega) 3 ct rfl
  rw [show bstr [1, 255, 0] = ({ data := #[1, 255, 0] } : ByteArray) from rfl] at hstr
  clear ht hRt hb4
  go_wp2_with fail
  refine (kept_any A n c g d _ l _ HN.out ((hR.below hb4').more hb4'.size) hB (by omega) (own_keep hr3 hb34)).mono ?_; rintro e w' ⟨rfl, rfl⟩
  clear hstr
  go_wp2_with fail
  refine (rstuff_any A n c l w4 HN.out ((hR.below hb4').more hb4'.size) hB (by omega)).mono ?_; rintro e w5 ⟨y, rfl, hy, hb5⟩
  have hb5' := hb4'.trans (hb5.mono hb4'.size)
  have hb35 := hb34.trans (hb5.mono hs4)
  have hs5 := hb35.size
  obtain ⟨Ay, cy, rfl, hRy⟩ := own_slice hy
  go_wp2_with fail
  refine (same_is _ _ _ _ _ _ _ _ true (by simp) _ _ _ (hRs.below hb35) hRy (stf_bs hB) (stf_bs hB) rfl rfl).mono ?_; rintro e w' ⟨rfl, rfl⟩
  go_wp2_with fail
  refine (taken_any A n c l w5 HN.out ((hR.below hb5').more hb5'.size) hB (by omega)).mono ?_; rintro e w' ⟨rfl, rfl⟩
  have hob := us_bs hB
  have hRu5 := (hRu.below hb35).more hs5
  have hRl5 : Rd w5 w5.heap.size A (bv (l.take (us l).2)) := by
    have h := (hR.below hb5').more hb5'.size
    rw [← List.take_append_drop (us l).2 l, bv_app] at h
    exact h.pre
  have hls : (l.take (us l).2).length = (us l).2 := by rw [List.length_take, HN.out]; omega
  have HLS := Lib.hid hls
  have hso := own_keep hs3o hb35
  have huo := own_keep hu hb35
  have hro := own_keep hr3 hb35
  have hsl := stf_len l
  rw [HN.out] at hsl
  clear hls hRy hy hRs hRu hs3o hu hr3
  generalize (us l).2 = k at *
  generalize (us l).1 = o at *
  have hsol : (stf o).length ≤ 2 * o.length := stf_len o
  generalize hsn : (stf l).length = sn at *
  have HLs : ∀ w6 : World, Below w5.drew.heap.size w5.drew w6 → Ls (w6.alloc (.cells #[.slice As sn cs, .slice Au o.length cu, .slice (some ⟨g, 0, none⟩) n d] 22)) w.heap.size w6.heap.size 3 (fun k => [Value.slice As sn cs, .slice Au o.length cu, .slice (some ⟨g, 0, none⟩) n d].getD k .nilIface) (fun k => [sn, o.length, n].getD k 0) := fun w6 hb6 => by
    have hb6' : Below w5.heap.size w5 w6 := ⟨hb6.os, hb6.tape, hb6.output, hb6.size, hb6.block⟩
    refine Ls.lit w6 w.heap.size [.slice As sn cs, .slice Au o.length cu, .slice (some ⟨g, 0, none⟩) n d] [sn, o.length, n] rfl (Nat.le_trans hb5'.size hb6'.size) ?_ ?_
    · intro q v m h1 h2
      match q, h1, h2 with
      | 0, h1, h2 => simp at h1 h2; subst h1 h2; exact ⟨by omega, _, own_keep (ownsRow_le hso hb1.size) hb6'⟩
      | 1, h1, h2 => simp at h1 h2; subst h1 h2; exact ⟨by omega, _, own_keep (ownsRow_le huo hb2'.size) hb6'⟩
      | 2, h1, h2 => simp at h1 h2; subst h1 h2; rw [bv_app] at hro; exact ⟨by omega, _, own_keep (own_short hro (by rw [bv_len]; exact HN.out)) hb6'⟩
      | q + 3, h1, h2 => simp at h1
    · simp only [List.pairwise_cons, List.mem_cons, List.not_mem_nil, or_false, forall_eq_or_imp, forall_eq, false_imp_iff, imp_true_iff, and_true, List.Pairwise.nil]
      refine ⟨⟨fun b hb hc => ?_, fun b hb hc => ?_⟩, fun b hb hc => ?_⟩
      · have h1 := hsb b hb; have h2 := hub b hc; omega
      · have h1 := hsb b hb; injection hc with hc; dsimp only at hc; omega
      · have h1 := hub b hb; injection hc with hc; dsimp only at hc; omega
  have hd5 : Below w.heap.size w w5.drew := ⟨hb5'.os, hb5'.tape, hb5'.output, hb5'.size, hb5'.block⟩
  have hk2 : (k : Int) ≤ (n : Int) := by omega
  go_wp2_with fail
  go_region_with (first
    | (go_at_call 19; refine (rstuff_any Au _ cu o w5.drew rfl hRu5.drew hob (by omega)).mono ?_; rintro e w6 ⟨z, rfl, hz, hb6⟩; obtain ⟨Az, cz, rfl, hRz⟩ := own_slice hz)
    | (go_at_call 18; refine (same_is _ _ _ _ _ _ (stf o) (l.take k) true (by rw [U3.out]; simp) _ _ w6 hRz ((hRl5.drew).below hb6) (stf_bs hob) (fun x hx => hB x (List.mem_of_mem_take hx)) rfl HLS.out.symm).mono ?_; rintro e w' ⟨rfl, rfl⟩)
    | (go_at_call 21; refine (aparts_any _ _ _ 3 _ _ _ (HLs w6 hb6) (by omega)).mono ?_; rintro e w8 ⟨rfl, hb8⟩))
  all_goals go_wp2_with fail
  all_goals go_ret
  all_goals refine ⟨rfl, hd5.trans ?_⟩
  all_goals exact ⟨hb8.os.trans hb6.os, hb8.tape.trans hb6.tape, hb8.output.trans hb6.output, Nat.le_trans (Nat.le_trans hb6.size (by simp)) hb8.size, fun b hb => (hb8.block b hb).trans ((Below.heap_alloc _ _ _ (Nat.lt_of_lt_of_le hb (Nat.le_trans hb5'.size hb6.size))).trans (hb6.block b (Nat.lt_of_lt_of_le hb hb5'.size)))⟩
namespace BitsStuffs
set_option maxRecDepth 100000 in
theorem contract (H : Type) (enc : TypeId × Value → H) (W : World) (base : Nat) (args : Array Value) (ds gs : List (DataW H)) (before : List MemPlace)
    (hval : ∀ (j : Nat) t v, Try.f3.params[j]? = some t → args[j]? = some v → Value.okWide Try.prog W .any base t v)
    (hW : DataW.Whole enc Try.prog Try.f3.params.toList Rows.bitsStuffsSpec.vars false W args.toList ds gs before) :
    Calls Try.prog 3 args W fun e W' => ∃ v, e = .returned v ∧ Rows.bitsStuffsSpec.post enc Try.prog Try.f3 false true false false W args v W' := by
  have hW' := hW
  obtain ⟨p, q, hA0, hV, rfl, hfz, hnd⟩ := hW
  have hA : DataW.TrodAll enc Try.prog W 0 (fun _ => true) true Try.f3.params.toList args.toList ds p := hA0
  rw [Try.params3] at hA hval
  clear hA0
  obtain ⟨v0, vs0, d0, ds0, p0, q0, hargs, rfl, rfl, h0, r0⟩ := trodAll_cons hA
  obtain ⟨rfl, rfl, rfl⟩ := trodAll_nil r0
  obtain rfl : args = #[v0] := by cases args; simp_all
  obtain ⟨rfl, rfl⟩ := trodVars_none hV
  obtain ⟨Ax0, nx0, cx0, rfl⟩ := okWide_slice Try.underlying22 (hval 0 _ _ rfl rfl)
  obtain ⟨fu0, hf0⟩ := h0
  obtain ⟨A', n', c', x0, ev0, hnx0, hcx0, hmx0, hRx0, hwx0⟩ := open_rd Try.underlying22 Try.underlying5 (by kernel_rfl) hf0
  injection ev0 with ea eb ec
  subst ea eb ec
  refine (bitsStuffs_any W Ax0 nx0 cx0 x0 hnx0 hcx0 hmx0 hRx0 (wf_bs hwx0)).mono fun e W' ⟨he, hb⟩ => ?_
  subst he
  exact ⟨_, rfl, post_true Facts.laid hW' rfl rfl Try.underlying4 (by kernel_rfl) rfl hb⟩

set_option maxRecDepth 100000 in
theorem lifted (os : Os) (started : os.Started) (H : Type) (enc : TypeId × Value → H) :
    ReturnsInHanded {} Try.checked os 3 .any (Rows.bitsStuffsSpec.pre6 enc Try.prog Try.f3 Rows.bitsStuffsRow.domain false) (Rows.bitsStuffsSpec.post enc Try.prog Try.f3 false true false false) := by
  refine returnsInHanded_of_change (C := Try.checked) Facts.own started (by kernel_rfl) Try.func3
    (ChangeSpec.witness6 (enc := enc) (C := Try.checked) (os := os) false ⟨#[], #[.slice none 0 0], []⟩ 8 (by kernel_rfl) (by kernel_rfl) (by kernel_rfl) (by kernel_rfl)) ?_
  intro W base args ds gs before hval hW _ _
  exact contract H enc W base args ds gs before hval hW

theorem k_wf : Rows.bitsStuffsRow.wf (OpenSpec.ofChange Rows.bitsStuffsSpec) = true := by kernel_rfl
theorem k_inp : (Rows.bitsStuffsRow.inPlace == Try.prog.inPlace 3) = true := by kernel_rfl
theorem k_unf : (Rows.bitsStuffsRow.unfollowed == Try.prog.unfollowed 3) = true := by kernel_rfl
theorem k_rec : (Rows.bitsStuffsRow.recurses == Try.prog.recurses 3) = true := by kernel_rfl
theorem k_nam : (Rows.bitsStuffsRow.named == Try.prog.varsNamed 3) = true := by kernel_rfl
theorem k_pk : (Rows.bitsStuffsRow.plainKeys == Try.prog.plainKeys) = true := (congrArg (fun x => Rows.bitsStuffsRow.plainKeys == x) Facts.plainKeys).trans (by kernel_rfl)
theorem k_lf : (Rows.bitsStuffsRow.lifted == Try.prog.liftsFinal) = true := (congrArg (fun x => Rows.bitsStuffsRow.lifted == x) Facts.liftsFinal).trans (by kernel_rfl)
theorem k_mk : (Try.prog.make == some Rows.bitsStuffsRow.make) = true := (congrArg (fun x => x == some Rows.bitsStuffsRow.make) Facts.make).trans (by kernel_rfl)
theorem k_par : (Try.f3.params.all (Try.prog.readableRec ·)) = true := by kernel_rfl
theorem k_maps : (Rows.bitsStuffsRow.maps == (Try.f3.params.toList ++ Rows.bitsStuffsSpec.plain.varTypes Try.prog).any (Try.prog.mapsRec ·)) = true := by kernel_rfl
theorem k_ifs : (Rows.bitsStuffsRow.ifaces == (Try.f3.params.toList ++ Rows.bitsStuffsSpec.plain.varTypes Try.prog).any (Try.prog.ifacesRec ·)) = true := by kernel_rfl
theorem k_lps : (Rows.bitsStuffsRow.loops == (Try.f3.params.toList ++ Rows.bitsStuffsSpec.plain.varTypes Try.prog).any (Try.prog.loopsFrom ·)) = true := by kernel_rfl
theorem k_wk : (Rows.bitsStuffsRow.wideKeys == (Try.f3.params.toList ++ Rows.bitsStuffsSpec.plain.varTypes Try.prog ++ Try.f3.resultTypes.toList).any (Try.prog.wideKeysFrom ·)) = true := by kernel_rfl
theorem k_vl : (Rows.bitsStuffsRow.veiled == (Try.f3.params.toList ++ Rows.bitsStuffsSpec.plain.varTypes Try.prog ++ Try.f3.resultTypes.toList).any (Try.prog.veiledRec ·)) = true := by kernel_rfl
theorem closed : joinedFacts Try.prog 3 Try.f3 Rows.bitsStuffsSpec Rows.bitsStuffsRow = true :=
  Facts.and_i (Facts.and_i (Facts.and_i (Facts.and_i (Facts.and_i (Facts.and_i (Facts.and_i (Facts.and_i (Facts.and_i (Facts.and_i (Facts.and_i (Facts.and_i (Facts.and_i (Facts.and_i (Facts.and_i (Facts.and_i (Facts.and_i (Facts.and_i (Facts.and_i (Facts.and_i (Facts.and_i (Facts.and_i (Facts.and_i (Facts.and_i (Facts.and_i (Facts.and_i (Facts.and_i (Facts.and_i (Facts.and_i (Facts.and_i (Facts.and_i
    k_wf Facts.laid) Facts.mapsRowed_) k_par) rfl) rfl) Facts.stops) rfl) Facts.stopKnobs) k_inp) k_unf) k_rec) k_nam) k_maps) k_ifs) (by kernel_rfl)) k_lps) k_wk) rfl) (by kernel_rfl)) (by kernel_rfl)) (by kernel_rfl)) k_pk) rfl) Facts.stopsHeard) Facts.mayEnter) k_lf) k_mk) (by kernel_rfl)) (by kernel_rfl)) k_vl) (by kernel_rfl)
theorem named : Try.prog.funcNamed Rows.bitsStuffsRow.func = some 3 := by kernel_rfl

theorem proved : Rows.BitsStuffsSaid :=
  OpenClaim.holds_of_wide 3 Try.f3 rfl rfl rfl rfl rfl rfl rfl ⟨rfl, rfl, rfl, rfl, rfl⟩ rfl rfl rfl rfl rfl named Try.func3 closed
    (of_decide_eq_true (by kernel_rfl)) (by unfold Func.isWrapper; first | (rw [if_pos (by decide +kernel)]; kernel_rfl) | (rw [if_neg (by decide +kernel)]; exact ⟨rfl, rfl⟩))
    (fun os started H enc _ => lifted os started H enc)
end BitsStuffs
#print axioms BitsStuffs.proved
end Go.Proofs.Ytkmgojoojboidaa
