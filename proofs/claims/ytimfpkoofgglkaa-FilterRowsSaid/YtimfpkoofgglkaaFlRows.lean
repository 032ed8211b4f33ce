/-
  FilterRows: what any row is filtered to and unfiltered to. No condition.
-/
import Derived.Test.YtimfpkoofgglkaaFlW
import Derived.Test.YtimfpkoofgglkaaApart
import Derived.Test.YtimfpkoofgglkaaFacts
import Derived.Deep.CutRange
import Derived.Deep.RegionWith
namespace Go.Proofs.Ytimfpkoofgglkaa
open Go.ChangeShapes Go.WideShapes Go.ChangeAt Go.WideMaps Go.WideElems Go.RowKit Go.Joins
set_option linter.unusedVariables false

theorem Box4.drew {w : World} {g : Nat} {a b c d : Value} (h : Box4 w g a b c d) : Box4 w.drew g a b c d := ⟨h.lt, h.c0, h.c1, h.c2, h.c3⟩
theorem own_keep {w w' : World} {base n : Nat} {e : TypeId} {v : Value} {xs : List Value} (h : w.ownsRow base e 1 v n xs) (hb : Below w.heap.size w w') : w'.ownsRow base e 1 v n xs :=
  (Fr.of_below (S := fun _ => False) hb).own h (fun _ _ f => f)
theorem own_short {w : World} {base n k g d : Nat} {e : TypeId} {xs ys : List Value} (h : w.ownsRow base e 1 (.slice (some ⟨g, 0, none⟩) (n + k) d) (n + k) (xs ++ ys)) (hx : xs.length = n) :
    w.ownsRow base e 1 (.slice (some ⟨g, 0, none⟩) n d) n xs := by
  refine ⟨by omega, .inr ?_⟩
  rcases h.2 with ⟨h1, _⟩ | ⟨g', cap, cur, hv, hb, hg, hnc, hcm, hcs, ht⟩
  · cases h1
  · injection hv with h1 _ h2
    injection h1 with h1
    injection h1 with h1
    subst h1 h2
    refine ⟨g, d, cur, rfl, hb, hg, by omega, hcm, hcs, ?_⟩
    have h3 : (cur.toList.take ((n + k) * 1)).take (n * 1) = (xs ++ ys).take (n * 1) := by rw [ht]
    rw [List.take_take, Nat.min_eq_left (by omega)] at h3
    rw [h3, Nat.mul_one]
    subst hx
    exact List.take_left
theorem Ls.lit (w : World) (base : Nat) (vl : List Value) (nl : List Nat) (hl : vl.length = nl.length) (hb : base ≤ w.heap.size)
    (h : ∀ (k : Nat) (v : Value) (n : Nat), vl[k]? = some v → nl[k]? = some n → n ≤ 1000000 ∧ ∃ xs, w.ownsRow base 5 1 v n xs)
    (hd : vl.Pairwise fun v v' => ∀ b, v.ownBlock = some b → v'.ownBlock ≠ some b) :
    Ls (w.alloc (.cells vl.toArray 26)) base w.heap.size vl.length (fun k => vl.getD k .nilIface) (fun k => nl.getD k 0) := by
  have hk : ∀ k, k < vl.length → ∃ v n, vl[k]? = some v ∧ nl[k]? = some n ∧ vl.getD k .nilIface = v ∧ nl.getD k 0 = n := fun k hk =>
    ⟨vl[k], nl[k], List.getElem?_eq_getElem hk, List.getElem?_eq_getElem (by omega), by simp [List.getD_eq_getElem?_getD, hk], by rw [List.getD_eq_getElem?_getD, List.getElem?_eq_getElem (by omega)]; rfl⟩
  refine ⟨by simp, hb, fun k hk' => ?_, fun k hk' => ?_, fun k hk' => ?_, fun i j b hi hj hij hbi => ?_, fun i b hi hbi => ?_⟩
  · obtain ⟨v, n, h1, h2, h3, h4⟩ := hk k hk'
    simp only [h3]
    rw [World.cell?_alloc_at _ _ _ _ rfl]
    simpa using h1
  · obtain ⟨v, n, h1, h2, h3, h4⟩ := hk k hk'
    simp only [h3, h4]
    obtain ⟨_, xs, hx⟩ := h k v n h1 h2
    exact ⟨xs, hx.alloc _⟩
  · obtain ⟨v, n, h1, h2, h3, h4⟩ := hk k hk'
    simp only [h4]
    exact (h k v n h1 h2).1
  · obtain ⟨v, n, h1, h2, h3, h4⟩ := hk i hi
    obtain ⟨v', n', h1', h2', h3', h4'⟩ := hk j hj
    simp only [h3, h3'] at hbi ⊢
    have hp := List.pairwise_iff_getElem.1 hd
    rw [List.getElem?_eq_getElem hi] at h1
    rw [List.getElem?_eq_getElem hj] at h1'
    injection h1 with h1
    injection h1' with h1'
    rcases Nat.lt_or_gt_of_ne hij with hlt | hlt
    · have := hp i j hi hj hlt b
      rw [h1, h1'] at this
      exact this hbi
    · intro hc
      have := hp j i hj hi hlt b
      rw [h1, h1'] at this
      exact this hc hbi
  · obtain ⟨v, n, h1, h2, h3, h4⟩ := hk i hi
    simp only [h3] at hbi
    obtain ⟨_, xs, hx⟩ := h i v n h1 h2
    have := (hx.lt b hbi).2
    omega

set_option maxRecDepth 100000 in
set_option maxHeartbeats 1000000 in
theorem filterRows_any (w : World) (k : Int) (hk : -9223372036854775808 ≤ k ∧ k ≤ 9223372036854775807) (A : Option Addr) (n c : Nat) (r : List Int) (hn : r.length = n) (hc : n ≤ c) (hm : c ≤ 9223372036854775807) (hR : Rd w w.heap.size A (bv r)) (hB : Bs r)
    (A2 : Option Addr) (n2 c2 : Nat) (a : List Int) (hn2 : a.length = n2) (hc2 : n2 ≤ c2) (hm2 : c2 ≤ 9223372036854775807) (hR2 : Rd w w.heap.size A2 (bv a)) (hB2 : Bs a) (p : Int) (hp : -9223372036854775808 ≤ p ∧ p ≤ 9223372036854775807) :
    Calls Try.prog 4 #[.agg #[.int .i64 k, .slice A n c, .slice A2 n2 c2, .int .i64 p]] w fun e w' => e = .returned (.bool true) ∧ Below w.heap.size w w' := by
  have X := Box4.new w 28 (.int .i64 k) (.slice A n c) (.slice A2 n2 c2) (.int .i64 p)
  have hb0 : Below w.heap.size w (w.alloc (.cells #[.int .i64 k, .slice A n c, .slice A2 n2 c2, .int .i64 p] 28)) := (Below.refl _ _).alloc (Nat.le_refl _) _
  have hsz : w.heap.size < (w.alloc (.cells #[.int .i64 k, .slice A n c, .slice A2 n2 c2, .int .i64 p] 28)).heap.size := by simp
  have HN := Lib.hid hn
  have HN2 := Lib.hid hn2
  clear hn hn2
  go_enter Try.func4, Try.ntmps4
  go_wp2_with fail
  generalize w.alloc (.cells #[.int .i64 k, .slice A n c, .slice A2 n2 c2, .int .i64 p] 28) = w0 at *
  refine (alive14_any _).mono ?_; rintro e w1 ⟨rfl, hb1⟩
  have X1 := X.below hb1 hsz
  have hb1' := hb0.trans (hb1.mono hb0.size)
  have hs1 := hb1.size
  obtain ⟨_, x0, x1, x2, x3⟩ := id X1
  go_wp2_with fail
  by_cases hl : 5000 < n ∨ 5000 < n2
  · refine (large_is k p A A2 n n2 c c2 true (by simp [hl]) (by omega) (by omega) _).mono ?_; rintro e w2 ⟨rfl, hb2⟩
    go_wp2
    go_ret
    exact ⟨rfl, hb1'.trans (hb2.mono hb1'.size)⟩
  refine (large_is k p A A2 n n2 c c2 false (by simp [hl]) (by omega) (by omega) _).mono ?_; rintro e w2 ⟨rfl, hb2⟩
  have X2 := X1.below hb2 X1.lt
  have hb2' := hb1'.trans (hb2.mono hb1'.size)
  have hnn : n ≤ 5000 ∧ n2 ≤ 5000 := by omega
  clear hl x0 x1 x2 x3 hb2 hb1 X1 hb1' hs1
  obtain ⟨_, x0, x1, x2, x3⟩ := id X2
  go_upto_region 5 with fail
  go_cut [3, 4] from 13 to 18 (fun vr va wx => ∃ g d g2 d2, vr = .slice (some ⟨g, 0, none⟩) n d ∧ va = .slice (some ⟨g2, 0, none⟩) n2 d2 ∧
      wx.ownsRow w.heap.size 5 1 (.slice (some ⟨g, 0, none⟩) (n + 2) d) (n + 2) (bv (r ++ [165, 90])) ∧
      wx.ownsRow w.heap.size 5 1 (.slice (some ⟨g2, 0, none⟩) (n2 + 2) d2) (n2 + 2) (bv (a ++ [165, 90])) ∧ g ≠ g2 ∧ Below w2.heap.size w2 wx)
  case first =>
    have hd' : Below w.heap.size w w2.drew := ⟨hb2'.os, hb2'.tape, hb2'.output, hb2'.size, hb2'.block⟩
    have X2d := X2.drew
    go_region_with (go_at_call 12; first
      | (refine (copy_any A2 n2 c2 a wq HN2.out ((hR2.below hq').more hq'.size) (by omega)).mono ?_; rintro e wz ⟨g2, d2, rfl, ho2, hz⟩)
      | (refine (copy_any A n c r wy HN.out ((hR.below hy').more hy'.size) (by omega)).mono ?_; rintro e wz ⟨g, d, rfl, ho, hz⟩)
      | (refine (copy_any A n c r w2.drew HN.out ((hR.below hd').more hd'.size) (by omega)).mono ?_; rintro e wq ⟨g, d, rfl, ho, hq⟩; have hq' : Below w.heap.size w wq := hd'.trans (hq.mono hd'.size); have y1 : wq.cell? ⟨w.heap.size, 1, none⟩ = _ := (X2d.below hq X2d.lt).c1; have y2 : wq.cell? ⟨w.heap.size, 2, none⟩ = _ := (X2d.below hq X2d.lt).c2)
      | (refine (copy_any A2 n2 c2 a w2.drew HN2.out ((hR2.below hd').more hd'.size) (by omega)).mono ?_; rintro e wy ⟨g2, d2, rfl, ho2, hy⟩; have hy' : Below w.heap.size w wy := hd'.trans (hy.mono hd'.size); have y1 : wy.cell? ⟨w.heap.size, 1, none⟩ = _ := (X2d.below hy X2d.lt).c1; have y2 : wy.cell? ⟨w.heap.size, 2, none⟩ = _ := (X2d.below hy X2d.lt).c2))
    all_goals go_wp2_with fail
    all_goals go_meet
    all_goals first
      | exact ⟨g, d, g2, d2, rfl, rfl, own_keep (ownsRow_le ho hd'.size) hz, ownsRow_le ho2 hq'.size, by have h1 := (ho.lt g rfl).2; have h2 := (ho2.lt g2 rfl).1; omega, ⟨hz.os.trans hq.os, hz.tape.trans hq.tape, hz.output.trans hq.output, Nat.le_trans hq.size hz.size, fun b hb => (hz.block b (Nat.lt_of_lt_of_le hb hq.size)).trans (hq.block b hb)⟩⟩
      | exact ⟨g, d, g2, d2, rfl, rfl, ownsRow_le ho hy'.size, own_keep (ownsRow_le ho2 hd'.size) hz, by have h1 := (ho2.lt g2 rfl).2; have h2 := (ho.lt g rfl).1; omega, ⟨hz.os.trans hy.os, hz.tape.trans hy.tape, hz.output.trans hy.output, Nat.le_trans hy.size hz.size, fun b hb => (hz.block b (Nat.lt_of_lt_of_le hb hy.size)).trans (hy.block b hb)⟩⟩
  case rest =>
    obtain ⟨g, d, g2, d2, rfl, rfl, hr, ha, hgg, hb3⟩ := hcut
    have hRr : Rd wc wc.heap.size (some ⟨g, 0, none⟩) (bv r) := by have h := Rd.of_own hr; rw [bv_app] at h; exact h.pre
    have hRa : Rd wc wc.heap.size (some ⟨g2, 0, none⟩) (bv a) := by have h := Rd.of_own ha; rw [bv_app] at h; exact h.pre
    have X3 := X2.below hb3 X2.lt
    have hb3' := hb2'.trans (hb3.mono hb2'.size)
    have lg := (hr.lt g rfl).2
    have lg2 := (ha.lt g2 rfl).2
    clear x0 x1 x2 x3 hb3 hb2' hb0
    obtain ⟨_, x0, x1, x2, x3⟩ := id X3
    by_cases hg : Good k p n n2
    · go_wp2_with fail
      refine (filter_any k p _ _ n n2 d d2 r a _ hg.1 hg.2.1 HN.out HN2.out hRr hRa hB hB2 hg.2.2 (by omega)).mono ?_; rintro e w4 ⟨f, rfl, hf, hb4⟩
      have X4 := X3.below hb4 X3.lt
      have hb4' := hb3'.trans (hb4.mono hb3'.size)
      have hs4 := hb4.size
      clear x0 x1 x2 x3
      obtain ⟨_, x0, x1, x2, x3⟩ := id X4
      go_wp2_with fail
      refine (unfilter_any k p _ _ n n2 d d2 r a _ hg.1 hg.2.1 HN.out HN2.out ((hRr.below hb4).more hb4.size) ((hRa.below hb4).more hb4.size) hB hB2 hg.2.2 (by omega)).mono ?_; rintro e w5 ⟨u, rfl, hu, hb5⟩
      have X5 := X4.below hb5 X4.lt
      have hb5' := hb4'.trans (hb5.mono hb4'.size)
      have hs5 := hb5.size
      have hr5 := own_keep (own_keep hr hb4) hb5
      have ha5 := own_keep (own_keep ha hb4) hb5
      have hf5 := own_keep hf hb5
      have hfb : ∀ b, f.ownBlock = some b → wc.heap.size ≤ b ∧ b < w4.heap.size := hf.lt
      have hub : ∀ b, u.ownBlock = some b → w4.heap.size ≤ b ∧ b < w5.heap.size := hu.lt
      obtain ⟨Af, cf, rfl, hRf⟩ := own_slice hf5
      obtain ⟨Au, cu, rfl, hRu⟩ := own_slice hu
      clear x0 x1 x2 x3 hf hr ha hRr hRa
      obtain ⟨_, x0, x1, x2, x3⟩ := id X5
      go_wp2_with fail
      refine (kept_any A n c g d _ r _ HN.out ((hR.below hb5').more hb5'.size) hB (by omega) hr5).mono ?_; rintro e w' ⟨rfl, rfl⟩
      go_wp2_with fail
      refine (kept_any A2 n2 c2 g2 d2 _ a _ HN2.out ((hR2.below hb5').more hb5'.size) hB2 (by omega) ha5).mono ?_; rintro e w' ⟨rfl, rfl⟩
      go_wp2_with fail
      refine (good_is k p A A2 n n2 c c2 true (by simp [hg]) (by omega) (by omega) _).mono ?_; rintro e w' ⟨rfl, rfl⟩
      go_wp2_with fail
      refine (rfilter_any k p A A2 n n2 c c2 r a _ hg.2.1 HN.out HN2.out ((hR.below hb5').more hb5'.size) ((hR2.below hb5').more hb5'.size) hB hB2 hg.2.2 (by omega)).mono ?_; rintro e w6 ⟨y, rfl, hy, hb6⟩
      have X6 := X5.below hb6 X5.lt
      have hb6' := hb5'.trans (hb6.mono hb5'.size)
      have hs6 := hb6.size
      obtain ⟨Ay, cy, rfl, hRy⟩ := own_slice hy
      clear x0 x1 x2 x3
      obtain ⟨_, x0, x1, x2, x3⟩ := id X6
      go_wp2_with fail
      refine (same_is _ _ _ _ _ _ _ _ true (by simp) _ _ _ (hRf.below hb6) hRy (filT_bs _ _ _ _ _) (filT_bs _ _ _ _ _) (by rw [fil, filT_len]; exact HN.out.symm) (by rw [fil, filT_len]; exact HN.out.symm)).mono ?_; rintro e w7 ⟨rfl, rfl⟩
      go_wp2_with fail
      refine (runfilter_any k p A A2 n n2 c c2 r a _ hg.2.1 HN.out HN2.out ((hR.below hb6').more hb6'.size) ((hR2.below hb6').more hb6'.size) hB hB2 hg.2.2 (by omega)).mono ?_; rintro e w7 ⟨z, rfl, hz, hb7⟩
      have hb7' := hb6'.trans (hb7.mono hb6'.size)
      have hs7 := hb7.size
      obtain ⟨Az, cz, rfl, hRz⟩ := own_slice hz
      clear x0 x1 x2 x3
      go_wp2_with fail
      refine (same_is _ _ _ _ _ _ _ _ true (by simp) _ _ _ ((hRu.below hb6).below (hb7.mono hb6.size)) hRz (unfT_bs _ _ _ _ _) (unfT_bs _ _ _ _ _) (by rw [unf, unfT_len]; exact HN.out.symm) (by rw [unf, unfT_len]; exact HN.out.symm)).mono ?_; rintro e w7 ⟨rfl, rfl⟩
      have hLs := Ls.lit w7 w.heap.size [.slice Af n cf, .slice Au n cu, .slice (some ⟨g, 0, none⟩) n d, .slice (some ⟨g2, 0, none⟩) n2 d2] [n, n, n, n2] rfl hb7'.size (by
        intro q v m h1 h2
        match q, h1, h2 with
        | 0, h1, h2 => simp at h1 h2; subst h1 h2; exact ⟨by omega, _, own_keep (own_keep (ownsRow_le hf5 hb3'.size) hb6) hb7⟩
        | 1, h1, h2 => simp at h1 h2; subst h1 h2; exact ⟨by omega, _, own_keep (own_keep (ownsRow_le hu hb4'.size) hb6) hb7⟩
        | 2, h1, h2 => simp at h1 h2; subst h1 h2; rw [bv_app] at hr5; exact ⟨by omega, _, own_keep (own_keep (own_short hr5 (by rw [bv_len]; exact HN.out)) hb6) hb7⟩
        | 3, h1, h2 => simp at h1 h2; subst h1 h2; rw [bv_app] at ha5; exact ⟨by omega, _, own_keep (own_keep (own_short ha5 (by rw [bv_len]; exact HN2.out)) hb6) hb7⟩
        | q + 4, h1, h2 => simp at h1) (by
        simp only [List.pairwise_cons, List.mem_cons, List.not_mem_nil, or_false, forall_eq_or_imp, forall_eq, false_imp_iff, imp_true_iff, and_true, List.Pairwise.nil]
        refine ⟨⟨fun b hb hc => ?_, fun b hb hc => ?_, fun b hb hc => ?_⟩, ⟨fun b hb hc => ?_, fun b hb hc => ?_⟩, fun b hb hc => ?_⟩
        · have h1 := hfb b hb; have h2 := hub b hc; omega
        · have h1 := hfb b hb; injection hc with hc; dsimp only at hc; omega
        · have h1 := hfb b hb; injection hc with hc; dsimp only at hc; omega
        · have h1 := hub b hb; injection hc with hc; dsimp only at hc; omega
        · have h1 := hub b hb; injection hc with hc; dsimp only at hc; omega
        · injection hb with hb; injection hc with hc; dsimp only at hb hc; omega)
      clear hf5 hu hr5 ha5 hfb hub hRf hRu hRy hRz hy hz
      go_wp2_with fail
      refine (aparts_any _ _ _ 4 _ _ _ hLs (by omega)).mono ?_; rintro e w8 ⟨rfl, hb8⟩
      go_wp2
      go_ret
      refine ⟨rfl, hb7'.trans ?_⟩
      exact ⟨hb8.os, hb8.tape, hb8.output, Nat.le_trans (by simp) hb8.size, fun b hb => (hb8.block b hb).trans (Below.heap_alloc _ _ _ (Nat.lt_of_lt_of_le hb hb7'.size))⟩
    · go_wp2_with fail
      refine (filter_bad k p _ _ n n2 d d2 hg (by omega) (by omega) _).mono ?_; rintro e w' ⟨rfl, rfl⟩
      go_wp2_with fail
      refine (unfilter_bad k p _ _ n n2 d d2 hg (by omega) (by omega) _).mono ?_; rintro e w' ⟨rfl, rfl⟩
      go_wp2_with fail
      refine (kept_any A n c g d _ r _ HN.out ((hR.below hb3').more hb3'.size) hB (by omega) hr).mono ?_; rintro e w' ⟨rfl, rfl⟩
      go_wp2_with fail
      refine (kept_any A2 n2 c2 g2 d2 _ a _ HN2.out ((hR2.below hb3').more hb3'.size) hB2 (by omega) ha).mono ?_; rintro e w' ⟨rfl, rfl⟩
      go_wp2_with fail
      refine (good_is k p A A2 n n2 c c2 false (by simp [hg]) (by omega) (by omega) _).mono ?_; rintro e w' ⟨rfl, rfl⟩
      unfold errV
      go_wp2_with fail
      refine (is_err 6 6 (by omega) _).mono ?_; rintro e w' ⟨rfl, rfl⟩
      go_wp2_with fail
      refine (is_err 6 6 (by omega) _).mono ?_; rintro e w' ⟨rfl, rfl⟩
      go_wp2
      go_ret
      exact ⟨rfl, hb3'⟩
namespace FilterRows
set_option maxRecDepth 100000 in
theorem contract (H : Type) (enc : TypeId × Value → H) (W : World) (base : Nat) (args : Array Value) (ds gs : List (DataW H)) (before : List MemPlace)
    (hval : ∀ (j : Nat) t v, Try.f4.params[j]? = some t → args[j]? = some v → Value.okWide Try.prog W .any base t v)
    (hW : DataW.Whole enc Try.prog Try.f4.params.toList Rows.filterRowsSpec.vars false W args.toList ds gs before) :
    Calls Try.prog 4 args W fun e W' => ∃ v, e = .returned v ∧ Rows.filterRowsSpec.post enc Try.prog Try.f4 false true false false W args v W' := by
  have hW' := hW
  obtain ⟨p, q, hA0, hV, rfl, hfz, hnd⟩ := hW
  have hA : DataW.TrodAll enc Try.prog W 0 (fun _ => true) true Try.f4.params.toList args.toList ds p := hA0
  rw [Try.params4] at hA hval
  clear hA0
  obtain ⟨v0, vs0, d0, ds0, p0, q0, hargs, rfl, rfl, h0, r0⟩ := trodAll_cons hA
  obtain ⟨rfl, rfl, rfl⟩ := trodAll_nil r0
  obtain rfl : args = #[v0] := by cases args; simp_all
  obtain ⟨rfl, rfl⟩ := trodVars_none hV
  obtain ⟨c0_0, c0_1, c0_2, c0_3, y0_0, y0_1, y0_2, y0_3, m0, rfl, rfl, rfl, hy0_0, hy0_1, hy0_2, hy0_3⟩ := open_agg4 Try.underlying28 (by kernel_rfl) (by kernel_rfl) (hval 0 _ _ rfl rfl) h0
  obtain ⟨x0, ex0, rfl, wx0⟩ := DataW.trod_int Try.underlying3 hy0_0
  simp only [List.cons.injEq, and_true] at ex0
  subst ex0
  obtain ⟨Ax1, nx1, cx1, x1, rfl, hnx1, hcx1, hmx1, hRx1, hwx1⟩ := open_rd Try.underlying26 Try.underlying5 (by kernel_rfl) hy0_1
  obtain ⟨Ax2, nx2, cx2, x2, rfl, hnx2, hcx2, hmx2, hRx2, hwx2⟩ := open_rd Try.underlying26 Try.underlying5 (by kernel_rfl) hy0_2
  obtain ⟨x3, ex3, rfl, wx3⟩ := DataW.trod_int Try.underlying3 hy0_3
  simp only [List.cons.injEq, and_true] at ex3
  subst ex3
  refine (filterRows_any W x0 (wf_i wx0) Ax1 nx1 cx1 x1 hnx1 hcx1 hmx1 hRx1 (wf_bs hwx1) Ax2 nx2 cx2 x2 hnx2 hcx2 hmx2 hRx2 (wf_bs hwx2) x3 (wf_i wx3)).mono fun e W' ⟨he, hb⟩ => ?_
  subst he
  exact ⟨_, rfl, post_true Facts.laid hW' rfl rfl Try.underlying4 (by kernel_rfl) rfl hb⟩

set_option maxRecDepth 100000 in
theorem lifted (os : Os) (started : os.Started) (H : Type) (enc : TypeId × Value → H) :
    ReturnsInHanded {} Try.checked os 4 .any (Rows.filterRowsSpec.pre6 enc Try.prog Try.f4 Rows.filterRowsRow.domain false) (Rows.filterRowsSpec.post enc Try.prog Try.f4 false true false false) := by
  refine returnsInHanded_of_change (C := Try.checked) Facts.own started (by kernel_rfl) Try.func4
    (ChangeSpec.witness6 (enc := enc) (C := Try.checked) (os := os) false ⟨#[], #[.agg #[.int .i64 0, .slice none 0 0, .slice none 0 0, .int .i64 0]], []⟩ 8 (by kernel_rfl) (by kernel_rfl) (by kernel_rfl) (by kernel_rfl)) ?_
  intro W base args ds gs before hval hW _ _
  exact contract H enc W base args ds gs before hval hW

theorem k_wf : Rows.filterRowsRow.wf (OpenSpec.ofChange Rows.filterRowsSpec) = true := by kernel_rfl
theorem k_inp : (Rows.filterRowsRow.inPlace == Try.prog.inPlace 4) = true := by kernel_rfl
theorem k_unf : (Rows.filterRowsRow.unfollowed == Try.prog.unfollowed 4) = true := by kernel_rfl
theorem k_rec : (Rows.filterRowsRow.recurses == Try.prog.recurses 4) = true := by kernel_rfl
theorem k_nam : (Rows.filterRowsRow.named == Try.prog.varsNamed 4) = true := by kernel_rfl
theorem k_pk : (Rows.filterRowsRow.plainKeys == Try.prog.plainKeys) = true := (congrArg (fun x => Rows.filterRowsRow.plainKeys == x) Facts.plainKeys).trans (by kernel_rfl)
theorem k_lf : (Rows.filterRowsRow.lifted == Try.prog.liftsFinal) = true := (congrArg (fun x => Rows.filterRowsRow.lifted == x) Facts.liftsFinal).trans (by kernel_rfl)
theorem k_mk : (Try.prog.make == some Rows.filterRowsRow.make) = true := (congrArg (fun x => x == some Rows.filterRowsRow.make) Facts.make).trans (by kernel_rfl)
theorem k_par : (Try.f4.params.all (Try.prog.readableRec ·)) = true := by kernel_rfl
theorem k_maps : (Rows.filterRowsRow.maps == (Try.f4.params.toList ++ Rows.filterRowsSpec.plain.varTypes Try.prog).any (Try.prog.mapsRec ·)) = true := by kernel_rfl
theorem k_ifs : (Rows.filterRowsRow.ifaces == (Try.f4.params.toList ++ Rows.filterRowsSpec.plain.varTypes Try.prog).any (Try.prog.ifacesRec ·)) = true := by kernel_rfl
theorem k_lps : (Rows.filterRowsRow.loops == (Try.f4.params.toList ++ Rows.filterRowsSpec.plain.varTypes Try.prog).any (Try.prog.loopsFrom ·)) = true := by kernel_rfl
theorem k_wk : (Rows.filterRowsRow.wideKeys == (Try.f4.params.toList ++ Rows.filterRowsSpec.plain.varTypes Try.prog ++ Try.f4.resultTypes.toList).any (Try.prog.wideKeysFrom ·)) = true := by kernel_rfl
theorem k_vl : (Rows.filterRowsRow.veiled == (Try.f4.params.toList ++ Rows.filterRowsSpec.plain.varTypes Try.prog ++ Try.f4.resultTypes.toList).any (Try.prog.veiledRec ·)) = true := by kernel_rfl
theorem closed : joinedFacts Try.prog 4 Try.f4 Rows.filterRowsSpec Rows.filterRowsRow = true :=
  Facts.and_i (Facts.and_i (Facts.and_i (Facts.and_i (Facts.and_i (Facts.and_i (Facts.and_i (Facts.and_i (Facts.and_i (Facts.and_i (Facts.and_i (Facts.and_i (Facts.and_i (Facts.and_i (Facts.and_i (Facts.and_i (Facts.and_i (Facts.and_i (Facts.and_i (Facts.and_i (Facts.and_i (Facts.and_i (Facts.and_i (Facts.and_i (Facts.and_i (Facts.and_i (Facts.and_i (Facts.and_i (Facts.and_i (Facts.and_i (Facts.and_i
    k_wf Facts.laid) Facts.mapsRowed_) k_par) rfl) rfl) Facts.stops) rfl) Facts.stopKnobs) k_inp) k_unf) k_rec) k_nam) k_maps) k_ifs) (by kernel_rfl)) k_lps) k_wk) rfl) (by kernel_rfl)) (by kernel_rfl)) (by kernel_rfl)) k_pk) rfl) Facts.stopsHeard) Facts.mayEnter) k_lf) k_mk) (by kernel_rfl)) (by kernel_rfl)) k_vl) (by kernel_rfl)
theorem named : Try.prog.funcNamed Rows.filterRowsRow.func = some 4 := by kernel_rfl

theorem proved : Rows.FilterRowsSaid :=
  OpenClaim.holds_of_wide 4 Try.f4 rfl rfl rfl rfl rfl rfl rfl ⟨rfl, rfl, rfl, rfl, rfl⟩ rfl rfl rfl rfl rfl named Try.func4 closed
    (of_decide_eq_true (by kernel_rfl)) (by unfold Func.isWrapper; first | (rw [if_pos (by decide +kernel)]; kernel_rfl) | (rw [if_neg (by decide +kernel)]; exact ⟨rfl, rfl⟩))
    (fun os started H enc _ => lifted os started H enc)
end FilterRows
#print axioms FilterRows.proved
end Go.Proofs.Ytimfpkoofgglkaa
