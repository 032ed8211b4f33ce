/-
  FilterBack: filtering undoes unfiltering, and the other way round. No condition.
-/
import Derived.Test.YtimfpkoofgglkaaFlC
namespace Go.Proofs.Ytimfpkoofgglkaa
open Go.ChangeShapes Go.WideShapes Go.ChangeAt Go.WideMaps Go.WideElems Go.RowKit Go.Joins
set_option linter.unusedVariables false

/-! plain -/
theorem filT_getD (k p : Int) (row ahead : List Int) : ∀ (n j : Nat), j < n → (filT k p row ahead n).getD j 0 = (row.getD j 0 - foreAt k p row ahead j) % 256 := by
  intro n
  induction n with
  | zero => intro j h; omega
  | succ n ih =>
    intro j h
    simp only [filT]
    by_cases hj : j < n
    · have hl : j < (filT k p row ahead n).length := by rw [filT_len]; exact hj
      rw [List.getD_eq_getElem?_getD, List.getElem?_append_left hl, ← List.getD_eq_getElem?_getD, ih j hj]
    · obtain rfl : j = n := by omega
      rw [List.getD_eq_getElem?_getD, List.getElem?_append_right (by rw [filT_len]; omega), filT_len]
      simp
theorem unfT_getD (k p : Int) (row ahead : List Int) : ∀ (n j : Nat), j < n → (unfT k p row ahead n).getD j 0 = (row.getD j 0 + foreAt k p (unfT k p row ahead j) ahead j) % 256 := by
  intro n
  induction n with
  | zero => intro j h; omega
  | succ n ih =>
    intro j h
    simp only [unfT]
    by_cases hj : j < n
    · have hl : j < (unfT k p row ahead n).length := by rw [unfT_len]; exact hj
      rw [List.getD_eq_getElem?_getD, List.getElem?_append_left hl, ← List.getD_eq_getElem?_getD, ih j hj]
    · obtain rfl : j = n := by omega
      rw [List.getD_eq_getElem?_getD, List.getElem?_append_right (by rw [unfT_len]; omega), unfT_len]
      simp
theorem atL_congr {a b : List Int} {i : Int} (h : ∀ j : Nat, (j : Int) = i → a.getD j 0 = b.getD j 0) (ha : 0 ≤ i → i < a.length) (hb : 0 ≤ i → i < b.length) : atL a i = atL b i := by
  unfold atL
  by_cases h0 : 0 ≤ i
  · rw [if_pos ⟨h0, ha h0⟩, if_pos ⟨h0, hb h0⟩]
    exact h _ (by omega)
  · rw [if_neg (by omega), if_neg (by omega)]
theorem unfT_pre (k p : Int) (row ahead : List Int) : ∀ (n j : Nat), j ≤ n → (unfT k p row ahead n).take j = unfT k p row ahead j := by
  intro n
  induction n with
  | zero => intro j h; obtain rfl : j = 0 := by omega
            rfl
  | succ n ih =>
    intro j h
    by_cases hj : j ≤ n
    · simp only [unfT]
      rw [List.take_append_of_le_length (by rw [unfT_len]; exact hj), ih j hj]
    · obtain rfl : j = n + 1 := by omega
      rw [List.take_of_length_le (by rw [unfT_len]; omega)]
theorem take_snoc' (l : List Int) (j : Nat) (h : j < l.length) : l.take (j + 1) = l.take j ++ [l.getD j 0] := by
  rw [List.take_succ_eq_append_getElem h, List.getD_eq_getElem?_getD, List.getElem?_eq_getElem h]; rfl
theorem take_getD (l : List Int) (j i : Nat) (h : i < j) : (l.take j).getD i 0 = l.getD i 0 := by
  rw [List.getD_eq_getElem?_getD, List.getElem?_take_of_lt h, ← List.getD_eq_getElem?_getD]
theorem unf_fil {k p : Int} {row ahead : List Int} (hp : 1 ≤ p) (hB : Bs row) : unf k p (fil k p row ahead) ahead = row := by
  have key : ∀ j, j ≤ row.length → unfT k p (fil k p row ahead) ahead j = row.take j := by
    intro j
    induction j with
    | zero => intro _; simp [unfT]
    | succ j ih =>
      intro hj
      rw [unfT, ih (by omega), take_snoc' row j (by omega)]
      congr 2
      unfold fil
      rw [filT_getD _ _ _ _ _ _ (by omega)]
      have h1 : foreAt k p (row.take j) ahead j = foreAt k p row ahead j := by
        unfold foreAt
        rw [atL_congr (a := row.take j) (b := row) (fun i hi => take_getD row j i (by omega)) (fun h0 => by simp; omega) (fun h0 => by omega)]
      rw [h1]
      have := getD_bd hB j
      omega
  unfold unf
  rw [key _ (by rw [fil, filT_len]; exact Nat.le_refl _)]
  exact List.take_of_length_le (by rw [fil, filT_len]; exact Nat.le_refl _)
theorem fil_unf {k p : Int} {row ahead : List Int} (hp : 1 ≤ p) (hB : Bs row) : fil k p (unf k p row ahead) ahead = row := by
  have hl : (unf k p row ahead).length = row.length := by rw [unf, unfT_len]
  have key : ∀ j, j ≤ row.length → filT k p (unf k p row ahead) ahead j = row.take j := by
    intro j
    induction j with
    | zero => intro _; simp [filT]
    | succ j ih =>
      intro hj
      rw [filT, ih (by omega), take_snoc' row j (by omega)]
      congr 2
      have h0 : (unf k p row ahead).getD j 0 = (row.getD j 0 + foreAt k p (unfT k p row ahead j) ahead j) % 256 := by
        unfold unf; exact unfT_getD _ _ _ _ _ _ (by omega)
      have h1 : foreAt k p (unf k p row ahead) ahead j = foreAt k p (unfT k p row ahead j) ahead j := by
        unfold foreAt
        rw [atL_congr (a := unf k p row ahead) (b := unfT k p row ahead j) (fun i hi => ?_) (fun h0 => by rw [hl]; omega) (fun h0 => by rw [unfT_len]; omega)]
        have : i < j := by omega
        have h2 := unfT_pre k p row ahead row.length j (by omega)
        rw [← h2, take_getD _ _ _ this]; rfl
      rw [h0, h1]
      have := getD_bd hB j
      omega
  unfold fil
  rw [hl, key _ (Nat.le_refl _)]
  exact List.take_of_length_le (Nat.le_refl _)

set_option maxHeartbeats 1000000 in
theorem filterBack_any (w : World) (k : Int) (hk : -9223372036854775808 ≤ k ∧ k ≤ 9223372036854775807) (A : Option Addr) (n c : Nat) (r : List Int) (hn : r.length = n) (hc : n ≤ c) (hm : c ≤ 9223372036854775807) (hR : Rd w w.heap.size A (bv r)) (hB : Bs r)
    (A2 : Option Addr) (n2 c2 : Nat) (a : List Int) (hn2 : a.length = n2) (hc2 : n2 ≤ c2) (hm2 : c2 ≤ 9223372036854775807) (hR2 : Rd w w.heap.size A2 (bv a)) (hB2 : Bs a) (p : Int) (hp : -9223372036854775808 ≤ p ∧ p ≤ 9223372036854775807) :
    Calls Try.prog 5 #[.agg #[.int .i64 k, .slice A n c, .slice A2 n2 c2, .int .i64 p]] w fun e w' => e = .returned (.bool true) ∧ Below w.heap.size w w' := by
  have X := Box4.new w 28 (.int .i64 k) (.slice A n c) (.slice A2 n2 c2) (.int .i64 p)
  have hb0 : Below w.heap.size w (w.alloc (.cells #[.int .i64 k, .slice A n c, .slice A2 n2 c2, .int .i64 p] 28)) := (Below.refl _ _).alloc (Nat.le_refl _) _
  have hsz : w.heap.size < (w.alloc (.cells #[.int .i64 k, .slice A n c, .slice A2 n2 c2, .int .i64 p] 28)).heap.size := by simp
  have HN := Lib.hid hn
  have HN2 := Lib.hid hn2
  clear hn hn2
  go_enter Try.func5, Try.ntmps5
  go_wp2_with fail
  generalize w.alloc (.cells #[.int .i64 k, .slice A n c, .slice A2 n2 c2, .int .i64 p] 28) = w0 at *
  refine (alive14_any _).mono ?_; rintro e w1 ⟨rfl, hb1⟩
  have X1 := X.below hb1 hsz
  have hb1' := hb0.trans (hb1.mono hb0.size)
  have hs1 := hb1.size
  obtain ⟨_, x0, x1, x2, x3⟩ := id X1
  go_wp2_with fail
  by_cases hl : 5000 < n ∨ 5000 < n2
  · refine (large_is k p A A2 n n2 c c2 true (by simp [hl]) (by omega) (by omega) _).mono ?_; rintro e w2 ⟨rfl, hb2⟩
    go_wp2
    go_ret
    exact ⟨rfl, hb1'.trans (hb2.mono hb1'.size)⟩
  refine (large_is k p A A2 n n2 c c2 false (by simp [hl]) (by omega) (by omega) _).mono ?_; rintro e w2 ⟨rfl, hb2⟩
  have X2 := X1.below hb2 X1.lt
  have hb2' := hb1'.trans (hb2.mono hb1'.size)
  have hnn : n ≤ 5000 ∧ n2 ≤ 5000 := by omega
  clear hl x0 x1 x2 x3 hb2 hb1 X1 hb1' hs1
  obtain ⟨_, x0, x1, x2, x3⟩ := id X2
  by_cases hg : Good k p n n2
  · go_wp2_with fail
    refine (filter_any k p A A2 n n2 c c2 r a _ hg.1 hg.2.1 HN.out HN2.out ((hR.below hb2').more hb2'.size) ((hR2.below hb2').more hb2'.size) hB hB2 hg.2.2 (by omega)).mono ?_; rintro e w3 ⟨f, rfl, hf, hb3⟩
    have X3 := X2.below hb3 X2.lt
    have hb3' := hb2'.trans (hb3.mono hb2'.size)
    clear x0 x1 x2 x3
    obtain ⟨_, x0, x1, x2, x3⟩ := id X3
    go_wp2_with fail
    refine (unfilter_any k p A A2 n n2 c c2 r a _ hg.1 hg.2.1 HN.out HN2.out ((hR.below hb3').more hb3'.size) ((hR2.below hb3').more hb3'.size) hB hB2 hg.2.2 (by omega)).mono ?_; rintro e w4 ⟨u, rfl, hu, hb4⟩
    have X4 := X3.below hb4 X3.lt
    have hb4' := hb3'.trans (hb4.mono hb3'.size)
    obtain ⟨Af, cf, rfl, hRf⟩ := own_slice hf
    obtain ⟨Au, cu, rfl, hRu⟩ := own_slice hu
    have hRf4 := hRf.below hb4
    clear x0 x1 x2 x3
    obtain ⟨_, x0, x1, x2, x3⟩ := id X4
    go_wp2_with fail
    refine (unfilter_any k p Af A2 n n2 cf c2 _ a _ hg.1 hg.2.1 (by rw [fil, filT_len]; exact HN.out) HN2.out (hRf4.more hb4.size) ((hR2.below hb4').more hb4'.size) (filT_bs _ _ _ _ _) hB2 hg.2.2 (by omega)).mono ?_; rintro e w5 ⟨y, rfl, hy, hb5⟩
    have X5 := X4.below hb5 X4.lt
    have hb5' := hb4'.trans (hb5.mono hb4'.size)
    have hRu5 := hRu.below hb5
    clear x0 x1 x2 x3
    obtain ⟨_, x0, x1, x2, x3⟩ := id X5
    go_wp2_with fail
    refine (filter_any k p Au A2 n n2 cu c2 _ a _ hg.1 hg.2.1 (by rw [unf, unfT_len]; exact HN.out) HN2.out (hRu5.more hb5.size) ((hR2.below hb5').more hb5'.size) (unfT_bs _ _ _ _ _) hB2 hg.2.2 (by omega)).mono ?_; rintro e w6 ⟨z, rfl, hz, hb6⟩
    have X6 := X5.below hb6 X5.lt
    have hb6' := hb5'.trans (hb6.mono hb5'.size)
    rw [unf_fil hg.2.1.1 hB] at hy
    rw [fil_unf hg.2.1.1 hB] at hz
    obtain ⟨Ay, cy, rfl, hRy⟩ := own_slice hy
    obtain ⟨Az, cz, rfl, hRz⟩ := own_slice hz
    clear x0 x1 x2 x3
    obtain ⟨_, x0, x1, x2, x3⟩ := id X6
    go_wp2_with fail
    refine (same_is _ _ _ _ _ _ r r true (by simp) _ _ _ (hRy.below hb6) (hR.below hb6') hB hB HN.out.symm HN.out.symm).mono ?_; rintro e w7 ⟨rfl, rfl⟩
    go_wp2_with fail
    refine (same_is _ _ _ _ _ _ r r true (by simp) _ _ _ hRz (hR.below hb6') hB hB HN.out.symm HN.out.symm).mono ?_; rintro e w7 ⟨rfl, rfl⟩
    go_wp2
    go_ret
    exact ⟨rfl, hb6'⟩
  · go_wp2_with fail
    refine (filter_bad k p A A2 n n2 c c2 hg (by omega) (by omega) _).mono ?_; rintro e w3 ⟨rfl, rfl⟩
    go_wp2_with fail
    refine (unfilter_bad k p A A2 n n2 c c2 hg (by omega) (by omega) _).mono ?_; rintro e w3 ⟨rfl, rfl⟩
    unfold errV
    go_wp2
    go_ret
    exact ⟨rfl, hb2'⟩
namespace FilterBack
theorem own : ownKnob Try.prog.godebug = none := by kernel_rfl
theorem laid : laidOutB Try.prog = true := by kernel_rfl

theorem contract (H : Type) (enc : TypeId × Value → H) (W : World) (base : Nat) (args : Array Value) (ds gs : List (DataW H)) (before : List MemPlace)
    (hval : ∀ (j : Nat) t v, Try.f5.params[j]? = some t → args[j]? = some v → Value.okWide Try.prog W .any base t v)
    (hW : DataW.Whole enc Try.prog Try.f5.params.toList Rows.filterBackSpec.vars false W args.toList ds gs before) :
    Calls Try.prog 5 args W fun e W' => ∃ v, e = .returned v ∧ Rows.filterBackSpec.post enc Try.prog Try.f5 false true false false W args v W' := by
  have hW' := hW
  obtain ⟨p, q, hA0, hV, rfl, hfz, hnd⟩ := hW
  have hA : DataW.TrodAll enc Try.prog W 0 (fun _ => true) true Try.f5.params.toList args.toList ds p := hA0
  rw [Try.params5] at hA hval
  clear hA0
  obtain ⟨v0, vs0, d0, ds0, p0, q0, hargs, rfl, rfl, h0, r0⟩ := trodAll_cons hA
  obtain ⟨rfl, rfl, rfl⟩ := trodAll_nil r0
  obtain rfl : args = #[v0] := by cases args; simp_all
  obtain ⟨rfl, rfl⟩ := trodVars_none hV
  obtain ⟨c0_0, c0_1, c0_2, c0_3, y0_0, y0_1, y0_2, y0_3, m0, rfl, rfl, rfl, hy0_0, hy0_1, hy0_2, hy0_3⟩ := open_agg4 Try.underlying28 (by kernel_rfl) (by kernel_rfl) (hval 0 _ _ rfl rfl) h0
  obtain ⟨x0, ex0, rfl, wx0⟩ := DataW.trod_int Try.underlying3 hy0_0
  simp only [List.cons.injEq, and_true] at ex0
  subst ex0
  obtain ⟨Ax1, nx1, cx1, x1, rfl, hnx1, hcx1, hmx1, hRx1, hwx1⟩ := open_rd Try.underlying26 Try.underlying5 (by kernel_rfl) hy0_1
  obtain ⟨Ax2, nx2, cx2, x2, rfl, hnx2, hcx2, hmx2, hRx2, hwx2⟩ := open_rd Try.underlying26 Try.underlying5 (by kernel_rfl) hy0_2
  obtain ⟨x3, ex3, rfl, wx3⟩ := DataW.trod_int Try.underlying3 hy0_3
  simp only [List.cons.injEq, and_true] at ex3
  subst ex3
  refine (filterBack_any W x0 (wf_i wx0) Ax1 nx1 cx1 x1 hnx1 hcx1 hmx1 hRx1 (wf_bs hwx1) Ax2 nx2 cx2 x2 hnx2 hcx2 hmx2 hRx2 (wf_bs hwx2) x3 (wf_i wx3)).mono fun e W' ⟨he, hb⟩ => ?_
  subst he
  exact ⟨_, rfl, post_true laid hW' rfl rfl Try.underlying4 (by kernel_rfl) rfl hb⟩

set_option maxRecDepth 100000 in
theorem lifted (os : Os) (started : os.Started) (H : Type) (enc : TypeId × Value → H) :
    ReturnsInHanded {} Try.checked os 5 .any (Rows.filterBackSpec.pre6 enc Try.prog Try.f5 Rows.filterBackRow.domain false) (Rows.filterBackSpec.post enc Try.prog Try.f5 false true false false) := by
  refine returnsInHanded_of_change (C := Try.checked) own started (by kernel_rfl) Try.func5
    (ChangeSpec.witness6 (enc := enc) (C := Try.checked) (os := os) false ⟨#[], #[.agg #[.int .i64 0, .slice none 0 0, .slice none 0 0, .int .i64 0]], []⟩ 8 (by kernel_rfl) (by kernel_rfl) (by kernel_rfl) (by kernel_rfl)) ?_
  intro W base args ds gs before hval hW _ _
  exact contract H enc W base args ds gs before hval hW

theorem proved : Rows.FilterBackSaid :=
  OpenClaim.holds_of_wide 5 Try.f5 rfl rfl rfl rfl rfl rfl rfl ⟨rfl, rfl, rfl, rfl, rfl⟩ rfl rfl rfl rfl rfl (by kernel_rfl) Try.func5 (by kernel_rfl)
    (of_decide_eq_true (by kernel_rfl)) (by unfold Func.isWrapper; first | (rw [if_pos (by decide +kernel)]; kernel_rfl) | (rw [if_neg (by decide +kernel)]; exact ⟨rfl, rfl⟩))
    (fun os started H enc _ => lifted os started H enc)
end FilterBack
#print axioms FilterBack.proved
end Go.Proofs.Ytimfpkoofgglkaa
