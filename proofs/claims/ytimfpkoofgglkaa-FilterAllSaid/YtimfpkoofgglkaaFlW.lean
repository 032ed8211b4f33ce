/-
  FilterWeights: what weight any row has, and which kind is the lightest one. No condition.
-/
import Derived.Test.YtimfpkoofgglkaaFlC
namespace Go.Proofs.Ytimfpkoofgglkaa
open Go.ChangeShapes Go.WideShapes Go.ChangeAt Go.WideMaps Go.WideElems Go.RowKit Go.Joins
set_option linter.unusedVariables false

/-! plain -/
def wt (x : Int) : Int := if 127 < x then 256 - x else x
def weight (l : List Int) : Int := (l.map wt).sum
theorem wt_bd {x : Int} (h : 0 ≤ x ∧ x ≤ 255) : 0 ≤ wt x ∧ wt x ≤ 128 := by unfold wt; split <;> omega
theorem weight_snoc (l : List Int) (x : Int) : weight (l ++ [x]) = weight l + wt x := by simp [weight]
theorem weight_bd : ∀ {l : List Int}, Bs l → 0 ≤ weight l ∧ weight l ≤ 128 * l.length
  | [], _ => by simp [weight]
  | x :: l, h => by
    have h1 := wt_bd (h x (by simp))
    have h2 := weight_bd (l := l) (fun y hy => h y (by simp [hy]))
    simp only [weight, List.map_cons, List.sum_cons, List.length_cons] at h2 ⊢
    omega
theorem take_bs {l : List Int} (h : Bs l) (k : Nat) : Bs (l.take k) := fun x hx => h x (List.mem_of_mem_take hx)
theorem take_snoc_w (l : List Int) (j : Nat) (h : j < l.length) : l.take (j + 1) = l.take j ++ [l.getD j 0] := by
  rw [List.take_succ_eq_append_getElem h, List.getD_eq_getElem?_getD, List.getElem?_eq_getElem h]; rfl

theorem i8_wrap {y : Int} (h : 0 ≤ y ∧ y ≤ 255) : IntKind.i8.wrap y = if 127 < y then y - 256 else y := by
  simp [IntKind.wrap, IntKind.bits, IntKind.signed]
  split <;> split <;> omega

theorem weight_any (A : Option Addr) (n c : Nat) (l : List Int) (w : World) (B : Nat) (hR : Rd w B A (bv l)) (hB : Bs l) (hn : n = l.length) (hm : n ≤ 100000) :
    Calls Try.prog 22 #[.slice A n c] w fun e w' => e = .returned (.int .i64 (weight l)) ∧ w = w' := by
  have HN := Lib.hid hn
  clear hn
  go_enter Try.func22, Try.ntmps22
  go_wp2_with fail
  go_loop [3, 8] (fun s i => ∃ k : Nat, k ≤ n ∧ i = .int .i64 k ∧ s = .int .i64 (weight (l.take k))) (fun _ i => n - (intOf i).toNat)
  case atStart => exact ⟨0, Nat.zero_le _, rfl, rfl⟩
  case round =>
    obtain ⟨k, hk, rfl, rfl⟩ := hrel
    have hbd := weight_bd (take_bs hB k)
    have hll : ((l.take k).length : Int) ≤ 100000 := by simp; omega
    by_cases hlt : k < n
    · have hl := HN.out
      obtain ⟨b, off, rfl, hb, hc⟩ := hR.at_ (k := k) (by rw [bv_len]; omega)
      obtain ⟨y, hy⟩ : ∃ y, y = l.getD k 0 := ⟨_, rfl⟩
      have hcell : w.cell? ⟨b, off + k, none⟩ = some (.int .u8 y) := hc k _ (by rw [hy]; simp [bv, ← hl, hlt])
      have hyb := getD_bd hB k
      rw [← hy] at hyb
      have hw : weight (l.take (k + 1)) = weight (l.take k) + wt y := by rw [take_snoc_w l k (by omega), weight_snoc, hy]
      have HW := Lib.hid hw
      clear hy hc hl hw
      generalize weight (l.take k) = s at *
      go_wp2_with fail
      obtain ⟨z, hz1, hz2⟩ : ∃ z : Int, IntKind.i8.wrap y = z ∧ z = if 127 < y then y - 256 else y := ⟨_, rfl, i8_wrap hyb⟩
      have hzb : -128 ≤ z ∧ z ≤ 127 := by rw [hz2]; split <;> omega
      have hzd : dist z 0 = wt y := by rw [hz2]; unfold dist wt; split <;> omega
      have hzw : wrap64 z = z := IntWalk.wrap64_in z ⟨by omega, by omega⟩
      rw [hz1, hzw]
      clear hz1 hz2 hzw
      refine (apart_any z 0 (by omega) (by omega) _).mono ?_; rintro e w' ⟨rfl, rfl⟩
      rw [hzd]
      have hwb := wt_bd hyb
      clear hzd
      go_wp2
      go_round
      case rel => exact ⟨k + 1, by omega, by go_num, by rw [HW.out]⟩
      case measure => simp [intOf]; omega
    · go_wp2
      go_ret
      have : l.take k = l := List.take_of_length_le (by rw [← HN.out]; omega)
      exact ⟨ret_int (by rw [this]), rfl⟩

theorem rweight_any (A : Option Addr) (n c : Nat) (l : List Int) (w : World) (B : Nat) (hR : Rd w B A (bv l)) (hB : Bs l) (hn : n = l.length) (hm : n ≤ 100000) :
    Calls Try.prog 24 #[.slice A n c] w fun e w' => e = .returned (.int .i64 (weight l)) ∧ w = w' := by
  have HN := Lib.hid hn
  clear hn
  go_enter Try.func24, Try.ntmps24
  go_wp2_with fail
  go_loop [3, 4] (fun s i => ∃ k : Nat, k ≤ n ∧ i = .int .i64 k ∧ s = .int .i64 (weight (l.take k))) (fun _ i => n - (intOf i).toNat)
  case atStart => exact ⟨0, Nat.zero_le _, rfl, rfl⟩
  case round =>
    obtain ⟨k, hk, rfl, rfl⟩ := hrel
    have hbd := weight_bd (take_bs hB k)
    have hll : ((l.take k).length : Int) ≤ 100000 := by simp; omega
    by_cases hlt : k < n
    · have hl := HN.out
      obtain ⟨b, off, rfl, hb, hc⟩ := hR.at_ (k := k) (by rw [bv_len]; omega)
      obtain ⟨y, hy⟩ : ∃ y, y = l.getD k 0 := ⟨_, rfl⟩
      have hcell : w.cell? ⟨b, off + k, none⟩ = some (.int .u8 y) := hc k _ (by rw [hy]; simp [bv, ← hl, hlt])
      have hyb := getD_bd hB k
      rw [← hy] at hyb
      have hw : weight (l.take (k + 1)) = weight (l.take k) + wt y := by rw [take_snoc_w l k (by omega), weight_snoc, hy]
      have HW := Lib.hid hw
      clear hy hc hl hw
      generalize weight (l.take k) = s at *
      by_cases hy2 : 127 < y
      · have hwy : wt y = 256 - y := by unfold wt; omega
        have HV := Lib.hid hwy
        clear hwy
        go_wp2
        go_round
        case rel => exact ⟨k + 1, by omega, by go_num, by rw [HW.out, HV.out]⟩
        case measure => simp [intOf]; omega
      · have hwy : wt y = y := by unfold wt; omega
        have HV := Lib.hid hwy
        clear hwy
        go_wp2
        go_round
        case rel => exact ⟨k + 1, by omega, by go_num, by rw [HW.out, HV.out]⟩
        case measure => simp [intOf]; omega
    · go_wp2
      go_ret
      have : l.take k = l := List.take_of_length_le (by rw [← HN.out]; omega)
      exact ⟨ret_int (by rw [this]), rfl⟩

/-- the lightest kind up to k -/
def lightT (p : Int) (row ahead : List Int) : Nat → Int
  | 0 => 0
  | k + 1 => if weight (fil (k + 1 : Nat) p row ahead) < weight (fil (lightT p row ahead k) p row ahead) then (k + 1 : Nat) else lightT p row ahead k
theorem lightT_bd (p : Int) (row ahead : List Int) (k : Nat) : 0 ≤ lightT p row ahead k ∧ lightT p row ahead k ≤ k := by
  induction k with
  | zero => simp [lightT]
  | succ k ih => unfold lightT; split <;> omega
theorem fil_bs (k p : Int) (row ahead : List Int) : Bs (fil k p row ahead) := filT_bs _ _ _ _ _
theorem fil_len (k p : Int) (row ahead : List Int) : (fil k p row ahead).length = row.length := filT_len _ _ _ _ _

set_option maxHeartbeats 1000000 in
theorem lightest_any (p : Int) (A A2 : Option Addr) (n n2 c c2 : Nat) (row ahead : List Int) (w : World) (hp : 1 ≤ p ∧ p ≤ 8)
    (hn : row.length = n) (hn2 : ahead.length = n2) (hR : Rd w w.heap.size A (bv row)) (hR2 : Rd w w.heap.size A2 (bv ahead)) (hB : Bs row) (hB2 : Bs ahead) (hn0 : n2 = 0 ∨ n2 = n) (hm : n ≤ 100000) :
    Calls Try.prog 23 #[.slice A n c, .slice A2 n2 c2, .int .i64 p] w fun e w' => e = .returned (.tuple #[.int .i64 (lightT p row ahead 4), .nilIface]) ∧ Below w.heap.size w w' := by
  have HN := Lib.hid hn
  have HN2 := Lib.hid hn2
  clear hn hn2
  go_enter Try.func23, Try.ntmps23
  go_wp2_with fail
  go_loopw [8, 9, 10] (fun b l i wr => ∃ k : Nat, k ≤ 5 ∧ i = .int .i64 k ∧ Below w.heap.size w wr ∧ ((k = 0 ∧ b = .int .i64 0 ∧ l = .int .i64 (-1)) ∨ (1 ≤ k ∧ b = .int .i64 (lightT p row ahead (k - 1)) ∧ l = .int .i64 (weight (fil (lightT p row ahead (k - 1)) p row ahead)))))
    (fun _ _ i _ => 5 - (intOf i).toNat)
  case atStart => exact ⟨0, by omega, rfl, Below.refl _ _, .inl ⟨rfl, rfl, rfl⟩⟩
  case round =>
    obtain ⟨k, hk, rfl, hb, h⟩ := hrel
    by_cases h5 : k = 5
    · subst h5
      rcases h with ⟨h0, _⟩ | ⟨_, rfl, rfl⟩
      · omega
      go_wp2
      go_ret2
      exact ⟨rfl, hb⟩
    · rcases h with ⟨rfl, rfl, rfl⟩ | ⟨h1, rfl, rfl⟩
      · go_wp2_with fail
        refine (filter_any 0 p A A2 n n2 c c2 row ahead _ (by omega) hp HN.out HN2.out ((hR.below hb).more hb.size) ((hR2.below hb).more hb.size) hB hB2 hn0 hm).mono ?_; rintro e w1 ⟨v, rfl, hv, hb1⟩
        obtain ⟨Av, cv, rfl, hRv⟩ := own_slice hv
        have hb1' := hb.trans (hb1.mono hb.size)
        go_wp2_with fail
        refine (weight_any Av n cv _ _ _ hRv (fil_bs _ _ _ _) (by rw [fil_len]; exact HN.out.symm) hm).mono ?_; rintro e w' ⟨rfl, rfl⟩
        have hwb := weight_bd (fil_bs 0 p row ahead)
        go_wp2
        go_roundw
        case rel => exact ⟨1, by omega, rfl, hb1', .inr ⟨by omega, rfl, rfl⟩⟩
        case measure => simp [intOf]
      · obtain ⟨j, rfl⟩ : ∃ j, k = j + 1 := ⟨k - 1, by omega⟩
        simp only [Nat.add_sub_cancel] at *
        have hL := lightT_bd p row ahead j
        have hwl := weight_bd (fil_bs (lightT p row ahead j) p row ahead)
        have hst : lightT p row ahead (j + 1) = if weight (fil (j + 1 : Nat) p row ahead) < weight (fil (lightT p row ahead j) p row ahead) then ((j + 1 : Nat) : Int) else lightT p row ahead j := rfl
        generalize lightT p row ahead j = L at *
        have hwf := weight_bd (fil_bs (j + 1 : Nat) p row ahead)
        have HS := Lib.hid hst
        clear hst
        go_wp2_with fail
        rw [show ((j : Int) + 1) = ((j + 1 : Nat) : Int) by omega]
        refine (filter_any (j + 1 : Nat) p A A2 n n2 c c2 row ahead _ (by omega) hp HN.out HN2.out ((hR.below hb).more hb.size) ((hR2.below hb).more hb.size) hB hB2 hn0 hm).mono ?_; rintro e w1 ⟨v, rfl, hv, hb1⟩
        obtain ⟨Av, cv, rfl, hRv⟩ := own_slice hv
        have hb1' := hb.trans (hb1.mono hb.size)
        go_wp2_with fail
        refine (weight_any Av n cv _ _ _ hRv (fil_bs _ _ _ _) (by rw [fil_len]; exact HN.out.symm) hm).mono ?_; rintro e w' ⟨rfl, rfl⟩
        generalize hwfe : weight (fil (j + 1 : Nat) p row ahead) = wf at *
        have HWF := Lib.hid hwfe
        generalize hwle : weight (fil L p row ahead) = wl at *
        have HWL := Lib.hid hwle
        have hneg : decide (wl < 0) = false := by simp; omega
        clear hwfe hwle
        by_cases hlt : wf < wl
        · go_wp2
          go_roundw
          case rel => exact ⟨j + 2, by omega, by go_num, hb1', .inr ⟨by omega, by rw [show j + 2 - 1 = j + 1 by omega, HS.out, if_pos hlt]; go_num, by rw [show j + 2 - 1 = j + 1 by omega, HS.out, if_pos hlt, HWF.out]⟩⟩
          case measure => simp [intOf]; omega
        · go_wp2
          go_roundw
          case rel => exact ⟨j + 2, by omega, by go_num, hb1', .inr ⟨by omega, by rw [show j + 2 - 1 = j + 1 by omega, HS.out, if_neg (by omega)], by rw [show j + 2 - 1 = j + 1 by omega, HS.out, if_neg (by omega), HWL.out]⟩⟩
          case measure => simp [intOf]; omega

set_option maxHeartbeats 1000000 in
theorem rlightest_any (p : Int) (A A2 : Option Addr) (n n2 c c2 : Nat) (row ahead : List Int) (w : World) (hp : 1 ≤ p ∧ p ≤ 8)
    (hn : row.length = n) (hn2 : ahead.length = n2) (hR : Rd w w.heap.size A (bv row)) (hR2 : Rd w w.heap.size A2 (bv ahead)) (hB : Bs row) (hB2 : Bs ahead) (hn0 : n2 = 0 ∨ n2 = n) (hm : n ≤ 100000) :
    Calls Try.prog 25 #[.slice A n c, .slice A2 n2 c2, .int .i64 p] w fun e w' => e = .returned (.int .i64 (lightT p row ahead 4)) ∧ Below w.heap.size w w' := by
  have HN := Lib.hid hn
  have HN2 := Lib.hid hn2
  clear hn hn2
  go_enter Try.func25, Try.ntmps25
  go_wp2_with fail
  go_loopw [7, 8] (fun b i wr => ∃ k : Nat, k ≤ 4 ∧ i = .int .i64 (k + 1 : Nat) ∧ Below w.heap.size w wr ∧ b = .int .i64 (lightT p row ahead k)) (fun _ i _ => 5 - (intOf i).toNat)
  case atStart => exact ⟨0, by omega, rfl, Below.refl _ _, rfl⟩
  case round =>
    obtain ⟨j, hk, rfl, hb, rfl⟩ := hrel
    have hL := lightT_bd p row ahead j
    have hst : lightT p row ahead (j + 1) = if weight (fil (j + 1 : Nat) p row ahead) < weight (fil (lightT p row ahead j) p row ahead) then ((j + 1 : Nat) : Int) else lightT p row ahead j := rfl
    by_cases h4 : j = 4
    · subst h4
      go_wp2
      go_ret
      exact ⟨rfl, hb⟩
    · have HS := Lib.hid hst
      clear hst
      have hwl := weight_bd (fil_bs (lightT p row ahead j) p row ahead)
      have hwf := weight_bd (fil_bs (j + 1 : Nat) p row ahead)
      generalize hLe : lightT p row ahead j = L at *
      have HL := Lib.hid hLe
      clear hLe
      go_wp2_with fail
      rw [show ((j : Int) + 1) = ((j + 1 : Nat) : Int) by omega]
      refine (rfilter_any (j + 1 : Nat) p A A2 n n2 c c2 row ahead _ hp HN.out HN2.out ((hR.below hb).more hb.size) ((hR2.below hb).more hb.size) hB hB2 hn0 hm).mono ?_; rintro e w1 ⟨v, rfl, hv, hb1⟩
      obtain ⟨Av, cv, rfl, hRv⟩ := own_slice hv
      have hb1' := hb.trans (hb1.mono hb.size)
      go_wp2_with fail
      refine (rweight_any Av n cv _ _ _ hRv (fil_bs _ _ _ _) (by rw [fil_len]; exact HN.out.symm) hm).mono ?_; rintro e w' ⟨rfl, rfl⟩
      generalize hwfe : weight (fil (j + 1 : Nat) p row ahead) = wf at *
      go_wp2_with fail
      refine (rfilter_any L p A A2 n n2 c c2 row ahead _ hp HN.out HN2.out ((hR.below hb1').more hb1'.size) ((hR2.below hb1').more hb1'.size) hB hB2 hn0 hm).mono ?_; rintro e w2 ⟨v2, rfl, hv2, hb2⟩
      obtain ⟨Av2, cv2, rfl, hRv2⟩ := own_slice hv2
      have hb2' := hb1'.trans (hb2.mono hb1'.size)
      go_wp2_with fail
      refine (rweight_any Av2 n cv2 _ _ _ hRv2 (fil_bs _ _ _ _) (by rw [fil_len]; exact HN.out.symm) hm).mono ?_; rintro e w' ⟨rfl, rfl⟩
      generalize hwle : weight (fil L p row ahead) = wl at *
      clear hwfe hwle
      by_cases hlt : wf < wl
      · go_wp2
        go_roundw
        case rel => exact ⟨j + 1, by omega, by go_num, hb2', by rw [HS.out, if_pos hlt]; go_num⟩
        case measure => simp [intOf]; omega
      · go_wp2
        go_roundw
        case rel => exact ⟨j + 1, by omega, by go_num, hb2', by rw [HS.out, if_neg (by omega)]⟩
        case measure => simp [intOf]; omega

theorem lightest_bad (p : Int) (A A2 : Option Addr) (n n2 c c2 : Nat) (h : ¬ Good 0 p n n2) (hm : n ≤ 100000) (hm2 : n2 ≤ 100000) (w : World) :
    Calls Try.prog 23 #[.slice A n c, .slice A2 n2 c2, .int .i64 p] w fun e w' => e = .returned (.tuple #[.int .i64 0, errV 6]) ∧ w = w' := by
  go_enter Try.func23, Try.ntmps23
  go_wp2_with fail
  refine wp_loop_rounds 1 ?_
  rw [rounds_succ]
  go_wp2_with fail
  refine (filter_bad 0 p A A2 n n2 c c2 h hm hm2 _).mono ?_; rintro e w' ⟨rfl, rfl⟩
  unfold errV
  go_wp2
  go_ret2
  exact ⟨rfl, rfl⟩

theorem good_is (k p : Int) (A A2 : Option Addr) (n n2 c c2 : Nat) (b : Bool) (h : decide (Good k p n n2) = b) (hm : n ≤ 100000) (hm2 : n2 ≤ 100000) (w : World) :
    Calls Try.prog 16 #[.int .i64 k, .slice A n c, .slice A2 n2 c2, .int .i64 p] w fun e w' => e = .returned (.bool b) ∧ w = w' := by
  by_cases hg : Good k p n n2
  · obtain rfl : b = true := by rw [← h]; simp [hg]
    clear h
    obtain ⟨⟨h1, h2⟩, ⟨h3, h4⟩, h5⟩ := hg
    by_cases h0 : n2 = 0
    · have hb : ((n2 : Int) == 0) = true := by rw [beq_iff_eq]; omega
      subst h0
      go_enter Try.func16, Try.ntmps16
      go_wp2
      go_ret
      exact ⟨rfl, rfl⟩
    · have hb : ((n2 : Int) == 0) = false := by rw [beq_eq_false_iff_ne]; omega
      have hb2 : ((n2 : Int) == (n : Int)) = true := by rw [beq_iff_eq]; omega
      clear h5
      go_enter Try.func16, Try.ntmps16
      go_wp2
      go_ret
      exact ⟨rfl, rfl⟩
  · obtain rfl : b = false := by rw [← h]; simp [hg]
    clear h
    unfold Good at hg
    by_cases h1 : k < 0
    · go_enter Try.func16, Try.ntmps16
      go_wp2
      go_ret
      exact ⟨rfl, rfl⟩
    by_cases h2 : 4 < k
    · go_enter Try.func16, Try.ntmps16
      go_wp2
      go_ret
      exact ⟨rfl, rfl⟩
    by_cases h3 : p < 1
    · go_enter Try.func16, Try.ntmps16
      go_wp2
      go_ret
      exact ⟨rfl, rfl⟩
    by_cases h4 : 8 < p
    · go_enter Try.func16, Try.ntmps16
      go_wp2
      go_ret
      exact ⟨rfl, rfl⟩
    have hb : ((n2 : Int) == 0) = false := by rw [beq_eq_false_iff_ne]; omega
    have hb2 : ((n2 : Int) == (n : Int)) = false := by rw [beq_eq_false_iff_ne]; omega
    clear hg
    go_enter Try.func16, Try.ntmps16
    go_wp2
    go_ret
    exact ⟨rfl, rfl⟩

set_option maxHeartbeats 1000000 in
theorem filterWeights_any (w : World) (k : Int) (hk : -9223372036854775808 ≤ k ∧ k ≤ 9223372036854775807) (A : Option Addr) (n c : Nat) (r : List Int) (hn : r.length = n) (hc : n ≤ c) (hm : c ≤ 9223372036854775807) (hR : Rd w w.heap.size A (bv r)) (hB : Bs r)
    (A2 : Option Addr) (n2 c2 : Nat) (a : List Int) (hn2 : a.length = n2) (hc2 : n2 ≤ c2) (hm2 : c2 ≤ 9223372036854775807) (hR2 : Rd w w.heap.size A2 (bv a)) (hB2 : Bs a) (p : Int) (hp : -9223372036854775808 ≤ p ∧ p ≤ 9223372036854775807) :
    Calls Try.prog 6 #[.agg #[.int .i64 k, .slice A n c, .slice A2 n2 c2, .int .i64 p]] w fun e w' => e = .returned (.bool true) ∧ Below w.heap.size w w' := by
  have X := Box4.new w 28 (.int .i64 k) (.slice A n c) (.slice A2 n2 c2) (.int .i64 p)
  have hb0 : Below w.heap.size w (w.alloc (.cells #[.int .i64 k, .slice A n c, .slice A2 n2 c2, .int .i64 p] 28)) := (Below.refl _ _).alloc (Nat.le_refl _) _
  have hs0 : (w.alloc (.cells #[.int .i64 k, .slice A n c, .slice A2 n2 c2, .int .i64 p] 28)).heap.size = w.heap.size + 1 := by simp
  have HS0 := Lib.hid hs0
  clear hs0
  have HN := Lib.hid hn
  have HN2 := Lib.hid hn2
  clear hn hn2
  go_enter Try.func6, Try.ntmps6
  go_wp2_with fail
  generalize w.alloc (.cells #[.int .i64 k, .slice A n c, .slice A2 n2 c2, .int .i64 p] 28) = w0 at *
  rw [← HS0.out]
  refine (weight_any _ 3 _ [1, 255, 128] _ _ (Rd.new3 _ _ _ _ _) (by intro x hx; simp at hx; omega) rfl (by omega)).mono ?_; rintro e w1 ⟨rfl, rfl⟩
  rw [show weight [1, 255, 128] = 130 from by decide]
  have hb1 : Below w0.heap.size w0 (w0.alloc (.cells #[.int .u8 1, .int .u8 255, .int .u8 128] 5)) := (Below.refl _ _).alloc (Nat.le_refl _) _
  have X1 := X.below hb1 X.lt
  have hb1' := hb0.trans (hb1.mono hb0.size)
  generalize w0.alloc (.cells #[.int .u8 1, .int .u8 255, .int .u8 128] 5) = w1 at *
  obtain ⟨_, x0, x1, x2, x3⟩ := id X1
  go_wp2_with fail
  by_cases hl : 5000 < n ∨ 5000 < n2
  · refine (large_is k p A A2 n n2 c c2 true (by simp [hl]) (by omega) (by omega) _).mono ?_; rintro e w2 ⟨rfl, hb2⟩
    go_wp2
    go_ret
    exact ⟨rfl, hb1'.trans (hb2.mono hb1'.size)⟩
  refine (large_is k p A A2 n n2 c c2 false (by simp [hl]) (by omega) (by omega) _).mono ?_; rintro e w2 ⟨rfl, hb2⟩
  have X2 := X1.below hb2 X1.lt
  have hb2' := hb1'.trans (hb2.mono hb1'.size)
  have hnn : n ≤ 5000 ∧ n2 ≤ 5000 := by omega
  clear hl x0 x1 x2 x3 hb2 hb1 X1 hb1'
  obtain ⟨_, x0, x1, x2, x3⟩ := id X2
  have hwb := weight_bd hB
  by_cases hg : Good 0 p n n2
  · go_wp2_with fail
    refine (lightest_any p A A2 n n2 c c2 r a _ hg.2.1 HN.out HN2.out ((hR.below hb2').more hb2'.size) ((hR2.below hb2').more hb2'.size) hB hB2 hg.2.2 (by omega)).mono ?_; rintro e w3 ⟨rfl, hb3⟩
    have X3 := X2.below hb3 X2.lt
    have hb3' := hb2'.trans (hb3.mono hb2'.size)
    clear x0 x1 x2 x3
    obtain ⟨_, x0, x1, x2, x3⟩ := id X3
    go_wp2_with fail
    go_quiet ((first | (go_at_call 22; exact quiet_l (weight_any A n c r _ _ ((hR.below hb3').drewN _) hB HN.out.symm (by omega))) | (go_at_call 24; exact quiet_l (rweight_any A n c r _ _ ((hR.below hb3').drewN _) hB HN.out.symm (by omega)))))
    go_wp2_with fail
    refine (good_is 0 p A A2 n n2 c c2 true (by simp [hg]) (by omega) (by omega) _).mono ?_; rintro e w' ⟨rfl, rfl⟩
    go_wp2_with fail
    refine (rlightest_any p A A2 n n2 c c2 r a _ hg.2.1 HN.out HN2.out (((hR.below hb3').more hb3'.size).drewN _) (((hR2.below hb3').more hb3'.size).drewN _) hB hB2 hg.2.2 (by omega)).mono ?_; rintro e w4 ⟨rfl, hb4⟩
    go_wp2
    go_ret
    exact ⟨rfl, hb3'.trans ((below_drewN (Below.refl _ _) _).trans (hb4.mono hb3'.size))⟩
  · go_wp2_with fail
    refine (lightest_bad p A A2 n n2 c c2 hg (by omega) (by omega) _).mono ?_; rintro e w3 ⟨rfl, rfl⟩
    unfold errV
    go_wp2_with fail
    go_quiet ((first | (go_at_call 22; exact quiet_l (weight_any A n c r _ _ ((hR.below hb2').drewN _) hB HN.out.symm (by omega))) | (go_at_call 24; exact quiet_l (rweight_any A n c r _ _ ((hR.below hb2').drewN _) hB HN.out.symm (by omega)))))
    go_wp2_with fail
    refine (good_is 0 p A A2 n n2 c c2 false (by simp [hg]) (by omega) (by omega) _).mono ?_; rintro e w' ⟨rfl, rfl⟩
    go_wp2_with fail
    refine (is_err 6 6 (by omega) _).mono ?_; rintro e w' ⟨rfl, rfl⟩
    go_wp2
    go_ret
    exact ⟨rfl, below_drewN hb2' _⟩
namespace FilterWeights
theorem own : ownKnob Try.prog.godebug = none := by kernel_rfl
theorem laid : laidOutB Try.prog = true := by kernel_rfl

theorem contract (H : Type) (enc : TypeId × Value → H) (W : World) (base : Nat) (args : Array Value) (ds gs : List (DataW H)) (before : List MemPlace)
    (hval : ∀ (j : Nat) t v, Try.f6.params[j]? = some t → args[j]? = some v → Value.okWide Try.prog W .any base t v)
    (hW : DataW.Whole enc Try.prog Try.f6.params.toList Rows.filterWeightsSpec.vars false W args.toList ds gs before) :
    Calls Try.prog 6 args W fun e W' => ∃ v, e = .returned v ∧ Rows.filterWeightsSpec.post enc Try.prog Try.f6 false true false false W args v W' := by
  have hW' := hW
  obtain ⟨p, q, hA0, hV, rfl, hfz, hnd⟩ := hW
  have hA : DataW.TrodAll enc Try.prog W 0 (fun _ => true) true Try.f6.params.toList args.toList ds p := hA0
  rw [Try.params6] at hA hval
  clear hA0
  obtain ⟨v0, vs0, d0, ds0, p0, q0, hargs, rfl, rfl, h0, r0⟩ := trodAll_cons hA
  obtain ⟨rfl, rfl, rfl⟩ := trodAll_nil r0
  obtain rfl : args = #[v0] := by cases args; simp_all
  obtain ⟨rfl, rfl⟩ := trodVars_none hV
  obtain ⟨c0_0, c0_1, c0_2, c0_3, y0_0, y0_1, y0_2, y0_3, m0, rfl, rfl, rfl, hy0_0, hy0_1, hy0_2, hy0_3⟩ := open_agg4 Try.underlying28 (by kernel_rfl) (by kernel_rfl) (hval 0 _ _ rfl rfl) h0
  obtain ⟨x0, ex0, rfl, wx0⟩ := DataW.trod_int Try.underlying3 hy0_0
  simp only [List.cons.injEq, and_true] at ex0
  subst ex0
  obtain ⟨Ax1, nx1, cx1, x1, rfl, hnx1, hcx1, hmx1, hRx1, hwx1⟩ := open_rd Try.underlying26 Try.underlying5 (by kernel_rfl) hy0_1
  obtain ⟨Ax2, nx2, cx2, x2, rfl, hnx2, hcx2, hmx2, hRx2, hwx2⟩ := open_rd Try.underlying26 Try.underlying5 (by kernel_rfl) hy0_2
  obtain ⟨x3, ex3, rfl, wx3⟩ := DataW.trod_int Try.underlying3 hy0_3
  simp only [List.cons.injEq, and_true] at ex3
  subst ex3
  refine (filterWeights_any W x0 (wf_i wx0) Ax1 nx1 cx1 x1 hnx1 hcx1 hmx1 hRx1 (wf_bs hwx1) Ax2 nx2 cx2 x2 hnx2 hcx2 hmx2 hRx2 (wf_bs hwx2) x3 (wf_i wx3)).mono fun e W' ⟨he, hb⟩ => ?_
  subst he
  exact ⟨_, rfl, post_true laid hW' rfl rfl Try.underlying4 (by kernel_rfl) rfl hb⟩

set_option maxRecDepth 100000 in
theorem lifted (os : Os) (started : os.Started) (H : Type) (enc : TypeId × Value → H) :
    ReturnsInHanded {} Try.checked os 6 .any (Rows.filterWeightsSpec.pre6 enc Try.prog Try.f6 Rows.filterWeightsRow.domain false) (Rows.filterWeightsSpec.post enc Try.prog Try.f6 false true false false) := by
  refine returnsInHanded_of_change (C := Try.checked) own started (by kernel_rfl) Try.func6
    (ChangeSpec.witness6 (enc := enc) (C := Try.checked) (os := os) false ⟨#[], #[.agg #[.int .i64 0, .slice none 0 0, .slice none 0 0, .int .i64 0]], []⟩ 8 (by kernel_rfl) (by kernel_rfl) (by kernel_rfl) (by kernel_rfl)) ?_
  intro W base args ds gs before hval hW _ _
  exact contract H enc W base args ds gs before hval hW

theorem proved : Rows.FilterWeightsSaid :=
  OpenClaim.holds_of_wide 6 Try.f6 rfl rfl rfl rfl rfl rfl rfl ⟨rfl, rfl, rfl, rfl, rfl⟩ rfl rfl rfl rfl rfl (by kernel_rfl) Try.func6 (by kernel_rfl)
    (of_decide_eq_true (by kernel_rfl)) (by unfold Func.isWrapper; first | (rw [if_pos (by decide +kernel)]; kernel_rfl) | (rw [if_neg (by decide +kernel)]; exact ⟨rfl, rfl⟩))
    (fun os started H enc _ => lifted os started H enc)
end FilterWeights
#print axioms FilterWeights.proved
end Go.Proofs.Ytimfpkoofgglkaa
