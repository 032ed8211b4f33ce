/-
  Unstuffing: the program's Unstuff and the document's Taken, by contracts. Conditions: at most 300000 bytes.
-/
import Derived.Test.YtkmgojoojboidaaStuA
namespace Go.Proofs.Ytkmgojoojboidaa
open Go.RowKit
set_option linter.unusedVariables false

set_option maxHeartbeats 400000 in
theorem unstuff_any (A : Option Addr) (n c : Nat) (l : List Int) (w : World) (hn : l.length = n) (hR : Rd w w.heap.size A (bv l)) (hB : Bs l) (hm : n ≤ 300000) :
    Calls Try.prog 16 #[.slice A n c] w fun e w' => ∃ v, e = .returned (.tuple #[v, .int .i64 (us l).2]) ∧ w'.ownsRow w.heap.size 5 1 v (us l).1.length (bv (us l).1) ∧ Below w.heap.size w w' := by
  obtain ⟨i0, hi, hz0, hz1, hz2⟩ := info_parts Try.info_u8
  have HN := Lib.hid hn
  clear hn
  go_enter Try.func16, Try.ntmps16
  go_wp2_with fail
  go_loopw [4, 5] (fun v i wr => ∃ (k m : Nat) (o : List Int), k ≤ n ∧ m ≤ k ∧ i = .int .i64 k ∧ o.length = m ∧ us l = (o ++ (us (l.drop k)).1, k + (us (l.drop k)).2) ∧ wr.ownsRow w.heap.size 5 1 v m (bv o) ∧ Below w.heap.size w wr) (fun _ i _ => n - (intOf i).toNat)
  case atStart => exact ⟨0, 0, [], Nat.zero_le _, Nat.le_refl _, rfl, rfl, by simp, World.ownsRow_nil _ _ _ _, Below.refl _ _⟩
  case round =>
    obtain ⟨k, m, o, hk, hmk, rfl, hom, hus, hown, hb⟩ := hrel
    have HOM := Lib.hid hom
    clear hom
    by_cases hlt : k < n
    · obtain ⟨b, off, rfl, hbb, hc⟩ := hR.at_ (k := k) (by rw [bv_len, HN.out]; exact hlt)
      have hcell : wr.cell? ⟨b, off + k, none⟩ = some (.int .u8 (l.getD k 0)) := (hb.cell hbb).trans (hc k _ (bv_at (by rw [HN.out]; exact hlt)))
      have hx := getD_bd hB k
      have hdr := drop_cons (l := l) (k := k) (by rw [HN.out]; exact hlt)
      rw [hdr] at hus
      generalize l.getD k 0 = x at *
      by_cases h5 : x = 255
      · subst h5
        have ht1 : ((255 : Int) != 255) = false := rfl
        by_cases hend : k + 1 = n
        · have hnil : l.drop (k + 1) = [] := List.drop_of_length_le (by rw [HN.out]; omega)
          rw [hnil, us_end, List.append_nil, Nat.add_zero] at hus
          have HU := Lib.hid hus
          have htt : ((k : Int) == (n : Int) - 1) = true := by simp; omega
          clear hus hdr hc hnil
          go_wp2_with fail
          go_ret2
          rw [HU.out]
          exact ⟨_, rfl, by rw [HOM.out]; exact hown, hb⟩
        · have hcell2 : wr.cell? ⟨b, off + (k + 1), none⟩ = some (.int .u8 (l.getD (k + 1) 0)) := (hb.cell hbb).trans (hc (k + 1) _ (bv_at (by rw [HN.out]; omega)))
          have hy := getD_bd hB (k + 1)
          have hdr2 := drop_cons (l := l) (k := k + 1) (by rw [HN.out]; omega)
          rw [hdr2] at hus
          generalize l.getD (k + 1) 0 = y at *
          have htt : ((k : Int) == (n : Int) - 1) = false := by simp; omega
          by_cases hy0 : y = 0
          · subst hy0
            rw [us_esc] at hus
            have HU := Lib.hid hus
            clear hus hdr hdr2 hc
            go_wp2_with (at_builtin; refine wpList_app _ rfl (.tmp 37) (.tmp 38) 22 rfl Try.underlying22 hi hz0 hz1 hz2 rfl (hown.alloc _) rfl rfl (Rd.new1 _ _ _) rfl (by simp [Value.oneCell']) (by omega) (by omega) (by have := hb.size; simp; omega) ?_; intro v1 w1 hown1 hg1 hat1; have hb1 : Below w.heap.size w w1 := below_app (hb.alloc hb.size _) (hown.alloc _) hg1 (Nat.le_refl _) (by have := hb.size; simp; omega))
            go_roundw
            case rel => exact ⟨k + 2, m + 1, o ++ [255], by omega, by omega, by go_num, by rw [List.length_append, HOM.out]; rfl, by rw [HU.out, show k + 1 + 1 = k + 2 from rfl]; simp; omega, by rw [bv_snoc]; exact hown1, hb1⟩
            case measure => simp [intOf]; omega
          · rw [us_stop hy0, List.append_nil, Nat.add_zero] at hus
            have HU := Lib.hid hus
            have hyb : (y != 0) = true := by simpa using hy0
            clear hus hdr hdr2 hc
            go_wp2_with fail
            go_ret2
            rw [HU.out]
            exact ⟨_, rfl, by rw [HOM.out]; exact hown, hb⟩
      · rw [us_ne h5] at hus
        have HU := Lib.hid hus
        have hxb : (x != 255) = true := by simpa using h5
        clear hus hdr hc
        go_wp2_with (at_builtin; refine wpList_app _ rfl (.tmp 15) (.tmp 20) 22 rfl Try.underlying22 hi hz0 hz1 hz2 rfl (hown.alloc _) rfl rfl (Rd.new1 _ _ _) rfl (by simp [Value.oneCell']) (by omega) (by omega) (by have := hb.size; simp; omega) ?_; intro v1 w1 hown1 hg1 hat1; have hb1 : Below w.heap.size w w1 := below_app (hb.alloc hb.size _) (hown.alloc _) hg1 (Nat.le_refl _) (by have := hb.size; simp; omega))
        go_roundw
        case rel => exact ⟨k + 1, m + 1, o ++ [x], by omega, by omega, by go_num, by rw [List.length_append, HOM.out]; rfl, by rw [HU.out]; simp; omega, by rw [bv_snoc]; exact hown1, hb1⟩
        case measure => simp [intOf]; omega
    · have hnil : l.drop k = [] := List.drop_of_length_le (by rw [HN.out]; omega)
      rw [hnil, us, List.append_nil, Nat.add_zero] at hus
      have HU := Lib.hid hus
      clear hus hnil
      go_wp2_with fail
      go_ret2
      rw [HU.out]
      exact ⟨_, rfl, by rw [HOM.out]; exact hown, hb⟩

theorem taken_any (A : Option Addr) (n c : Nat) (l : List Int) (w : World) (hn : l.length = n) (hR : Rd w w.heap.size A (bv l)) (hB : Bs l) (hm : n ≤ 300000) :
    Calls Try.prog 20 #[.slice A n c] w fun e w' => e = .returned (.int .i64 (us l).2) ∧ w = w' := by
  have HN := Lib.hid hn
  clear hn
  go_enter Try.func20, Try.ntmps20
  go_wp2_with fail
  go_loop [3] (fun i => ∃ (k : Nat), k ≤ n ∧ i = .int .i64 k ∧ (us l).2 = k + (us (l.drop k)).2) (fun i => n - (intOf i).toNat)
  case atStart => exact ⟨0, Nat.zero_le _, rfl, by simp⟩
  case round =>
    obtain ⟨k, hk, rfl, hus⟩ := hrel
    by_cases hlt : k < n
    · obtain ⟨b, off, rfl, hbb, hc⟩ := hR.at_ (k := k) (by rw [bv_len, HN.out]; exact hlt)
      have hcell : w.cell? ⟨b, off + k, none⟩ = some (.int .u8 (l.getD k 0)) := hc k _ (bv_at (by rw [HN.out]; exact hlt))
      have hx := getD_bd hB k
      have hdr := drop_cons (l := l) (k := k) (by rw [HN.out]; exact hlt)
      rw [hdr] at hus
      generalize l.getD k 0 = x at *
      by_cases h5 : x = 255
      · subst h5
        by_cases hend : k + 1 = n
        · have hnil : l.drop (k + 1) = [] := List.drop_of_length_le (by rw [HN.out]; omega)
          rw [hnil, us_end, Nat.add_zero] at hus
          have HU := Lib.hid hus
          have htt : decide ((k : Int) + 1 < (n : Int)) = false := by simp; omega
          clear hus hdr hc hnil
          go_wp2
          go_ret
          exact ⟨ret_int (by rw [HU.out]), rfl⟩
        · have hcell2 : w.cell? ⟨b, off + (k + 1), none⟩ = some (.int .u8 (l.getD (k + 1) 0)) := hc (k + 1) _ (bv_at (by rw [HN.out]; omega))
          have hy := getD_bd hB (k + 1)
          have hdr2 := drop_cons (l := l) (k := k + 1) (by rw [HN.out]; omega)
          rw [hdr2] at hus
          generalize l.getD (k + 1) 0 = y at *
          have htt : decide ((k : Int) + 1 < (n : Int)) = true := by simp; omega
          by_cases hy0 : y = 0
          · subst hy0
            rw [us_esc] at hus
            have HU := Lib.hid hus
            clear hus hdr hdr2 hc
            go_wp2
            go_round
            case rel => exact ⟨k + 2, by omega, by go_num, by rw [HU.out, show k + 1 + 1 = k + 2 from rfl]; simp; omega⟩
            case measure => simp [intOf]; omega
          · rw [us_stop hy0, Nat.add_zero] at hus
            have HU := Lib.hid hus
            have hyb : (y == 0) = false := by simpa using hy0
            clear hus hdr hdr2 hc
            go_wp2
            go_ret
            exact ⟨ret_int (by rw [HU.out]), rfl⟩
      · rw [us_ne h5] at hus
        have HU := Lib.hid hus
        have hx5 : x < 255 := by omega
        clear hus hdr hc
        go_wp2
        go_round
        case rel => exact ⟨k + 1, by omega, by go_num, by rw [HU.out]; simp; omega⟩
        case measure => simp [intOf]; omega
    · have hnil : l.drop k = [] := List.drop_of_length_le (by rw [HN.out]; omega)
      rw [hnil, us, Nat.add_zero] at hus
      have HU := Lib.hid hus
      clear hus hnil
      go_wp2
      go_ret
      exact ⟨ret_int (by rw [HU.out]), rfl⟩
end Go.Proofs.Ytkmgojoojboidaa
