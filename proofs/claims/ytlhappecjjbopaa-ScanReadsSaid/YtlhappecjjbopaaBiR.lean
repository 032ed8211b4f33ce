/-
  The document's answer for bits: Fits, Digits, Number, Bits, Bytes, by contracts. Conditions: numbers of at most 62 bits, lists of at most 2^40 bits.
-/
import Derived.Test.YtlhappecjjbopaaBiC
import Derived.Laws.OwnMore
namespace Go.Proofs.Ytlhappecjjbopaa
open Go.RowKit
set_option linter.unusedVariables false
set_option maxRecDepth 100000

theorem digs_succ (h : Bool) (n : Int) (k : Nat) : digs h n (k + 1) = if h then n / 2 ^ k % 2 :: digs h n k else digs h n k ++ [n / 2 ^ k % 2] := by
  apply List.ext_getElem?
  intro i
  cases h
  · simp only [Bool.false_eq_true, if_false]
    by_cases hi : i < k
    · rw [digs_at false (k + 1) n i (by omega), List.getElem?_append_left (by rw [digs_len]; exact hi), digs_at false k n i hi]; simp [pk]
    · by_cases he : i = k
      · subst he
        rw [digs_at false (i + 1) n i (by omega), List.getElem?_append_right (by rw [digs_len]; omega), digs_len]; simp [pk]
      · rw [List.getElem?_eq_none (by rw [digs_len]; omega), List.getElem?_eq_none (by rw [List.length_append, digs_len]; simp; omega)]
  · simp only [if_true]
    match i with
    | 0 => rw [digs_at true (k + 1) n 0 (by omega)]; simp [pk]
    | i + 1 =>
      rw [List.getElem?_cons_succ]
      by_cases hi : i < k
      · rw [digs_at true (k + 1) n (i + 1) (by omega), digs_at true k n i hi]; simp only [pk, if_true]; rw [show k + 1 - 1 - (i + 1) = k - 1 - i by omega]
      · rw [List.getElem?_eq_none (by rw [digs_len]; omega), List.getElem?_eq_none (by rw [digs_len]; omega)]

theorem fits_any (n c : Int) (b : Bool) (hb : decide (Fit n c) = b) (hn : -9223372036854775808 ≤ n ∧ n ≤ 9223372036854775807) (w : World) :
    Calls Try.prog 74 #[.int .i64 n, .int .i64 c] w fun e w' => e = .returned (.bool b) ∧ w = w' := by
  subst hb
  by_cases h1 : 0 ≤ c ∧ c ≤ 32
  · by_cases h2 : 0 ≤ n
    · obtain ⟨C, rfl⟩ := Int.eq_ofNat_of_zero_le h1.1
      have hfin : ∀ z, z = n / 2 ^ C → (z == 0) = decide (Fit n C) := fun z hz => by
        rw [Bool.eq_iff_iff]
        simp only [beq_iff_eq, decide_eq_true_eq, Fit, Int.toNat_natCast, ← hz]
        exact ⟨fun h => ⟨h1, h2, h⟩, fun h => h.2.2⟩
      have HF := Lib.hid hfin
      clear hfin
      go_enter Try.func74, Try.ntmps74
      go_wp2
      go_loop [0, 5] (fun v i => ∃ k : Nat, k ≤ C ∧ i = .int .i64 k ∧ ∃ z : Int, v = .int .i64 z ∧ (0 ≤ z ∧ z ≤ n) ∧ Hid (z = n / 2 ^ k)) (fun _ i => C - (intOf i).toNat)
      case atStart => exact ⟨0, Nat.zero_le _, rfl, n, rfl, ⟨h2, Int.le_refl _⟩, Lib.hid (by simp)⟩
      case round =>
        obtain ⟨k, hk, rfl, z, rfl, hz, HZ⟩ := hrel
        by_cases hlt : k < C
        · go_wp2
          go_round
          case rel => exact ⟨k + 1, by omega, by go_num, z / 2, rfl, ⟨by omega, by omega⟩, Lib.hid (by rw [HZ.out, two_succ, Int.mul_comm, Int.ediv_ediv_of_nonneg (by have := two_pos k; omega)])⟩
          case measure => simp [intOf]; omega
        · go_wp2
          go_ret
          obtain rfl : k = C := by omega
          exact ⟨ret_bool (HF.out z HZ.out), rfl⟩
    · have hF : decide (Fit n c) = false := decide_eq_false (fun h => h2 h.2.1)
      rw [hF]
      clear hF
      go_enter Try.func74, Try.ntmps74
      go_wp2
      go_ret
      exact ⟨rfl, rfl⟩
  · have hF : decide (Fit n c) = false := decide_eq_false (fun h => h1 h.1)
    rw [hF]
    clear hF
    go_enter Try.func74, Try.ntmps74
    by_cases h2 : c < 0
    · go_wp2
      go_ret
      exact ⟨rfl, rfl⟩
    · go_wp2
      go_ret
      exact ⟨rfl, rfl⟩

set_option maxHeartbeats 1000000 in
theorem digits_any (n : Int) (c : Nat) (h : Bool) (hn : 0 ≤ n ∧ n ≤ 4611686018427387904) (hc : c ≤ 100) (w : World) :
    Calls Try.prog 121 #[.int .i64 n, .int .i64 c, .bool h] w fun e w' => ∃ v, e = .returned v ∧ w'.ownsRow w.heap.size 3 1 v c (iv (digs h n c)) ∧ Below w.heap.size w w' := by
  obtain ⟨i0, hi, hz0, hz1, hz2⟩ := info_parts Try.info_int
  cases h
  · go_enter Try.func121, Try.ntmps121
    go_wp2
    go_loopw [0, 7, 8] (fun m v i wr => ∃ k : Nat, k ≤ c ∧ i = .int .i64 k ∧ ∃ z : Int, m = .int .i64 z ∧ (0 ≤ z ∧ z ≤ n) ∧ Hid (z = n / 2 ^ k) ∧ wr.ownsRow w.heap.size 3 1 v k (iv (digs false n k)) ∧ Below w.heap.size w wr) (fun _ _ i _ => c - (intOf i).toNat)
    case atStart => exact ⟨0, Nat.zero_le _, rfl, n, rfl, ⟨hn.1, Int.le_refl _⟩, Lib.hid (by simp), World.ownsRow_nil _ _ _ _, Below.refl _ _⟩
    case round =>
      obtain ⟨k, hk, rfl, z, rfl, hz, HZ, hown, hb⟩ := hrel
      by_cases hlt : k < c
      · have hsz := hb.size
        have hown' := hown.alloc (.cells #[Value.int .i64 (z % 2)] 3)
        go_wp2_with (at_builtin; refine wpList_app2 _ rfl (.tmp 20) (.tmp 23) 24 rfl Try.underlying24 hi hz0 hz1 hz2 rfl hown' rfl rfl (Rd.new1 _ _ _) rfl (by simp [Value.oneCell']) (by omega) (by omega) (by simp; omega) ?_; intro v1 w1 hown1 hg1; have hb1 : Below w.heap.size w w1 := below_app2 (hb.alloc hsz _) hown' hg1 (Nat.le_refl _) (by simp; omega))
        go_roundw
        case rel => exact ⟨k + 1, by omega, by go_num, z / 2, rfl, ⟨by omega, by omega⟩, Lib.hid (by rw [HZ.out, two_succ, Int.mul_comm, Int.ediv_ediv_of_nonneg (by have := two_pos k; omega)]), by rw [digs_succ, if_neg (by decide), iv_app, ← HZ.out]; exact hown1, hb1⟩
        case measure => simp [intOf]; omega
      · go_wp2
        go_ret
        obtain rfl : k = c := by omega
        exact ⟨_, rfl, hown, hb⟩
  · go_enter Try.func121, Try.ntmps121
    go_wp2
    go_loopw [0, 7, 8] (fun m v i wr => ∃ k : Nat, k ≤ c ∧ i = .int .i64 k ∧ ∃ z : Int, m = .int .i64 z ∧ (0 ≤ z ∧ z ≤ n) ∧ Hid (z = n / 2 ^ k) ∧ wr.ownsRow w.heap.size 3 1 v k (iv (digs true n k)) ∧ Below w.heap.size w wr) (fun _ _ i _ => c - (intOf i).toNat)
    case atStart => exact ⟨0, Nat.zero_le _, rfl, n, rfl, ⟨hn.1, Int.le_refl _⟩, Lib.hid (by simp), World.ownsRow_nil _ _ _ _, Below.refl _ _⟩
    case round =>
      obtain ⟨k, hk, rfl, z, rfl, hz, HZ, hown, hb⟩ := hrel
      by_cases hlt : k < c
      · have hsz := hb.size
        have hlen : (iv (digs true n k)).length = k := by rw [iv_len, digs_len]
        have HL := Lib.hid hlen
        clear hlen
        obtain ⟨A, d, rfl, hR⟩ := own_slice hown
        have hown' : (wr.alloc (.cells #[Value.int .i64 (z % 2)] 3)).ownsRow w.heap.size 3 1 (.slice (some ⟨wr.heap.size, 0, none⟩) 1 1) 1 [Value.int .i64 (z % 2)] := World.ownsRow_lit wr _ 1 hsz (by unfold maxLen; omega) rfl
        have hRa := hR.below ((Below.refl wr.heap.size wr).alloc (Nat.le_refl _) (.cells #[Value.int .i64 (z % 2)] 3))
        clear hR
        go_wp2_with (at_builtin; refine wpList_app2 _ rfl (.tmp 17) (.tmp 18) 24 rfl Try.underlying24 hi hz0 hz1 hz2 rfl hown' rfl rfl hRa HL.out (one_iv _) (by omega) (by omega) (by simp; omega) ?_; intro v1 w1 hown1 hg1; have hb1 : Below w.heap.size w w1 := below_app2 (hb.alloc hsz _) hown' hg1 (Nat.le_refl _) (by simp; omega))
        go_roundw
        case rel => exact ⟨k + 1, by omega, by go_num, z / 2, rfl, ⟨by omega, by omega⟩, Lib.hid (by rw [HZ.out, two_succ, Int.mul_comm, Int.ediv_ediv_of_nonneg (by have := two_pos k; omega)]), by rw [digs_succ, if_pos rfl, ← HZ.out, show k + 1 = 1 + k by omega]; exact hown1, hb1⟩
        case measure => simp [intOf]; omega
      · go_wp2
        go_ret
        obtain rfl : k = c := by omega
        exact ⟨_, rfl, hown, hb⟩
end Go.Proofs.Ytlhappecjjbopaa
