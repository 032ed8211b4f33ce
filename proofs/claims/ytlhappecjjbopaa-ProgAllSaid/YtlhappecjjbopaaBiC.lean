/-
  bits.Writer: NewWriter, Put, Align, Bytes, Len, High, by contracts. Conditions: fewer than 2^39 bits.
-/
import Derived.Test.YtlhappecjjbopaaBiB
import Derived.Deep.RegionHeld3
namespace Go.Proofs.Ytlhappecjjbopaa
open Go.RowKit
set_option linter.unusedVariables false
set_option maxRecDepth 100000

theorem counted_any (n : Int) (b : Bool) (hb : decide (0 ≤ n ∧ n ≤ 32) = b) (w : World) : Calls Try.prog 141 #[.int .i64 n] w fun e w' => e = .returned (.bool b) ∧ w = w' := by
  subst hb
  by_cases h0 : 0 ≤ n
  · go_enter Try.func141, Try.ntmps141
    go_wp2
    go_ret
    exact ⟨ret_bool (by simp [h0]), rfl⟩
  · go_enter Try.func141, Try.ntmps141
    go_wp2
    go_ret
    exact ⟨ret_bool (by simp; omega), rfl⟩

theorem newWriter_any (h : Bool) (w : World) : Calls Try.prog 62 #[.bool h] w fun e w' => e = .returned (.pointer (some ⟨w.heap.size, 0, none⟩)) ∧
    Wr w' w.heap.size h (.slice none 0 0) [] ∧ Below w.heap.size w w' := by
  go_enter Try.func62, Try.ntmps62
  go_wp2
  go_ret
  refine ⟨rfl, ⟨Bl3.new _ _ _ _ _, World.ownsRow_nil _ _ _ _, by simp [Value.ownBlock], B01.nil_⟩, (Below.refl _ _).alloc (Nat.le_refl _) _⟩

/-- is n a number of so many bits? -/
def Fit (n c : Int) : Prop := (0 ≤ c ∧ c ≤ 32) ∧ 0 ≤ n ∧ n / 2 ^ c.toNat = 0
instance (n c : Int) : Decidable (Fit n c) := by unfold Fit; infer_instance

theorem put_nil (n c : Int) (w : World) : Calls Try.prog 113 #[.pointer none, .int .i64 n, .int .i64 c] w fun e w' => e = .returned (errV 7) ∧ w = w' := by
  go_enter Try.func113, Try.ntmps113
  go_wp2
  go_ret
  exact ⟨rfl, rfl⟩
set_option maxHeartbeats 400000 in
theorem put_bad (p : Nat) (n c : Int) (hb : ¬ Fit n c) (hn : -9223372036854775808 ≤ n ∧ n ≤ 9223372036854775807) (w : World) : Calls Try.prog 113 #[.pointer (some ⟨p, 0, none⟩), .int .i64 n, .int .i64 c] w fun e w' => e = .returned (errV 7) ∧ w = w' := by
  by_cases h1 : 0 ≤ c ∧ c ≤ 32
  · by_cases h2 : 0 ≤ n
    · have h3 : n / 2 ^ c.toNat ≠ 0 := fun h => hb ⟨h1, h2, h⟩
      obtain ⟨C, rfl⟩ := Int.eq_ofNat_of_zero_le h1.1
      rw [Int.toNat_natCast] at h3
      have h4 : (n / 2 ^ C != 0) = true := by simpa using h3
      have h5 : (n / 2 ^ min C 64 != 0) = true := by rw [Nat.min_eq_left (by omega)]; exact h4
      clear h3 hb
      go_enter Try.func113, Try.ntmps113
      go_wp2_with (go_at_call 141; refine (counted_any _ true (by simp; omega) _).mono ?_; rintro e w' ⟨rfl, rfl⟩)
      go_ret
      exact ⟨rfl, rfl⟩
    · clear hb
      go_enter Try.func113, Try.ntmps113
      go_wp2_with (go_at_call 141; refine (counted_any _ true (by simp; omega) _).mono ?_; rintro e w' ⟨rfl, rfl⟩)
      go_ret
      exact ⟨rfl, rfl⟩
  · clear hb
    go_enter Try.func113, Try.ntmps113
    go_wp2_with (go_at_call 141; refine (counted_any _ false (by simp; omega) _).mono ?_; rintro e w' ⟨rfl, rfl⟩)
    go_ret
    exact ⟨rfl, rfl⟩

set_option maxHeartbeats 1000000 in
theorem put_any (p : Nat) (h : Bool) (v : Value) (L : List Int) (n : Int) (c : Nat) (w : World) (x : Wr w p h v L) (hf : Fit n c) (hn : n ≤ 9223372036854775807) (hL : L.length < 549755813888) :
    Calls Try.prog 113 #[.pointer (some ⟨p, 0, none⟩), .int .i64 n, .int .i64 c] w fun e w' => e = .returned .nilIface ∧ ∃ v', Wr w' p h v' (L ++ digs h n c) ∧ Turn p w v w' v' := by
  obtain ⟨h1, h2, h3⟩ := hf
  rw [Int.toNat_natCast] at h3
  have h4 : (n / 2 ^ c != 0) = false := by simpa using h3
  have h5 : (n / 2 ^ min c 64 != 0) = false := by rw [Nat.min_eq_left (by omega)]; exact h4
  clear h3
  go_enter Try.func113, Try.ntmps113
  go_wp2_with (go_at_call 141; refine (counted_any _ true (by simp; omega) _).mono ?_; rintro e w' ⟨rfl, rfl⟩)
  go_loopw [27] (fun i wr => ∃ k : Nat, k ≤ c ∧ i = .int .i64 k ∧ ∃ v', Wr wr p h v' (L ++ (digs h n c).take k) ∧ Turn p w v wr v') (fun i _ => c - (intOf i).toNat)
  case atStart => exact ⟨0, Nat.zero_le _, rfl, v, by simpa using x, Turn.refl _ _ _⟩
  case round =>
    obtain ⟨k, hk, rfl, v', hx, hT⟩ := hrel
    by_cases hlt : k < c
    · have c0 := hx.blk.c0
      obtain ⟨b, hbe⟩ : ∃ b, b = n / 2 ^ pk h k c % 2 := ⟨_, rfl⟩
      have hb01 : b = 0 ∨ b = 1 := by omega
      have hpk := pk_lt (h := h) hlt
      have hand : bits BinOp.and IntKind.i64 (n / 2 ^ min (pk h k c) 64) 1 = b := by rw [Nat.min_eq_left (by omega), i64_bit, hbe]
      have hlen : (L ++ (digs h n c).take k).length < 1099511627776 := by rw [List.length_append, List.length_take, digs_len]; omega
      have hsn : L ++ (digs h n c).take (k + 1) = L ++ (digs h n c).take k ++ [b] := by
        rw [List.append_assoc, List.take_add_one, digs_at h c n k hlt, hbe]; rfl
      have HS := Lib.hid hsn
      clear hsn hbe hpk
      go_wp2_with (first
        | (go_at_call 143; refine (pick_any h k c hlt (by omega) _).mono ?_; rintro e w' ⟨rfl, rfl⟩)
        | (go_at_call 144; refine (bit_any _ p h v' _ b hx hb01 hlen).mono ?_; rintro e w2 ⟨rfl, v2, hx2, hT2⟩))
      go_roundw
      case rel => exact ⟨k + 1, by omega, by go_num, v2, by rw [HS.out]; exact hx2, hT.trans hT2⟩
      case measure => simp [intOf]; omega
    · go_wp2
      go_ret
      obtain rfl : k = c := by omega
      exact ⟨rfl, v', by rw [List.take_of_length_le (by rw [digs_len]; omega)] at hx; exact hx, hT⟩
end Go.Proofs.Ytlhappecjjbopaa
