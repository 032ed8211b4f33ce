/-
  bits.Reader: Take, by contracts. Conditions: at most 2^36 bytes.
-/
import Derived.Test.YtlhappecjjbopaaBiF
namespace Go.Proofs.Ytlhappecjjbopaa
open Go.RowKit
set_option linter.unusedVariables false
set_option maxRecDepth 100000

theorem take_range (v : Option Addr) (n : Int) (hb : ¬ (0 ≤ n ∧ n ≤ 32)) (w : World) : Calls Try.prog 111 #[.pointer v, .int .i64 n] w fun e w' => e = .returned (.tuple #[.int .i64 0, errV 7]) ∧ w = w' := by
  go_enter Try.func111, Try.ntmps111
  go_wp2_with (go_at_call 141; refine (counted_any _ false (by simpa using hb) _).mono ?_; rintro e w' ⟨rfl, rfl⟩)
  go_ret2
  exact ⟨rfl, rfl⟩
theorem take_nil (n : Int) (hb : 0 ≤ n ∧ n ≤ 32) (w : World) : Calls Try.prog 111 #[.pointer none, .int .i64 n] w fun e w' => e = .returned (.tuple #[.int .i64 0, errV 8]) ∧ w = w' := by
  go_enter Try.func111, Try.ntmps111
  go_wp2_with (go_at_call 141; refine (counted_any _ true (by simpa using hb) _).mono ?_; rintro e w' ⟨rfl, rfl⟩)
  go_ret2
  exact ⟨rfl, rfl⟩
theorem take_end {w : World} {p : Nat} {h : Bool} {A : Option Addr} {c m : Nat} {B : List Int} (x : Re w p h A c B m) (hm : B.length ≤ 68719476736) (n : Nat) (hn : n ≤ 32) (hl : 8 * B.length - m < n) :
    Calls Try.prog 111 #[.pointer (some ⟨p, 0, none⟩), .int .i64 n] w fun e w' => e = .returned (.tuple #[.int .i64 0, errV 8]) ∧ Below w.heap.size w w' := by
  go_enter Try.func111, Try.ntmps111
  go_wp2_with (first
    | (go_at_call 141; refine (counted_any _ true (by simp; omega) _).mono ?_; rintro e w' ⟨rfl, rfl⟩)
    | (go_at_call 109; refine (left_any x hm).mono ?_; rintro e w1 ⟨rfl, hb1⟩))
  go_ret2
  exact ⟨rfl, hb1⟩

/-- the next bits of a reader -/
def nxt (h : Bool) (B : List Int) (m n : Nat) : List Int := ((bitsOf h B).drop m).take n
theorem nxt_len (h : Bool) (B : List Int) (m n : Nat) (hn : m + n ≤ 8 * B.length) : (nxt h B m n).length = n := by unfold nxt; rw [List.length_take, List.length_drop, bitsOf_len]; omega
theorem nxt_01 (h : Bool) (B : List Int) (m n : Nat) : B01 (nxt h B m n) := ((bitsOf_01 h B).drop m).take n
theorem nxt_snoc (h : Bool) (B : List Int) (m k : Nat) (hk : m + k < 8 * B.length) : nxt h B m (k + 1) = nxt h B m k ++ [B.getD ((m + k) / 8) 0 / 2 ^ pk h ((m + k) % 8) 8 % 2] := by
  unfold nxt
  rw [List.take_add_one, List.getElem?_drop, bitsOf_at h B (m + k) hk]; rfl

theorem i64_next {h : Bool} {c : Nat} {l : List Int} {b : Int} (hB : B01 l) (hb : b = 0 ∨ b = 1) (hl : l.length < c) (hc : c ≤ 32) :
    bits BinOp.or IntKind.i64 (part h c l) (wrap64 (b * 2 ^ min (pk h l.length c) 64)) = part h c (l ++ [b]) := by
  have hp := pk_lt (h := h) hl
  rw [Nat.min_eq_left (by omega)]
  have h1 : (2 : Int) ^ pk h l.length c ≤ 2 ^ 31 := by
    have := Nat.pow_le_pow_right (show 0 < 2 by omega) (show pk h l.length c ≤ 31 by omega)
    rw [← two_cast, ← two_cast]; omega
  have h2 := two_pos (pk h l.length c)
  have h3 : 0 ≤ b * 2 ^ pk h l.length c ∧ b * 2 ^ pk h l.length c ≤ 2 ^ 31 := by
    rcases hb with rfl | rfl
    · omega
    · rw [Int.one_mul]; exact ⟨by omega, h1⟩
  rw [IntWalk.wrap64_in _ ⟨by omega, by omega⟩, ← part_or hB hb hl]
  have h4 := part_bd (h := h) hB (Nat.le_of_lt hl)
  have h5 : (2 : Int) ^ c ≤ 2 ^ 32 := by
    have := Nat.pow_le_pow_right (show 0 < 2 by omega) hc
    rw [← two_cast, ← two_cast]; omega
  obtain ⟨a, ha⟩ := Int.eq_ofNat_of_zero_le h4.1
  obtain ⟨d, hd⟩ := Int.eq_ofNat_of_zero_le h3.1
  rw [ha, hd, Int.toNat_natCast, Int.toNat_natCast]
  exact i64_ors a d (by omega) (by omega)

theorem Re.drewN {w : World} {p : Nat} {h : Bool} {A : Option Addr} {c m : Nat} {B : List Int} (x : Re w p h A c B m) (n : Nat) : Re (w.drewN n) p h A c B m := ⟨x.blk, x.rd, x.ne, x.bs, x.le⟩
theorem Fp.drewN {p : Nat} {w w' : World} (h : Fp p w w') (n : Nat) : Fp p w (w'.drewN n) := Fr.drewN h n

set_option maxHeartbeats 2000000 in
theorem take_any {w : World} {p : Nat} {h : Bool} {A : Option Addr} {c m : Nat} {B : List Int} (x : Re w p h A c B m) (hm : B.length ≤ 68719476736) (n : Nat) (hn : n ≤ 32) (hl : n ≤ 8 * B.length - m) :
    Calls Try.prog 111 #[.pointer (some ⟨p, 0, none⟩), .int .i64 n] w fun e w' => e = .returned (.tuple #[.int .i64 (part h n (nxt h B m n)), .nilIface]) ∧ Re w' p h A c B (m + n) ∧ Fp p w w' := by
  have hle := x.le
  have hld : decide (8 * B.length - m < n) = false := by simp; omega
  go_enter Try.func111, Try.ntmps111
  go_wp2_with (first
    | (go_at_call 141; refine (counted_any _ true (by simp; omega) _).mono ?_; rintro e w' ⟨rfl, rfl⟩)
    | (go_at_call 109; refine (left_any x hm).mono ?_; rintro e w1 ⟨rfl, hb1⟩))
  have x1 := x.below hb1
  have hf1 : Fp p w w1 := Fp.of_below hb1
  go_loopw [6, 23] (fun v i wr => ∃ k : Nat, k ≤ n ∧ i = .int .i64 k ∧ v = .int .i64 (part h n (nxt h B m k)) ∧ Re wr p h A c B (m + k) ∧ Fp p w wr) (fun _ i _ => n - (intOf i).toNat)
  case atStart => exact ⟨0, Nat.zero_le _, rfl, by unfold nxt; simp [part_nil], x1, hf1⟩
  case round =>
    obtain ⟨k, hk, rfl, rfl, hx, hf⟩ := hrel
    clear x x1 hf1 hb1
    by_cases hlt : k < n
    · obtain ⟨q, hq⟩ : ∃ q, q = m + k := ⟨_, rfl⟩
      rw [← hq] at hx
      have hqb : q < 8 * B.length := by omega
      obtain ⟨b, off, rfl, hbl, hcell⟩ := hx.rd.at_ (k := q / 8) (by rw [bv_len]; omega)
      have hcl := hcell (q / 8) (.int .u8 (B.getD (q / 8) 0)) (bv_get (by omega))
      have hxb : 0 ≤ B.getD (q / 8) 0 ∧ B.getD (q / 8) 0 ≤ 255 := by
        have hin : B.getD (q / 8) 0 ∈ B := by rw [List.getD_eq_getElem?_getD, List.getElem?_eq_getElem (by omega)]; exact List.getElem_mem _
        exact hx.bs _ hin
      obtain ⟨y, hy⟩ : ∃ y, y = B.getD (q / 8) 0 := ⟨_, rfl⟩
      rw [← hy] at hcl hxb
      have c0 := hx.blk.c0
      have c1 := hx.blk.c1
      have c2 := hx.blk.c2
      have f2 := hx.blk.f 2 (by omega)
      obtain ⟨z, hz⟩ : ∃ z, z = y / 2 ^ pk h (q % 8) 8 % 2 := ⟨_, rfl⟩
      have hz01 : z = 0 ∨ z = 1 := by omega
      have hpk8 := pk_lt (h := h) (show q % 8 < 8 by omega)
      have hsn := nxt_snoc h B m k (by omega)
      rw [← hq, ← hy, ← hz] at hsn
      have hlen := nxt_len h B m k (by omega)
      have hnx := i64_next (h := h) (c := n) (nxt_01 h B m k) hz01 (by omega) hn
      rw [hlen, ← hsn] at hnx
      have hst : ∀ W : World, Re W p h (some ⟨b, off, none⟩) c B q → Re (W.setCell ⟨p, 2, none⟩ (.int .i64 ((q : Int) + 1))) p h (some ⟨b, off, none⟩) c B (m + (k + 1)) ∧ Fp p W (W.setCell ⟨p, 2, none⟩ (.int .i64 ((q : Int) + 1))) := fun W hW => by
        have := hW.step (m + (k + 1)) (by omega)
        rw [show ((m + (k + 1) : Nat) : Int) = (q : Int) + 1 by omega] at this
        exact this
      have hand : bits BinOp.and IntKind.i64 (y / 2 ^ pk h (q % 8) 8) 1 = z := by rw [i64_bit, hz]
      have hwz : IntKind.i64.wrap z = z := IntWalk.i64_in _ (by omega)
      have hwy : IntKind.i64.wrap y = y := IntWalk.i64_in _ (by omega)
      have hquo : IntKind.i64.wrap ((q : Int) / 8) = ((q / 8 : Nat) : Int) := by
        rw [IntWalk.i64_in _ (by omega)]; omega
      have hix : (q / 8 : Nat) < B.length := by omega
      have hix0 : (0 : Int) ≤ ((q / 8 : Nat) : Int) := by omega
      have hix1 : ((q / 8 : Nat) : Int) < (B.length : Int) := by omega
      have hq40 : q ≤ 1099511627776 := by omega
      have HS := Lib.hid hst
      have HX := Lib.hid hx
      clear hcell hy hz hsn hlen hq hst hx hqb
      generalize part h n (nxt h B m k) = acc0 at *
      generalize hacc : part h n (nxt h B m (k + 1)) = acc1 at *
      have HA := Lib.hid hacc
      clear hacc
      generalize q / 8 = q8 at *
      go_wp2
      go_quiet ((go_at_call 142; exact Calls.quiet_of_same (shift_any h q hq40 _)))
      clear hwz hwy hquo
      go_wp2_with (go_at_call 143; refine (pick_any h k n hlt (by omega) _).mono ?_; rintro e w' ⟨rfl, rfl⟩)
      go_roundw
      case rel => exact ⟨k + 1, by omega, by go_num, by rw [HA.out], (HS.out _ (HX.out.drewN nq)).1, hf.trans (((Fp.refl p wr).drewN nq).trans (HS.out _ (HX.out.drewN nq)).2)⟩
      case measure => simp [intOf]; omega
    · go_wp2
      go_ret2
      obtain rfl : k = n := by omega
      exact ⟨rfl, hx, hf⟩
end Go.Proofs.Ytlhappecjjbopaa
