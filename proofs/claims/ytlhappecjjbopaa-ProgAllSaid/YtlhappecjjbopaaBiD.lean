/-
  bits.Writer: Align, Bytes, Len, High, by contracts. Conditions: fewer than 2^39 bits.
-/
import Derived.Test.YtlhappecjjbopaaBiC
import Derived.Deep.LoopGhost
import Derived.Deep.CutRange
namespace Go.Proofs.Ytlhappecjjbopaa
open Go.RowKit
set_option linter.unusedVariables false
set_option maxRecDepth 100000

theorem own_base {w : World} {base B n : Nat} {e : TypeId} {v : Value} {xs : List Value} (h : w.ownsRow base e 1 v n xs) (hB : ∀ k, v.ownBlock = some k → B ≤ k) : w.ownsRow B e 1 v n xs := by
  refine ⟨h.1, ?_⟩
  rcases h.2 with h0 | ⟨g, cap, cur, rfl, hb, rest⟩
  · exact .inl h0
  · exact .inr ⟨g, cap, cur, rfl, hB g rfl, rest⟩

theorem fill_any (p : Nat) (h : Bool) (v : Value) (L : List Int) (w : World) (x : Wr w p h v L) : Calls Try.prog 145 #[.pointer (some ⟨p, 0, none⟩)] w fun e w' => e = .returned (.int .i64 (fill1 h)) ∧ w = w' := by
  have c0 := x.blk.c0
  clear x
  cases h
  · go_enter Try.func145, Try.ntmps145
    go_wp2
    go_ret
    exact ⟨rfl, rfl⟩
  · go_enter Try.func145, Try.ntmps145
    go_wp2
    go_ret
    exact ⟨rfl, rfl⟩

theorem wlen_any (p : Nat) (h : Bool) (v : Value) (L : List Int) (w : World) (x : Wr w p h v L) : Calls Try.prog 66 #[.pointer (some ⟨p, 0, none⟩)] w fun e w' => e = .returned (.int .i64 (L.length : Nat)) ∧ w = w' := by
  have c2 := x.blk.c2
  clear x
  go_enter Try.func66, Try.ntmps66
  go_wp2
  go_ret
  exact ⟨rfl, rfl⟩
theorem wlen_nil (w : World) : Calls Try.prog 66 #[.pointer none] w fun e w' => e = .returned (.int .i64 0) ∧ w = w' := by
  go_enter Try.func66, Try.ntmps66
  go_wp2
  go_ret
  exact ⟨rfl, rfl⟩
theorem bytes_nil (w : World) : Calls Try.prog 67 #[.pointer none] w fun e w' => e = .returned (.slice none 0 0) ∧ w = w' := by
  go_enter Try.func67, Try.ntmps67
  go_wp2
  go_ret
  exact ⟨rfl, rfl⟩
theorem align_nil (w : World) : Calls Try.prog 114 #[.pointer none] w fun e w' => e = .returned (.tuple #[]) ∧ w = w' := by
  go_enter Try.func114, Try.ntmps114
  go_wp2
  go_loopg [] 0 (fun _ wr => w = wr)
  case atStart => rfl
  case round =>
    subst hrel
    go_wp2
    go_end0
    exact ⟨rfl, rfl⟩

set_option maxHeartbeats 400000 in
theorem align_any (p : Nat) (h : Bool) (v : Value) (L : List Int) (w : World) (x : Wr w p h v L) (hL : L.length < 549755813888) :
    Calls Try.prog 114 #[.pointer (some ⟨p, 0, none⟩)] w fun e w' => e = .returned (.tuple #[]) ∧ ∃ v', Wr w' p h v' (full h L) ∧ Turn p w v w' v' := by
  go_enter Try.func114, Try.ntmps114
  go_wp2
  go_loopg [] (pad L.length) (fun k wr => ∃ j, j + k = pad L.length ∧ ∃ v', Wr wr p h v' (L ++ List.replicate j (fill1 h)) ∧ Turn p w v wr v')
  case atStart => exact ⟨0, by omega, v, by simpa using x, Turn.refl _ _ _⟩
  case round =>
    obtain ⟨j, hj, v', hx, hT⟩ := hrel
    obtain ⟨m, hm⟩ : ∃ m, m = (L ++ List.replicate j (fill1 h)).length := ⟨_, rfl⟩
    have hm2 : m = L.length + j := by rw [hm]; simp
    have hjp : j ≤ pad L.length ∧ pad L.length ≤ 7 ∧ (L.length + pad L.length) % 8 = 0 := by unfold pad at *; omega
    have c2 := hx.blk.c2
    rw [← hm] at c2
    have hj1 : j + gk ≤ pad L.length ∧ pad L.length ≤ j + gk := by omega
    have hm3 : m ≤ L.length + j ∧ L.length + j ≤ m := by omega
    have HM := Lib.hid hm
    clear hm hm2 hj
    by_cases hlt : gk = 0
    · have h8 : ((m : Int) % 8 != 0) = false := by simp; omega
      clear hlt
      go_wp2
      go_end0
      obtain rfl : j = pad L.length := by
        have : (m : Int) % 8 = 0 := by simpa using h8
        unfold pad at *; omega
      exact ⟨rfl, v', hx, hT⟩
    · have h8 : ((m : Int) % 8 != 0) = true := by simp; unfold pad at *; omega
      have hlen : (L ++ List.replicate j (fill1 h)).length < 1099511627776 := by rw [← HM.out]; omega
      have hsn : L ++ List.replicate (j + 1) (fill1 h) = L ++ List.replicate j (fill1 h) ++ [fill1 h] := by
        rw [List.append_assoc, List.replicate_succ']
      have HS := Lib.hid hsn
      clear hsn
      go_wp2_with (first
        | (go_at_call 145; refine (fill_any p h v' _ _ hx).mono ?_; rintro e w2 ⟨rfl, rfl⟩)
        | (go_at_call 144; refine (bit_any _ p h v' _ _ hx (fill1_01 h) hlen).mono ?_; rintro e w2 ⟨rfl, v2, hx2, hT2⟩))
      go_roundg (gk - 1)
      case measure => omega
      case rel => exact ⟨j + 1, by omega, v2, by rw [HS.out]; exact hx2, hT.trans hT2⟩
end Go.Proofs.Ytlhappecjjbopaa
