/-
  canon's book: beyond, by a contract. No condition.
-/
import Derived.Test.YtlhappecjjbopaaCaN
namespace Go.Proofs.Ytlhappecjjbopaa
open Go.RowKit
set_option linter.unusedVariables false
set_option maxRecDepth 100000

set_option maxHeartbeats 2000000 in
theorem beyond_any (p : Nat) (ls : List Int) (O : List Nat) (C : List Int) (k s l n : Nat) (y x : Int) (w : World) (hB : Bk w p ls O C) (hO : O[k]? = some s) (hk : O.length = k + 1) (hk2 : k ≤ 100000) (hs : s < ls.length) (hl : ls.getD s 0 = (l : Int)) (hcl : C.length = ls.length) (hy : C.getD s 0 = y)
    (hnl : n ≤ l) (hl16 : l ≤ 16) (hyb : 0 ≤ y ∧ y ≤ 65536) :
    Calls Try.prog 112 #[.pointer (some ⟨p, 0, none⟩), .int .i64 x, .int .i64 (n : Int)] w fun e w' => e = .returned (.bool (decide (y / 2 ^ (l - n) < x))) ∧ ∃ j j2, w' = (w.drewN j).drewN j2 := by
  obtain ⟨A0, c0, y0, hR0⟩ := hB.len
  obtain ⟨A1, c1, y1, hR1⟩ := hB.cod
  obtain ⟨A2, c2, y2, hR2⟩ := hB.ord
  clear hB
  obtain ⟨b0, o0, rfl, _, h0⟩ := hR0.at_ (k := s) (by rw [iv_len]; exact hs)
  have e0 := h0 s _ (ivs_get hs)
  obtain ⟨b1, o1, rfl, _, h1⟩ := hR1.at_ (k := s) (by rw [iv_len, hcl]; exact hs)
  have e1 := h1 s _ (ivs_get (by rw [hcl]; exact hs))
  obtain ⟨b2, o2, rfl, _, h2⟩ := hR2.at_ (k := k) (by rw [nv]; simp; omega)
  have e2 := h2 k _ (nv_get hO)
  rw [hl] at e0
  rw [hy] at e1
  rw [hk] at y2
  generalize hn : ls.length = m at *
  have hsm : (s : Int) < (m : Int) := by omega
  have hs0 : (0 : Int) ≤ (s : Int) := by omega
  have hk0 : (0 : Int) ≤ (k : Int) := by omega
  have hw1 : IntKind.i64.wrap (((k + 1 : Nat) : Int) - 1) = (k : Int) := by rw [IntWalk.i64_in _ (by omega)]; omega
  have hw2 : IntKind.i64.wrap ((l : Int) - (n : Int)) = ((l - n : Nat) : Int) := by rw [IntWalk.i64_in _ (by omega)]; omega
  have hd : decide ((l : Int) < (n : Int)) = false := decide_eq_false (by omega)
  clear h0 h1 h2 hR0 hR1 hR2 hO hk hl hy hcl hn
  go_enter Try.func112, Try.ntmps112
  go_upto_region 1 with fail
  go_quiet (fail)
  go_upto_region 2 with fail
  go_quiet (fail)
  go_wp2
  go_ret
  exact ⟨by simp [show ¬ l < n by omega], _, _, rfl⟩
end Go.Proofs.Ytlhappecjjbopaa
