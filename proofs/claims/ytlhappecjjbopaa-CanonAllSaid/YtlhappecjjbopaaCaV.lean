/-
  canon's Book.Write, by a contract. Conditions: fewer than 2^38 bits.
-/
import Derived.Test.YtlhappecjjbopaaCaT
namespace Go.Proofs.Ytlhappecjjbopaa
open Go.RowKit
set_option linter.unusedVariables false
set_option maxRecDepth 100000

theorem digs_one (h : Bool) {z : Int} (hz : z = 0 ∨ z = 1) : digs h z 1 = [z] := by
  rcases hz with rfl | rfl <;> cases h <;> decide
theorem fit_one {z : Int} (hz : z = 0 ∨ z = 1) : Fit z ((1 : Nat) : Int) := by
  rcases hz with rfl | rfl <;> exact ⟨by decide, by decide, by decide⟩
theorem digs_take {c : Int} {l j : Nat} (hj : j < l) : (digs true c l).take (l - j) = (digs true c l).take (l - (j + 1)) ++ [c / 2 ^ j % 2] := by
  have h1 := digs_at true l c (l - (j + 1)) (by omega)
  rw [show l - j = l - (j + 1) + 1 by omega, List.take_add_one, h1]
  have : pk true (l - (j + 1)) l = j := by unfold pk; simp; omega
  rw [this]; rfl

set_option maxHeartbeats 4000000 in
theorem write_any {ls : List Int} {O : List Nat} {C : List Int} {w : World} {B p wp : Nat} {h : Bool} {v : Value} {L : List Int} {s i : Nat} (hK : BkS w B p ls O C) (ho : Ordd ls O C) (hV : Vl ls) (hBw : B ≤ wp) (hvB : ∀ k, v.ownBlock = some k → B ≤ k) (x : Wr w wp h v L) (hi : O[i]? = some s) (hL : L.length < 274877906944) :
    Calls Try.prog 65 #[.pointer (some ⟨p, 0, none⟩), .pointer (some ⟨wp, 0, none⟩), .int .i64 (s : Int)] w fun e w' => e = .returned .nilIface ∧ ∃ v', Wr w' wp h v' (L ++ cb (sz ls O) i) ∧ Turn wp w v w' v' := by
  have hm := ho.mem s (List.mem_of_getElem? hi)
  obtain ⟨l, hl⟩ := Int.eq_ofNat_of_zero_le (show 0 ≤ ls.getD s 0 by omega)
  have hl16 : 1 ≤ l ∧ l ≤ 16 := by omega
  have hh : decide (hasL ls (s : Int)) = true := decide_eq_true ⟨by omega, by have := hm.1; omega, by rw [Int.toNat_natCast]; omega⟩
  have hD : cb (sz ls O) i = digs true (C.getD s 0) l := by
    have h1 := ho.lenZ hi
    have h2 := digs_hv (cb_01 (sz ls O) i)
    rw [← ho.cod i s hi] at h2
    rw [← h2]
    congr 1
    omega
  have hsl := hm.1
  obtain ⟨A0, c0, y0, hR0⟩ := hK.get.len
  obtain ⟨b0, o0, rfl, _, hc0⟩ := hR0.at_ (k := s) (by rw [iv_len]; exact hsl)
  have e0 := hc0 s _ (ivs_get hsl)
  rw [hl] at e0
  have hcl := ho.cln
  have hcb := ho.bd s
  rw [hD]
  have HH := Lib.hid hh
  have HCL := Lib.hid hcl
  have HIV := Lib.hid hV
  have hs0 : (0 : Int) ≤ (s : Int) := by omega
  have hs1 : (s : Int) < (ls.length : Int) := by omega
  clear hh hD hc0 hR0 hcl hm ho hi hl hV
  generalize hcv : C.getD s 0 = cv at *
  have HCV := Lib.hid hcv
  clear hcv
  go_enter Try.func65, Try.ntmps65
  go_wp2_with fail
  refine (has_any p ls O C (s : Int) w hK.get HIV.out).mono ?_; rintro e w1 ⟨rfl, rfl⟩
  rw [HH.out]
  go_wp2
  go_loopw [7] (fun iv wr => ∃ q : Nat, q ≤ l ∧ iv = .int .i64 ((q : Int) - 1) ∧ ∃ v', Wr wr wp h v' (L ++ (digs true cv l).take (l - q)) ∧ Turn wp w1 v wr v') (fun i _ => (intOf i + 1).toNat)
  case atStart => exact ⟨l, Nat.le_refl _, rfl, v, by simpa using x, Turn.refl _ _ _⟩
  case round =>
    obtain ⟨q, hq, rfl, v', hx, hT⟩ := hrel
    rcases Nat.eq_zero_or_pos q with h0 | h0
    · subst h0
      rw [Nat.sub_zero, List.take_of_length_le (by rw [digs_len]; exact Nat.le_refl _)] at hx
      have HX := Lib.hid hx
      clear hx
      simp only [Int.natCast_zero, Int.zero_sub]
      go_wp2
      go_ret
      exact ⟨rfl, v', HX.out, hT⟩
    · obtain ⟨j, rfl⟩ : ∃ j, q = j + 1 := ⟨q - 1, by omega⟩
      rw [show ((j + 1 : Nat) : Int) - 1 = (j : Int) by omega]
      have htk := digs_take (c := cv) (l := l) (j := j) (by omega)
      have hz : bits BinOp.and IntKind.i64 (cv / 2 ^ j) 1 = cv / 2 ^ j % 2 := i64_bit _
      have hz01 : cv / 2 ^ j % 2 = 0 ∨ cv / 2 ^ j % 2 = 1 := by omega
      generalize cv / 2 ^ j % 2 = z at *
      have HTK := Lib.hid htk
      have hll : (L ++ (digs true cv l).take (l - (j + 1))).length ≤ L.length + 16 := by
        rw [List.length_append, List.length_take, digs_len]; omega
      have hbl := hT.below (B := B) hBw hvB hK.size
      obtain ⟨A1, c1, y1, hR1⟩ := (hK.keep hbl).get.cod
      obtain ⟨b1, o1, rfl, _, hc1⟩ := hR1.at_ (k := s) (by rw [iv_len, HCL.out]; exact hsl)
      have e1 := hc1 s _ (ivs_get (by rw [HCL.out]; exact hsl))
      rw [HCV.out] at e1
      have hjl : j < l := by omega
      clear htk hc1 hR1
      generalize (digs true cv l).take (l - (j + 1)) = D0 at *
      go_wp2_with fail
      refine (put_any wp h v' (L ++ D0) z 1 _ hx (fit_one hz01) (by omega) (by omega)).mono ?_; rintro e w2 ⟨rfl, v2, hx2, hT2⟩
      rw [digs_one h hz01] at hx2
      go_wp2
      go_roundw
      case rel => exact ⟨j, by omega, by go_num, v2, by rw [HTK.out, ← List.append_assoc]; exact hx2, hT.trans hT2⟩
      case measure => simp [intOf]
end Go.Proofs.Ytlhappecjjbopaa
