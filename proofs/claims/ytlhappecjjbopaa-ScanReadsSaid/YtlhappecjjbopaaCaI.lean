/-
  canon's book: NewBook, has, Length, by contracts. No condition.
-/
import Derived.Test.YtlhappecjjbopaaCaH
namespace Go.Proofs.Ytlhappecjjbopaa
open Go.RowKit
set_option linter.unusedVariables false
set_option maxRecDepth 100000

theorem cd_bd {ls C : List Int} (hf : Fm ls) (hc : Cd ls C) (s : Nat) : 0 ≤ C.getD s 0 ∧ C.getD s 0 ≤ 65536 := by
  by_cases hs : s < ls.length
  · by_cases h0 : 0 < ls.getD s 0
    · obtain ⟨i, hi, h1, h2⟩ := ord_get hf.2.1 hs h0
      have h3 := hc.2.1 i s hi
      have h4 := (at_le hf i).2
      have hw : 1 ≤ wt (ls.getD s 0) := by rw [wt_pos (by omega)]; exact two_pos _
      have h5 := Int.mul_le_mul_of_nonneg_left hw h3.1
      rw [Int.mul_one, h3.2] at h5
      exact ⟨h3.1, by omega⟩
    · have hb := hf.2.1 _ (getD_in hs)
      rw [hc.2.2 s (by omega)]; omega
  · rw [List.getD_eq_getElem?_getD, List.getElem?_eq_none (by rw [hc.1]; omega)]; decide

def Booked (ls : List Int) (w : World) (e : Ending) (w' : World) : Prop :=
  (Fm ls → ∃ p C, e = .returned (.tuple #[.pointer (some ⟨p, 0, none⟩), .nilIface]) ∧ Bk w' p ls (ordU ls 16) C ∧ Cd ls C ∧ w.heap.size ≤ p) ∧
  (¬ Fm ls → e = .returned (.tuple #[.pointer none, errV 6])) ∧ Below w.heap.size w w'

set_option maxHeartbeats 2000000 in
theorem newBook_any (A : Option Addr) (n c : Nat) (ls : List Int) (w : World) (hn : ls.length = n) (hR : Rd w w.heap.size A (iv ls)) (hI : Is ls) :
    Calls Try.prog 44 #[.slice A n c] w (Booked ls w) := by
  have HN := Lib.hid hn
  by_cases hf : Fm ls
  · have hm : n ≤ 512 := by rw [← hn]; exact hf.1
    have HF := Lib.hid hf
    clear hn hf
    go_enter Try.func44, Try.ntmps44
    go_wp2_with fail
    refine (free_any A n c ls w.heap.size w HN.out hR hI).mono ?_; rintro e w1 ⟨h1, _, rfl⟩
    obtain rfl := h1 HF.out
    clear h1
    go_wp2_with fail
    refine (order_any A n c ls w HN.out hR hI (by omega)).mono ?_; rintro e w1 ⟨v, rfl, ho, hb⟩
    have hs := hb.size
    obtain ⟨A2, c2, rfl, _, _, hR2⟩ := own_sliceN ho
    have hol := ordU_len ls 16
    rw [HN.out] at hol
    have hom : (ordU ls 16).length ≤ 10000 := by omega
    have hmem : ∀ s ∈ ordU ls 16, s < n ∧ 1 ≤ ls.getD s 0 ∧ ls.getD s 0 ≤ 16 := fun s hs => by
      rw [← HN.out]; exact ordU_mem.1 hs
    have hK : ∀ C, Cd ls C → C.length = n ∧ ∀ s, -9223372036854775808 ≤ C.getD s 0 ∧ C.getD s 0 ≤ 9223372036854775807 := fun C hC =>
      ⟨by rw [hC.1, HN.out], fun s => by have := cd_bd HF.out hC s; omega⟩
    have hR1 := (hR.below hb).more hs
    have HOL : Hid ((ordU ls 16).length = (ordU ls 16).length) := Lib.hid rfl
    clear hol
    go_wp2_with fail
    refine (bind_any (Cd ls) A A2 n c _ c2 ls (ordU ls 16) w1 HN.out hR1 hm rfl hR2 hom hmem hK (fun W h1 h2 => assign_any A A2 n c _ c2 ls W HN.out h1 HF.out rfl h2)).mono ?_; rintro e w2 ⟨p, C, rfl, hB, hC, hp, hb2⟩
    go_wp2
    go_ret2
    exact ⟨fun _ => ⟨p, C, rfl, hB, hC, by omega⟩, fun h => absurd HF.out h, hb.trans (hb2.mono hs)⟩
  · have HNF := Lib.hid hf
    clear hn hf
    go_enter Try.func44, Try.ntmps44
    go_wp2_with fail
    refine (free_any A n c ls w.heap.size w HN.out hR hI).mono ?_; rintro e w1 ⟨_, h1, rfl⟩
    obtain rfl := h1 HNF.out
    clear h1
    unfold errV
    go_wp2
    go_ret2
    exact ⟨fun h => absurd h HNF.out, fun _ => rfl, Below.refl _ _⟩

def hasL (ls : List Int) (x : Int) : Prop := 0 ≤ x ∧ x < ls.length ∧ 0 < ls.getD x.toNat 0
instance (ls : List Int) (x : Int) : Decidable (hasL ls x) := by unfold hasL; infer_instance
theorem has_nil (x : Int) (w : World) : Calls Try.prog 104 #[.pointer none, .int .i64 x] w fun e w' => e = .returned (.bool false) ∧ w' = w := by
  go_enter Try.func104, Try.ntmps104
  go_wp2
  go_ret
  exact ⟨rfl, rfl⟩
set_option maxHeartbeats 1000000 in
theorem has_any (p : Nat) (ls : List Int) (O : List Nat) (C : List Int) (x : Int) (w : World) (hB : Bk w p ls O C) (hv : Vl ls) :
    Calls Try.prog 104 #[.pointer (some ⟨p, 0, none⟩), .int .i64 x] w fun e w' => e = .returned (.bool (decide (hasL ls x))) ∧ w' = w := by
  obtain ⟨A, c, y0, hR⟩ := hB.len
  clear hB
  generalize hn : ls.length = n at *
  have HN := Lib.hid hn
  have HV := Lib.hid hv
  clear hn hv
  by_cases h0 : 0 ≤ x
  · obtain ⟨s, rfl⟩ := Int.eq_ofNat_of_zero_le h0
    by_cases h1 : s < n
    · obtain ⟨b, off, rfl, _, hcell⟩ := hR.at_ (k := s) (by rw [iv_len, HN.out]; exact h1)
      have hc := hcell s _ (ivs_get (by rw [HN.out]; exact h1))
      have hd0 : decide ((0 : Int) ≤ (s : Int)) = true := decide_eq_true (by omega)
      have hd1 : decide ((s : Int) < (n : Int)) = true := decide_eq_true (by omega)
      have hs0 : (0 : Int) ≤ (s : Int) := by omega
      have hs1 : (s : Int) < (n : Int) := by omega
      have hh : decide (hasL ls s) = decide (0 < ls.getD s 0) := by
        apply decide_eq_decide.2
        unfold hasL
        rw [HN.out]; simp; omega
      have HH := Lib.hid hh
      clear hcell hh
      generalize ls.getD s 0 = l at *
      go_enter Try.func104, Try.ntmps104
      go_wp2
      go_ret
      exact ⟨by rw [HH.out]; rfl, rfl⟩
    · have hd0 : decide ((0 : Int) ≤ (s : Int)) = true := decide_eq_true (by omega)
      have hd1 : decide ((s : Int) < (n : Int)) = false := decide_eq_false (by omega)
      have hh : decide (hasL ls s) = false := decide_eq_false (by unfold hasL; rw [HN.out]; omega)
      have HH := Lib.hid hh
      clear hh
      go_enter Try.func104, Try.ntmps104
      go_wp2
      go_ret
      exact ⟨by rw [HH.out]; rfl, rfl⟩
  · have hd0 : decide ((0 : Int) ≤ x) = false := decide_eq_false h0
    have hh : decide (hasL ls x) = false := decide_eq_false (by unfold hasL; omega)
    have HH := Lib.hid hh
    clear hh
    go_enter Try.func104, Try.ntmps104
    go_wp2
    go_ret
    exact ⟨by rw [HH.out]; rfl, rfl⟩

def lenL (ls : List Int) (x : Int) : Int := if hasL ls x then ls.getD x.toNat 0 else 0
theorem length_nil (x : Int) (w : World) : Calls Try.prog 45 #[.pointer none, .int .i64 x] w fun e w' => e = .returned (.int .i64 0) ∧ w' = w := by
  go_enter Try.func45, Try.ntmps45
  go_wp2_with fail
  refine (has_nil x w).mono ?_; rintro e w1 ⟨rfl, rfl⟩
  go_wp2
  go_ret
  exact ⟨rfl, rfl⟩
set_option maxHeartbeats 1000000 in
theorem length_any (p : Nat) (ls : List Int) (O : List Nat) (C : List Int) (x : Int) (w : World) (hB : Bk w p ls O C) (hv : Vl ls) :
    Calls Try.prog 45 #[.pointer (some ⟨p, 0, none⟩), .int .i64 x] w fun e w' => e = .returned (.int .i64 (lenL ls x)) ∧ w' = w := by
  have HB := Lib.hid hB
  have HV := Lib.hid hv
  obtain ⟨A, c, y0, hR⟩ := hB.len
  clear hB hv
  by_cases hh : hasL ls x
  · have hd : decide (hasL ls x) = true := decide_eq_true hh
    obtain ⟨s, rfl⟩ := Int.eq_ofNat_of_zero_le hh.1
    have hsn : s < ls.length := by have := hh.2.1; omega
    have hll : lenL ls s = ls.getD s 0 := by unfold lenL; rw [if_pos hh]; rfl
    have HD := Lib.hid hd
    have HLL := Lib.hid hll
    obtain ⟨b, off, rfl, _, hcell⟩ := hR.at_ (k := s) (by rw [iv_len]; exact hsn)
    have hc := hcell s _ (ivs_get hsn)
    have hs0 : (0 : Int) ≤ (s : Int) := by omega
    have hs1 : (s : Int) < (ls.length : Int) := by omega
    clear hcell hh hd hll
    generalize ls.getD s 0 = l at *
    go_enter Try.func45, Try.ntmps45
    go_wp2_with fail
    refine (has_any p ls O C (s : Int) w HB.out HV.out).mono ?_; rintro e w1 ⟨rfl, rfl⟩
    rw [HD.out]
    go_wp2
    go_ret
    exact ⟨by rw [HLL.out]; rfl, rfl⟩
  · have hd : decide (hasL ls x) = false := decide_eq_false hh
    have hll : lenL ls x = 0 := if_neg hh
    have HD := Lib.hid hd
    have HLL := Lib.hid hll
    clear hh hd hll
    go_enter Try.func45, Try.ntmps45
    go_wp2_with fail
    refine (has_any p ls O C x w HB.out HV.out).mono ?_; rintro e w1 ⟨rfl, rfl⟩
    rw [HD.out]
    go_wp2
    go_ret
    exact ⟨by rw [HLL.out]; rfl, rfl⟩
end Go.Proofs.Ytlhappecjjbopaa
