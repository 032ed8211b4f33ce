/-
  Prog: a dc that is read, by a contract. No condition beyond the ranges that each names.
-/
import Derived.Test.YtlhappecjjbopaaPrO
namespace Go.Proofs.Ytlhappecjjbopaa
open Go.RowKit
set_option linter.unusedVariables false
set_option maxRecDepth 100000

/-- what a dc's bits come to: the dc, the bits, an error -/
noncomputable def rdD (S Z b : List Int) (n a h l : Int) : Int × Nat × Int :=
  if 0 < h then (if b.length < 1 then (0, 0, 8) else (n + hv (b.take 1) * 2 ^ l.toNat, 1, 0))
  else if (rdF S Z b).2.2 ≠ 0 then (0, 0, (rdF S Z b).2.2)
  else if 11 < (rdF S Z b).1.toNat then (0, 0, 2)
  else if b.length < (rdF S Z b).2.1 + (rdF S Z b).1.toNat then (0, 0, 8)
  else if DcB ((tl a l true + vaZ (hv ((b.drop (rdF S Z b).2.1).take (rdF S Z b).1.toNat)) (((rdF S Z b).1.toNat : Nat) : Int)) * 2 ^ l.toNat) then
    ((tl a l true + vaZ (hv ((b.drop (rdF S Z b).2.1).take (rdF S Z b).1.toNat)) (((rdF S Z b).1.toNat : Nat) : Int)) * 2 ^ l.toNat, (rdF S Z b).2.1 + (rdF S Z b).1.toNat, 0)
  else (0, 0, 2)
section
variable {S Z b : List Int} {n a h l e : Int} {s m : Nat}
theorem rdD_bad (hh : ¬ 0 < h) (hF : rdF S Z b = ((s : Int), m, e)) (he : e ≠ 0) : rdD S Z b n a h l = (0, 0, e) := by
  rw [rdD, if_neg hh, hF]; exact if_pos he
theorem rdD_big (hh : ¬ 0 < h) (hF : rdF S Z b = ((s : Int), m, 0)) (h1 : 11 < s) : rdD S Z b n a h l = (0, 0, 2) := by
  rw [rdD, if_neg hh, hF, if_neg (by simp), if_pos (by simpa using h1)]
theorem rdD_few (hh : ¬ 0 < h) (hF : rdF S Z b = ((s : Int), m, 0)) (h1 : ¬ 11 < s) (hl : b.length < m + s) : rdD S Z b n a h l = (0, 0, 8) := by
  rw [rdD, if_neg hh, hF, if_neg (by simp), if_neg (by simpa using h1), if_pos (by simpa using hl)]
theorem rdD_out (hh : ¬ 0 < h) (hF : rdF S Z b = ((s : Int), m, 0)) (h1 : ¬ 11 < s) (hl : ¬ b.length < m + s) {v : Int} (hv : (tl a l true + vaZ (hv ((b.drop m).take s)) (s : Int)) * 2 ^ l.toNat = v) (hd : ¬ DcB v) : rdD S Z b n a h l = (0, 0, 2) := by
  subst hv
  rw [rdD, if_neg hh, hF, if_neg (by simp), if_neg (by simpa using h1), if_neg (by simpa using hl)]; exact if_neg hd
theorem rdD_go (hh : ¬ 0 < h) (hF : rdF S Z b = ((s : Int), m, 0)) (h1 : ¬ 11 < s) (hl : ¬ b.length < m + s) {v : Int} (hv : (tl a l true + vaZ (hv ((b.drop m).take s)) (s : Int)) * 2 ^ l.toNat = v) (hd : DcB v) : rdD S Z b n a h l = (v, m + s, 0) := by
  subst hv
  rw [rdD, if_neg hh, hF, if_neg (by simp), if_neg (by simpa using h1), if_neg (by simpa using hl)]; exact if_pos hd
end
theorem sy_bd2 {ls : List Int} {O : List Nat} {C : List Int} (ho : Ordd ls O C) : ∀ x ∈ sy O, 0 ≤ x ∧ x ≤ 511 := by
  intro x hx
  obtain ⟨s, hs, rfl⟩ := List.mem_map.1 hx
  have := (ho.mem s hs).1
  have := ho.lls
  omega
theorem errE_nil2 : errE 0 = .nilIface := rfl
theorem errE_ne2 {n : Int} (h : n ≠ 0) : errE n = errV n := if_neg h
/-- Take of the bits' reader -/
theorem rtk_ok {w : World} {p : Nat} {A : Option Addr} {c m : Nat} {B : List Int} (x : Re w p true A c B m) (hm : B.length ≤ 68719476736) (n : Nat) (hn : n ≤ 15) (hl : ¬ 8 * B.length < m + n) :
    Calls Try.prog 111 #[.pointer (some ⟨p, 0, none⟩), .int .i64 n] w fun e w' => e = .returned (.tuple #[.int .i64 (hv (((bitsOf true B).drop m).take n)), .nilIface]) ∧ Re w' p true A c B (m + n) ∧ Fp p w w' := by
  have hnl := nxt_len true B m n (by omega)
  refine (take_any x hm n (by omega) (by omega)).mono ?_
  rintro e w' ⟨rfl, h2, h3⟩
  exact ⟨by rw [part_hv n _ hnl]; rfl, h2, h3⟩
def RdDP (R : Int × Nat × Int) (rp : Nat) (A : Option Addr) (c : Nat) (Bs : List Int) (m : Nat) (w : World) (e : Ending) (w' : World) : Prop :=
  ∃ m', e = .returned (.tuple #[.int .i64 R.1, errE R.2.2]) ∧ Re w' rp true A c Bs m' ∧ (R.2.2 = 0 → m' = m + R.2.1) ∧ Fp rp w w'
def ErrDP (w : World) (e : Ending) (w' : World) : Prop := e = .returned (.tuple #[.int .i64 0, errV 6]) ∧ Below w.heap.size w w'
theorem two_int (H : Nat) (hH : H ≤ 10) : 1 ≤ (2 : Int) ^ H ∧ (2 : Int) ^ H ≤ 1024 := by
  have h1 := two_pos H
  have h2 : 2 ^ H ≤ 2 ^ 10 := Nat.pow_le_pow_right (by omega) hH
  have h3 := two_cast H
  rw [show 2 ^ 10 = 1024 from rfl] at h2
  omega
set_option maxHeartbeats 8000000 in
theorem preadDC_err (vb vr : Value) (n a f t h l : Int) (hn : -9223372036854775808 ≤ n ∧ n ≤ 9223372036854775807) (hno : ¬ (DcOk f t h l n a ∧ (0 < h → n % 2 ^ h.toNat = 0))) (w : World) :
    Calls Try.prog 90 #[vb, vr, .int .i64 n, .int .i64 a, .agg #[.int .i64 f, .int .i64 t, .int .i64 h, .int .i64 l]] w (ErrDP w) := by
  have X := Box4.new w 107 (.int .i64 f) (.int .i64 t) (.int .i64 h) (.int .i64 l)
  have hb0 : Below w.heap.size w (w.alloc (.cells #[.int .i64 f, .int .i64 t, .int .i64 h, .int .i64 l] 107)) := (Below.refl _ _).alloc (Nat.le_refl _) _
  have HNO := Lib.hid hno
  go_enter Try.func90, Try.ntmps90
  go_upto_region 1 with fail
  generalize w.alloc (.cells #[.int .i64 f, .int .i64 t, .int .i64 h, .int .i64 l] 107) = w0 at *
  obtain ⟨_, x0, x1, x2, x3⟩ := id X
  go_wp2_with fail
  refine (ofdc_any f t h l n a w0).mono ?_; rintro e w1 ⟨rfl, hb1⟩
  have X1 := X.below hb1 X.lt
  have hb1' := hb0.trans (hb1.mono hb0.size)
  clear x0 x1 x2 x3 X
  obtain ⟨_, x0, x1, x2, x3⟩ := id X1
  by_cases hok : DcOk f t h l n a
  · have HOK := Lib.hid hok
    rw [decide_eq_true hok]
    have hh : 0 < h := Classical.byContradiction fun hh => hno ⟨hok, fun h0 => absurd h0 hh⟩
    have hmod : n % 2 ^ h.toNat ≠ 0 := fun e => hno ⟨hok, fun _ => e⟩
    have hh10 : h ≤ 10 := by have := hok.1; unfold Gd at this; omega
    obtain ⟨H, rfl⟩ := Int.eq_ofNat_of_zero_le (show 0 ≤ h by omega)
    rw [Int.toNat_natCast] at hmod
    have dh : decide (0 < (H : Int)) = true := decide_eq_true hh
    have hp := two_int H (by omega)
    have hmk : bits BinOp.and IntKind.i64 n ((2 : Int) ^ H - 1) = n % 2 ^ H := i64_mask H (by omega) n
    have dm : (n % (2 : Int) ^ H != 0) = true := by simp; exact hmod
    clear hok hno hmod
    go_wp2_with fail
    refine (finer_any f t H l w1).mono ?_; rintro e w2 ⟨rfl, hb2⟩
    have X2 := X1.below hb2 X1.lt
    have hb2' := hb1'.trans (hb2.mono hb1'.size)
    clear x0 x1 x2 x3 X1
    obtain ⟨_, x0, x1, x2, x3⟩ := id X2
    go_wp2
    go_ret2
    exact ⟨rfl, hb2'⟩
  · rw [decide_eq_false hok]
    clear hok hno
    go_wp2
    go_ret2
    exact ⟨rfl, hb1'⟩
set_option maxHeartbeats 16000000 in
theorem preadDC_any {ls : List Int} {O : List Nat} {C : List Int} {w : World} {B p1 rp : Nat} {A : Option Addr} {c m : Nat} {Bs : List Int} (hK : BkS w B p1 ls O C) (ho : Ordd ls O C) (hBr : B ≤ rp) (x : Re w rp true A c Bs m) (hm : Bs.length ≤ 68719476736)
    (n a f t h l : Int) (hok : DcOk f t h l n a) (hmod : 0 < h → n % 2 ^ h.toNat = 0) {R : Int × Nat × Int} (hR : rdD (sy O) (sz ls O) ((bitsOf true Bs).drop m) n a h l = R) :
    Calls Try.prog 90 #[.pointer (some ⟨p1, 0, none⟩), .pointer (some ⟨rp, 0, none⟩), .int .i64 n, .int .i64 a, .agg #[.int .i64 f, .int .i64 t, .int .i64 h, .int .i64 l]] w (RdDP R rp A c Bs m w) := by
  have X := Box4.new w 107 (.int .i64 f) (.int .i64 t) (.int .i64 h) (.int .i64 l)
  have hb0 : Below w.heap.size w (w.alloc (.cells #[.int .i64 f, .int .i64 t, .int .i64 h, .int .i64 l] 107)) := (Below.refl _ _).alloc (Nat.le_refl _) _
  have hrp := x.lt
  have HOK := Lib.hid hok
  have HMD := Lib.hid hmod
  have HO := Lib.hid ho
  have HR := Lib.hid hR
  have hgd := hok.1
  have hll : 0 ≤ l ∧ l ≤ 9 ∧ 0 ≤ h ∧ h ≤ 10 := by unfold Gd at hgd; omega
  obtain ⟨H, rfl⟩ := Int.eq_ofNat_of_zero_le hll.2.2.1
  obtain ⟨L, rfl⟩ := Int.eq_ofNat_of_zero_le hll.1
  have hn1 := hok.2.2.1.1
  have hn2 := hok.2.2.1.2
  have ha1 := hok.2.2.2.1
  have ha2 := hok.2.2.2.2
  have hpL := two_int L (by omega)
  have hdk := decide_eq_true hok
  have HDK := Lib.hid hdk
  clear hok hmod ho hR hgd hdk
  go_enter Try.func90, Try.ntmps90
  go_upto_region 1 with fail
  generalize w.alloc (.cells #[.int .i64 f, .int .i64 t, .int .i64 (H : Int), .int .i64 (L : Int)] 107) = w0 at *
  obtain ⟨_, x0, x1, x2, x3⟩ := id X
  go_wp2_with fail
  refine (ofdc_any f t H L n a w0).mono ?_; rintro e w1 ⟨rfl, hb1⟩
  rw [HDK.out]
  have X1 := X.below hb1 X.lt
  have hb1' := hb0.trans (hb1.mono hb0.size)
  clear x0 x1 x2 x3 X
  obtain ⟨_, x0, x1, x2, x3⟩ := id X1
  by_cases hh : 0 < H
  · have dh : decide (0 < (H : Int)) = true := decide_eq_true (by omega)
    have hp := two_int H (by omega)
    have hmk : bits BinOp.and IntKind.i64 n ((2 : Int) ^ H - 1) = n % 2 ^ H := i64_mask H (by omega) n
    have hm0 : n % (2 : Int) ^ H = 0 := by have := HMD.out (by omega); rwa [Int.toNat_natCast] at this
    have dm : (n % (2 : Int) ^ H != 0) = false := by simp; exact hm0
    clear hm0
    go_wp2_with fail
    refine (finer_any f t H L w1).mono ?_; rintro e w2 ⟨rfl, hb2⟩
    have X2 := X1.below hb2 X1.lt
    have hb2' := hb1'.trans (hb2.mono hb1'.size)
    clear x0 x1 x2 x3 X1
    obtain ⟨_, x0, x1, x2, x3⟩ := id X2
    go_wp2_with fail
    refine (finer_any f t H L w2).mono ?_; rintro e w3 ⟨rfl, hb3⟩
    have X3 := X2.below hb3 X2.lt
    have hb3' := hb2'.trans (hb3.mono hb2'.size)
    have hx3 := x.below hb3'
    clear x0 x1 x2 x3 X2
    by_cases hl : 8 * Bs.length < m + 1
    · go_wp2_with fail
      refine (take_end hx3 hm 1 (by omega) (by omega)).mono ?_; rintro e w4 ⟨rfl, hb4⟩
      have hRR : R = (0, 0, 8) := by
        rw [← HR.out]
        unfold rdD
        rw [if_pos (by omega), if_pos (by rw [List.length_drop, bitsOf_len]; omega)]
      have HRR := Lib.hid hRR
      have hb4' := hb3'.trans (hb4.mono hb3'.size)
      have hx4 := x.below hb4'
      clear hRR
      unfold errV
      go_wp2
      go_ret2
      exact ⟨m, by rw [HRR.out]; rfl, hx4, fun h => (by rw [HRR.out] at h; cases h), Fp.of_below hb4'⟩
    · have htk := rtk_ok hx3 hm 1 (by omega) hl
      have hbit : hv (((bitsOf true Bs).drop m).take 1) = 0 ∨ hv (((bitsOf true Bs).drop m).take 1) = 1 := by
        have h1 := hv_bd ((bitsOf_01 true Bs).drop m |>.take 1)
        have h2 : (((bitsOf true Bs).drop m).take 1).length ≤ 1 := List.length_take_le _ _
        have h3 : (2 : Int) ^ (((bitsOf true Bs).drop m).take 1).length ≤ 2 := by
          rcases Nat.lt_or_ge (((bitsOf true Bs).drop m).take 1).length 1 with h | h
          · rw [show (((bitsOf true Bs).drop m).take 1).length = 0 by omega]; decide
          · rw [show (((bitsOf true Bs).drop m).take 1).length = 1 by omega]; decide
        omega
      have hRR : R = (n + hv (((bitsOf true Bs).drop m).take 1) * 2 ^ L, 1, 0) := by
        rw [← HR.out]
        unfold rdD
        rw [if_pos (by omega), if_neg (by rw [List.length_drop, bitsOf_len]; omega), Int.toNat_natCast]
      have HRR := Lib.hid hRR
      have HTK := Lib.hid htk
      generalize hv (((bitsOf true Bs).drop m).take 1) = bt at *
      have hbb : bt * (2 : Int) ^ L = 0 ∨ bt * (2 : Int) ^ L = 2 ^ L := by
        rcases hbit with h | h
        · left; rw [h, Int.zero_mul]
        · right; rw [h, Int.one_mul]
      have hw1 : IntKind.i64.wrap (bt * (2 : Int) ^ L) = bt * 2 ^ L := IntWalk.i64_in _ (by omega)
      clear hRR htk
      obtain ⟨_, x0, x1, x2, x3⟩ := id X3
      go_wp2_with fail
      refine HTK.out.mono ?_; rintro e w4 ⟨rfl, hx4, hf4⟩
      have hne : w.heap.size ≠ rp := by omega
      have y3 := (hf4.cell (p := ⟨w.heap.size, 3, none⟩) X3.lt hne).trans x3
      have hf4' := (Fp.of_below (p := rp) hb3').trans hf4
      clear x0 x1 x2 x3
      go_wp2
      go_ret2
      exact ⟨m + 1, by rw [HRR.out]; rfl, hx4, fun _ => by rw [HRR.out], hf4'⟩
  · obtain rfl : H = 0 := by omega
    have dh : decide (0 < ((0 : Nat) : Int)) = false := rfl
    rw [show (((0 : Nat) : Int)) = 0 from rfl] at *
    go_wp2_with fail
    refine (finer_any f t 0 L w1).mono ?_; rintro e w2 ⟨rfl, hb2⟩
    have X2 := X1.below hb2 X1.lt
    have hb2' := hb1'.trans (hb2.mono hb1'.size)
    clear x0 x1 x2 x3 X1
    obtain ⟨_, x0, x1, x2, x3⟩ := id X2
    go_wp2_with fail
    refine (finer_any f t 0 L w2).mono ?_; rintro e w3 ⟨rfl, hb3⟩
    have X3 := X2.below hb3 X2.lt
    have hb3' := hb2'.trans (hb3.mono hb2'.size)
    have hx3 := x.below hb3'
    have hK3 := hK.keep (hb3'.mono hK.size)
    clear x0 x1 x2 x3 X2
    go_wp2_with fail
    refine (read_any hK3 HO.out hBr hx3 hm).mono ?_; rintro e w4 ⟨sym, k, er, hr, rfl, hx4, hf4⟩
    obtain ⟨b, hb⟩ : ∃ b, b = (bitsOf true Bs).drop m := ⟨_, rfl⟩
    rw [← hb] at hr HR
    have HB := Lib.hid hb
    have hB01 : B01 b := by rw [hb]; exact (bitsOf_01 _ _).drop _
    have hbl : b.length = 8 * Bs.length - m := by rw [hb, List.length_drop, bitsOf_len]
    obtain ⟨s, rfl⟩ := Int.eq_ofNat_of_zero_le (hr.sy_bd (sy_bd2 HO.out)).1
    have hs511 := (hr.sy_bd (sy_bd2 HO.out)).2
    have HF := Lib.hid (rdF_eq HO.out.zs hB01 hr)
    have hkb := hr.bd
    have hne : w.heap.size ≠ rp := by omega
    have hf4' := (Fp.of_below (p := rp) hb3').trans hf4
    have y3 := (hf4.cell (p := ⟨w.heap.size, 3, none⟩) X3.lt hne).trans X3.c3
    have hle := x.le
    clear hr hb hB01 X3
    by_cases he : er = 0
    · subst he
      rw [errE_nil2]
      by_cases h11 : 11 < s
      · have d1 : decide ((11 : Int) < (s : Int)) = true := decide_eq_true (by omega)
        have hRR : R = (0, 0, 2) := by rw [← HR.out]; exact rdD_big (by omega) HF.out h11
        have HRR := Lib.hid hRR
        clear hRR
        go_wp2
        go_ret2
        exact ⟨m + k, by rw [HRR.out]; rfl, hx4, fun h => (by rw [HRR.out] at h; cases h), hf4'⟩
      · have d1 : decide ((11 : Int) < (s : Int)) = false := decide_eq_false (by omega)
        by_cases hl : 8 * Bs.length < m + k + s
        · have hRR : R = (0, 0, 8) := by rw [← HR.out]; exact rdD_few (by omega) HF.out h11 (by omega)
          have HRR := Lib.hid hRR
          clear hRR
          go_wp2_with fail
          refine (take_end hx4 hm s (by omega) (by omega)).mono ?_; rintro e w5 ⟨rfl, hb5⟩
          have hx5 := hx4.below hb5
          have hf5 := hf4'.trans (Fp.of_below (p := rp) hb5)
          unfold errV
          go_wp2
          go_ret2
          exact ⟨m + k, by rw [HRR.out]; rfl, hx5, fun h => (by rw [HRR.out] at h; cases h), hf5⟩
        · have htk := rtk_ok hx4 hm s (by omega) hl
          have hdd : ((bitsOf true Bs).drop (m + k)).take s = (b.drop k).take s := by rw [HB.out, List.drop_drop]
          rw [hdd] at htk
          have hhv := hv_bd (((bitsOf_01 true Bs).drop (m + k)).take s)
          rw [hdd] at hhv
          have hsl : ((b.drop k).take s).length ≤ 11 := by have := List.length_take_le s (b.drop k); omega
          have hp11 : (2 : Int) ^ ((b.drop k).take s).length ≤ 2048 := by
            have h2 := Nat.pow_le_pow_right (show 0 < 2 by omega) hsl
            have h3 := two_cast ((b.drop k).take s).length
            rw [show 2 ^ 11 = 2048 from rfl] at h2
            omega
          have hva := vaN_bd (hv ((b.drop k).take s)) s (by omega)
          have hHT := Lib.hid htk
          have hta := tl_bd (n := a) (L : Int) ha1 ha2 true
          have HGO := Lib.hid (@rdD_go (sy O) (sz ls O) b n a 0 (L : Int) s k (by omega) HF.out h11 (by omega) _ rfl)
          have HOUT := Lib.hid (@rdD_out (sy O) (sz ls O) b n a 0 (L : Int) s k (by omega) HF.out h11 (by omega) _ rfl)
          rw [Int.toNat_natCast] at HGO HOUT
          generalize hv ((b.drop k).take s) = y at *
          have hval := fun W => value_any y (s : Int) (by omega) W
          have HVAL := Lib.hid hval
          obtain ⟨va, hvq⟩ : ∃ va, va = vaZ y (s : Int) := ⟨_, rfl⟩
          obtain ⟨u, huq⟩ : ∃ u, u = tl a (L : Int) true := ⟨_, rfl⟩
          rw [← hvq] at hva HVAL HGO HOUT
          rw [← huq] at hta HGO HOUT
          have HUQ := Lib.hid huq
          have hmul : -17825792 * 2 ≤ (u + va) * (2 : Int) ^ L ∧ (u + va) * (2 : Int) ^ L ≤ 17825792 * 2 := by
            generalize (2 : Int) ^ L = P at *
            have q1 : (u + va) * P ≤ 33791 * P := Int.mul_le_mul_of_nonneg_right (by omega) (by omega)
            have q2 : -33792 * P ≤ (u + va) * P := Int.mul_le_mul_of_nonneg_right (by omega) (by omega)
            omega
          have hw1 : wrap64 (u + va) = u + va := by unfold wrap64; omega
          have hw2 : wrap64 ((u + va) * (2 : Int) ^ L) = (u + va) * 2 ^ L := by unfold wrap64; omega
          obtain ⟨o, hoq⟩ : ∃ o, o = (u + va) * (2 : Int) ^ L := ⟨_, rfl⟩
          rw [← hoq] at HGO HOUT
          replace hw2 : wrap64 ((u + va) * (2 : Int) ^ L) = o := hw2.trans hoq.symm
          have HOQ := Lib.hid hoq
          clear htk hdd hhv hsl hp11 hval hvq huq hoq
          go_wp2_with fail
          refine hHT.out.mono ?_; rintro e w5 ⟨rfl, hx5, hf5⟩
          have hf5' := hf4'.trans hf5
          have z3 := (hf5.cell (p := ⟨w.heap.size, 3, none⟩) (World.block_lt_of_cell? _ _ y3) hne).trans y3
          clear y3 hx4
          go_upto_region 16 with fail
          go_quiet ((first | (go_at_call 96; exact quiet_l (tell_any _ (L : Int) true (by omega) _)) | (go_at_call 40; exact quiet_l (HVAL.out _))))
          rw [← HUQ.out, hw1, hw2]
          have hx6 := hx5.drewN nq
          have hf6 := hf5'.trans ((Fp.refl rp w5).drewN nq)
          clear z3 hw1 hw2
          generalize w5.drewN nq = w6 at *
          by_cases hd : DcB o
          · have HD := Lib.hid (decide_eq_true hd)
            have hRR : R = (o, k + s, 0) := by rw [← HR.out]; exact HGO.out hd
            have HRR := Lib.hid hRR
            clear hRR hd
            go_wp2_with (go_at_call 130; refine (pdcIn_any _ _).mono ?_; rintro e w' ⟨rfl, rfl⟩; rw [HD.out])
            go_ret2
            exact ⟨m + k + s, by rw [HRR.out]; rfl, hx6, fun _ => by rw [HRR.out]; exact Nat.add_assoc m k s, hf6⟩
          · have HD := Lib.hid (decide_eq_false hd)
            have hRR : R = (0, 0, 2) := by rw [← HR.out]; exact HOUT.out hd
            have HRR := Lib.hid hRR
            clear hRR hd
            go_wp2_with (go_at_call 130; refine (pdcIn_any _ _).mono ?_; rintro e w' ⟨rfl, rfl⟩; rw [HD.out])
            go_ret2
            exact ⟨m + k + s, by rw [HRR.out]; rfl, hx6, fun h => (by rw [HRR.out] at h; cases h), hf6⟩
    · have hne2 := errE_ne2 he
      have hRR : R = (0, 0, er) := by rw [← HR.out]; exact rdD_bad (by omega) HF.out he
      have HRR := Lib.hid hRR
      have HNE := Lib.hid hne2
      have HE := Lib.hid he
      rw [hne2]
      unfold errV
      clear hRR hne2 he
      go_wp2
      go_ret2
      exact ⟨m + k, by rw [HRR.out, HNE.out]; rfl, hx4, fun h => (by rw [HRR.out] at h; exact absurd h HE.out), hf4'⟩
end Go.Proofs.Ytlhappecjjbopaa
