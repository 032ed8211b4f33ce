/-
  Prog: the document's dc that is read, by a contract. No condition beyond the ranges that each names.
-/
import Derived.Test.YtlhappecjjbopaaPrP
import Derived.Test.YtlhappecjjbopaaPrM
import Derived.Test.YtlhappecjjbopaaScB
namespace Go.Proofs.Ytlhappecjjbopaa
open Go.RowKit
set_option linter.unusedVariables false
set_option maxRecDepth 100000

theorem Inn.new_ {w : World} {v0 : Value} {A : Option Addr} {c : Nat} {L : List Int} (hR : Rd w w.heap.size A (iv L)) (hA : ∀ q, A = some q → q.block < w.heap.size) (hc : L.length ≤ c ∧ c ≤ 9223372036854775807 ∧ L.length ≤ 100000) :
    Inn (w.alloc (.cells #[v0, .slice A L.length c, .int .i64 0, .int .i64 0, .int .i64 0] 175)) w.heap.size v0 A c L 0 0 0 := by
  have hb : Below w.heap.size w (w.alloc (.cells #[v0, .slice A L.length c, .int .i64 0, .int .i64 0, .int .i64 0] 175)) := (Below.refl _ _).alloc (Nat.le_refl _) _
  exact ⟨Bln.new w _ _, (hR.below hb).more hb.size, fun q hq e => by have := hA q hq; omega, Nat.zero_le _, hc⟩
theorem rdF_sy {S Z : List Int} (hS : ∀ x ∈ S, 0 ≤ x ∧ x ≤ 511) (l : List Int) : 0 ≤ (rdF S Z l).1 ∧ (rdF S Z l).1 ≤ 511 ∧ (rdF S Z l).2.1 ≤ l.length := by
  unfold rdF
  split
  · rename_i h
    have h1 := (Classical.choose_spec h).sy_bd hS
    exact ⟨h1.1, h1.2, (Classical.choose_spec h).bd.1⟩
  · exact ⟨by decide, by decide, Nat.zero_le _⟩
def RrdP (R : Int × Nat × Int) (w : World) (e : Ending) (w' : World) : Prop := e = .returned (.tuple #[.int .i64 R.1, .int .i64 (R.2.1 : Nat), .int .i64 R.2.2]) ∧ Below w.heap.size w w'
theorem bit_hv (L : List Int) (hB : B01 L) : hv (L.take 1) = 0 ∨ hv (L.take 1) = 1 := by
  have h1 := hv_bd (hB.take 1)
  have h2 : (L.take 1).length ≤ 1 := List.length_take_le _ _
  have h3 : (2 : Int) ^ (L.take 1).length ≤ 2 := by
    rcases Nat.lt_or_ge (L.take 1).length 1 with h | h
    · rw [show (L.take 1).length = 0 by omega]; decide
    · rw [show (L.take 1).length = 1 by omega]; decide
  omega
theorem keep_fp {W w5 : World} {p b o : Nat} {x : Value} (hf : Fp p W w5) (hne : b ≠ p) (h : W.cell? ⟨b, o, none⟩ = some x) : w5.cell? ⟨b, o, none⟩ = some x := (hf.cell (p := ⟨b, o, none⟩) (World.block_lt_of_cell? W _ h) hne).trans h
set_option maxHeartbeats 16000000 in
theorem rreadDC_any {A1 A : Option Addr} {n1 c1 c K : Nat} {S Z L : List Int} {w : World} (hS : Cs w K A1 S Z) (hz : Zs Z) (hn : Z.length = n1) (hm : n1 ≤ 100000) (hSy : ∀ x ∈ S, 0 ≤ x ∧ x ≤ 511) (hB : B01 L) (hR0 : Rd w w.heap.size A (iv L)) (hA : ∀ q, A = some q → q.block < w.heap.size) (hc : L.length ≤ c ∧ c ≤ 9223372036854775807 ∧ L.length ≤ 100000)
    (n a f t h l : Int) (hok : DcOk f t h l n a) {R : Int × Nat × Int} (hR : rdD S Z L n a h l = R) :
    Calls Try.prog 92 #[.slice A1 n1 c1, .slice A L.length c, .int .i64 n, .int .i64 a, .agg #[.int .i64 f, .int .i64 t, .int .i64 h, .int .i64 l]] w (RrdP R w) := by
  have X := Box4.new w 33 (.int .i64 f) (.int .i64 t) (.int .i64 h) (.int .i64 l)
  have hb0 : Below w.heap.size w (w.alloc (.cells #[.int .i64 f, .int .i64 t, .int .i64 h, .int .i64 l] 33)) := (Below.refl _ _).alloc (Nat.le_refl _) _
  have HOK := Lib.hid hok
  have HR := Lib.hid hR
  have hgd := hok.1
  have hll : 0 ≤ l ∧ l ≤ 9 ∧ 0 ≤ h ∧ h ≤ 10 := by unfold Gd at hgd; omega
  obtain ⟨H, rfl⟩ := Int.eq_ofNat_of_zero_le hll.2.2.1
  obtain ⟨l0, rfl⟩ := Int.eq_ofNat_of_zero_le hll.1
  have hn1 := hok.2.2.1.1
  have hn2 := hok.2.2.1.2
  have ha1 := hok.2.2.2.1
  have ha2 := hok.2.2.2.2
  have hpL := two_int l0 (by omega)
  clear hok hR hgd
  go_enter Try.func92, Try.ntmps92
  go_upto_region 1 with fail
  have hsz : (w.alloc (.cells #[.int .i64 f, .int .i64 t, .int .i64 (H : Int), .int .i64 (l0 : Int)] 33)).heap.size = w.heap.size + 1 := by simp
  have I0 := Inn.new_ (w := w.alloc (.cells #[.int .i64 f, .int .i64 t, .int .i64 (H : Int), .int .i64 (l0 : Int)] 33)) (v0 := .slice A1 n1 c1) ((hR0.below hb0).more hb0.size) (fun q hq => by have := hA q hq; omega) hc
  have hS0 := hS.keep (hb0.mono hS.size)
  generalize w.alloc (.cells #[.int .i64 f, .int .i64 t, .int .i64 (H : Int), .int .i64 (l0 : Int)] 33) = w0 at *
  have hba : Below w0.heap.size w0 (w0.alloc (.cells #[.slice A1 n1 c1, .slice A L.length c, .int .i64 0, .int .i64 0, .int .i64 0] 175)) := (Below.refl _ _).alloc (Nat.le_refl _) _
  have X0 := X.below hba X.lt
  have hb1 := hb0.trans (hba.mono (by omega))
  have hS1 := hS0.keep (hba.mono hS0.size)
  go_upto_region 2 with fail
  generalize w0.alloc (.cells #[.slice A1 n1 c1, .slice A L.length c, .int .i64 0, .int .i64 0, .int .i64 0] 175) = w1 at *
  rw [hsz] at I0
  obtain ⟨_, x0, x1, x2, x3⟩ := id X0
  clear hba hb0 hS0 hS hR0 hA X
  by_cases hh : 0 < H
  · have dh : decide (0 < (H : Int)) = true := decide_eq_true (by omega)
    have x3d : w1.drew.cell? ⟨w.heap.size, 3, none⟩ = some (.int .i64 (l0 : Int)) := x3
    have Id := I0.drewN 0
    go_upto_region 3 with fail
    by_cases hl : L.length < 1
    · have hRR : R = (0, 0, 8) := by
        rw [← HR.out]; unfold rdD
        rw [if_pos (by omega), if_pos hl]
      have HRR := Lib.hid hRR
      have I1 : Inn w1.drew (w.heap.size + 1) (.slice A1 n1 c1) A c L 0 0 0 := I0.keep (S := fun _ => False) ((Fr.refl _ w1).drew) (fun f => f) (fun _ _ f => f)
      have ht := itake_few I1 1 (by omega) (by omega)
      clear hRR
      go_region_held3 (fun w' => w'.cell? ⟨w.heap.size, 3, none⟩ = some (.int .i64 (l0 : Int)))
        (first | go_keep | exact keep_fp hf2 (by omega) (by assumption))
        (first | (go_at_call 131; refine ht.mono ?_; rintro e2 w2 ⟨rfl, I2, hf2⟩) | (go_at_call 122; refine (power22_any l0 (by omega) _).mono ?_; rintro e w' ⟨rfl, rfl⟩))
      have hf2' : Fp (w.heap.size + 1) w1 w2 := ((Fr.refl _ w1).drew).trans hf2
      have hb2 := hb1.trans (hf2'.below (B := w.heap.size) (by omega) (by have := hb1.size; omega))
      have b3 := I2.c3
      have d8 : ((8 : Int) == 0) = false := rfl
      have HI := Lib.hid I2
      clear x0 x1 x2 x3 x3d Id I0 I1 ht I2
      go_upto_region 5 with fail
      go_quiet (fail)
      go_wp2
      go_ret3
      exact ⟨by rw [HRR.out]; rfl, below_drewN hb2 nq⟩
    · have hbit := bit_hv L hB
      have hRR : R = (n + hv (L.take 1) * 2 ^ l0, 1, 0) := by
        rw [← HR.out]; unfold rdD
        rw [if_pos (by omega), if_neg hl, Int.toNat_natCast]
      have HRR := Lib.hid hRR
      have I1 : Inn w1.drew (w.heap.size + 1) (.slice A1 n1 c1) A c L 0 0 0 := I0.keep (S := fun _ => False) ((Fr.refl _ w1).drew) (fun f => f) (fun _ _ f => f)
      have ht := itake_ok I1 hB 1 (by omega) (by omega)
      rw [List.drop_zero] at ht
      generalize hv (L.take 1) = bt at *
      have hbb : bt * (2 : Int) ^ l0 = 0 ∨ bt * (2 : Int) ^ l0 = 2 ^ l0 := by
        rcases hbit with h | h
        · left; rw [h, Int.zero_mul]
        · right; rw [h, Int.one_mul]
      have hw1 : IntKind.i64.wrap (bt * (2 : Int) ^ l0) = bt * 2 ^ l0 := IntWalk.i64_in _ (by omega)
      have hw2 : IntKind.i64.wrap (n + bt * (2 : Int) ^ l0) = n + bt * 2 ^ l0 := IntWalk.i64_in _ (by omega)
      clear hRR
      go_region_held3 (fun w' => w'.cell? ⟨w.heap.size, 3, none⟩ = some (.int .i64 (l0 : Int)))
        (first | go_keep | exact keep_fp hf2 (by omega) (by assumption))
        (first | (go_at_call 131; refine ht.mono ?_; rintro e2 w2 ⟨rfl, I2, hf2⟩) | (go_at_call 122; refine (power22_any l0 (by omega) _).mono ?_; rintro e w' ⟨rfl, rfl⟩))
      have hf2' : Fp (w.heap.size + 1) w1 w2 := ((Fr.refl _ w1).drew).trans hf2
      have hb2 := hb1.trans (hf2'.below (B := w.heap.size) (by omega) (by have := hb1.size; omega))
      have b3 := I2.c3
      have b2 := I2.c2
      have HI := Lib.hid I2
      clear x0 x1 x2 x3 x3d Id I0 I1 ht I2
      go_upto_region 6 with fail
      go_quiet (fail)
      go_wp2
      go_ret3
      exact ⟨by rw [HRR.out]; rfl, below_drewN hb2 nq⟩
  · obtain rfl : H = 0 := by omega
    rw [show (((0 : Nat) : Int)) = 0 from rfl] at *
    obtain ⟨si, k, er, hF⟩ : ∃ si k er, rdF S Z L = (si, k, er) := ⟨_, _, _, rfl⟩
    have hsy := rdF_sy (Z := Z) hSy L
    rw [hF] at hsy
    simp only at hsy
    obtain ⟨s, rfl⟩ := Int.eq_ofNat_of_zero_le hsy.1
    have HF := Lib.hid hF
    have hkl := hsy.2.2
    have hs511 := hsy.2.1
    have hF0 : rdF S Z (L.drop 0) = ((s : Int), k, er) := hF
    clear hF hsy
    go_wp2_with fail
    refine (isym_any I0 hB hS1 hz hn hm hF0).mono ?_; rintro e w2 ⟨rfl, I2, hf2⟩
    rw [Nat.zero_add] at I2
    have hb2 := hb1.trans (hf2.below (B := w.heap.size) (by omega) (by have := hb1.size; omega))
    have y3 := keep_fp hf2 (show w.heap.size ≠ w.heap.size + 1 by omega) x3
    clear x0 x1 x2 x3 I0 hF0
    by_cases he : er = 0
    · subst he
      rw [if_pos rfl]
      by_cases h11 : 11 < s
      · have d1 : decide ((11 : Int) < (s : Int)) = true := decide_eq_true (by omega)
        have hRR : R = (0, 0, 2) := by rw [← HR.out]; exact rdD_big (by omega) HF.out h11
        have HRR := Lib.hid hRR
        clear hRR
        go_wp2_with fail
        refine (ifail_any I2).mono ?_; rintro e w3 ⟨rfl, I3, hf3⟩
        rw [if_pos rfl] at I3
        have hb3 := hb2.trans (hf3.below (B := w.heap.size) (by omega) (by have := hb2.size; omega))
        have b3 := I3.c3
        clear I2 y3
        go_upto_region 11 with fail
        go_quiet (fail)
        go_wp2
        go_ret3
        exact ⟨by rw [HRR.out]; rfl, below_drewN hb3 nq⟩
      · have d1 : decide ((11 : Int) < (s : Int)) = false := decide_eq_false (by omega)
        have b3 := I2.c3
        have hva0 := vaN_bd 0 s (by omega)
        have hta := tl_bd (n := a) (l0 : Int) ha1 ha2 true
        have HRT := Lib.hid (fun W : World => rtell_any a (l0 : Int) true (by omega) W)
        obtain ⟨u, huq⟩ : ∃ u, u = tl a (l0 : Int) true := ⟨_, rfl⟩
        have HUQ := Lib.hid huq
        have hub : -1024 ≤ u ∧ u ≤ 1023 := by omega
        have hmulq : ∀ v : Int, -32768 ≤ v ∧ v ≤ 32768 → -35651584 ≤ (u + v) * (2 : Int) ^ l0 ∧ (u + v) * (2 : Int) ^ l0 ≤ 35651584 := fun v hv => by
          generalize (2 : Int) ^ l0 = P at *
          have q1 : (u + v) * P ≤ 33791 * P := Int.mul_le_mul_of_nonneg_right (by omega) (by omega)
          have q2 : -33792 * P ≤ (u + v) * P := Int.mul_le_mul_of_nonneg_right (by omega) (by omega)
          omega
        by_cases hl : L.length < k + s
        · have hRR : R = (0, 0, 8) := by rw [← HR.out]; exact rdD_few (by omega) HF.out h11 (by omega)
          have HRR := Lib.hid hRR
          clear hRR
          go_wp2_with fail
          refine (itake_few I2 s (by omega) (by omega)).mono ?_; rintro e w3 ⟨rfl, I3, hf3⟩
          have hb3 := hb2.trans (hf3.below (B := w.heap.size) (by omega) (by have := hb2.size; omega))
          have z3 := keep_fp hf3 (show w.heap.size ≠ w.heap.size + 1 by omega) y3
          clear I2 y3 b3
          go_wp2_with fail
          refine (rvalue_any 0 (s : Int) w3).mono ?_; rintro e w' ⟨rfl, rfl⟩
          obtain ⟨va, hvq⟩ : ∃ va, va = vaZ 0 (s : Int) := ⟨_, rfl⟩
          rw [← hvq] at hva0 ⊢
          have hm2 := hmulq va hva0
          have hw1 : wrap64 (u + va) = u + va := IntWalk.wrap64_in _ (by omega)
          have hw2 : wrap64 ((u + va) * (2 : Int) ^ l0) = (u + va) * 2 ^ l0 := IntWalk.wrap64_in _ (by omega)
          go_upto_region 13 with fail
          go_quiet ((first | (go_at_call 91; exact quiet_l (HRT.out _)) | (go_at_call 122; exact quiet_l (power22_any l0 (by omega) _))))
          rw [← HUQ.out]
          have I4 := I3.drewN nq
          have hb4 := below_drewN hb3 nq
          clear I3 z3 hb3
          generalize w3.drewN nq = w4 at *
          have b3 := I4.c3
          go_upto_region 17 with fail
          go_quiet (fail)
          go_wp2
          go_ret3
          exact ⟨by rw [HRR.out]; rfl, below_drewN hb4 nq⟩
        · have hhv := hv_bd ((hB.drop k).take s)
          have hsl : ((L.drop k).take s).length ≤ 11 := by have := List.length_take_le s (L.drop k); omega
          have hp11 : (2 : Int) ^ ((L.drop k).take s).length ≤ 2048 := by
            have h2 := Nat.pow_le_pow_right (show 0 < 2 by omega) hsl
            have h3 := two_cast ((L.drop k).take s).length
            rw [show 2 ^ 11 = 2048 from rfl] at h2
            omega
          have hva := vaN_bd (hv ((L.drop k).take s)) s (by omega)
          have HGO := Lib.hid (@rdD_go S Z L n a 0 (l0 : Int) s k (by omega) HF.out h11 (by omega) _ rfl)
          have HOUT := Lib.hid (@rdD_out S Z L n a 0 (l0 : Int) s k (by omega) HF.out h11 (by omega) _ rfl)
          rw [Int.toNat_natCast] at HGO HOUT
          have htk := itake_ok I2 hB s (by omega) (by omega)
          generalize hv ((L.drop k).take s) = y at *
          obtain ⟨va, hvq⟩ : ∃ va, va = vaZ y (s : Int) := ⟨_, rfl⟩
          rw [← hvq] at hva HGO HOUT
          rw [← huq] at HGO HOUT
          have HVQ := Lib.hid hvq
          have hm2 := hmulq va hva
          have hw1 : wrap64 (u + va) = u + va := IntWalk.wrap64_in _ (by omega)
          have hw2 : wrap64 ((u + va) * (2 : Int) ^ l0) = (u + va) * 2 ^ l0 := IntWalk.wrap64_in _ (by omega)
          obtain ⟨o, hoq⟩ : ∃ o, o = (u + va) * (2 : Int) ^ l0 := ⟨_, rfl⟩
          rw [← hoq] at HGO HOUT
          replace hw2 : wrap64 ((u + va) * (2 : Int) ^ l0) = o := hw2.trans hoq.symm
          clear hhv hsl hp11 hvq hm2 huq hoq
          go_wp2_with fail
          refine htk.mono ?_; rintro e w3 ⟨rfl, I3, hf3⟩
          have hb3 := hb2.trans (hf3.below (B := w.heap.size) (by omega) (by have := hb2.size; omega))
          have z3 := keep_fp hf3 (show w.heap.size ≠ w.heap.size + 1 by omega) y3
          clear I2 y3 b3 htk
          go_wp2_with fail
          refine (rvalue_any y (s : Int) w3).mono ?_; rintro e w' ⟨rfl, rfl⟩
          rw [← HVQ.out]
          go_upto_region 13 with fail
          go_quiet ((first | (go_at_call 91; exact quiet_l (HRT.out _)) | (go_at_call 122; exact quiet_l (power22_any l0 (by omega) _))))
          rw [← HUQ.out, hw2]
          have I4 := I3.drewN nq
          have hb4 := below_drewN hb3 nq
          clear I3 z3 hb3 hw1 hw2
          generalize w3.drewN nq = w4 at *
          have b3 := I4.c3
          have b2 := I4.c2
          by_cases hd : DcB o
          · have HD := Lib.hid (decide_eq_true hd)
            have hRR : R = (o, k + s, 0) := by rw [← HR.out]; exact HGO.out hd
            have HRR := Lib.hid hRR
            clear hRR hd
            go_upto_region 18 with (go_at_call 51; refine (rdc_any _ _).mono ?_; rintro e w' ⟨rfl, rfl⟩; rw [HD.out])
            go_quiet (fail)
            go_wp2
            go_ret3
            exact ⟨by rw [HRR.out]; rfl, below_drewN hb4 nq⟩
          · have HD := Lib.hid (decide_eq_false hd)
            have hRR : R = (0, 0, 2) := by rw [← HR.out]; exact HOUT.out hd
            have HRR := Lib.hid hRR
            clear hRR hd
            go_wp2_with (first | (go_at_call 51; refine (rdc_any _ _).mono ?_; rintro e w' ⟨rfl, rfl⟩; rw [HD.out]) | (go_at_call 133; refine (ifail_any I4).mono ?_; rintro e w5 ⟨rfl, I5, hf5⟩; rw [if_pos rfl] at I5; have hb5 := hb4.trans (hf5.below (B := w.heap.size) (by omega) (by have := hb4.size; omega)); have b3' := I5.c3; clear b3 b2))
            go_quiet (fail)
            go_wp2
            go_ret3
            exact ⟨by rw [HRR.out]; rfl, below_drewN hb5 nq⟩
    · have hRR : R = (0, 0, er) := by rw [← HR.out]; exact rdD_bad (by omega) HF.out he
      have HRR := Lib.hid hRR
      have b3 := I2.c3
      rw [if_neg he]
      have de : (er != 0) = true := by simp; exact he
      have de2 : (er == 0) = false := by simp; exact he
      clear hRR he y3
      go_upto_region 11 with fail
      go_quiet (fail)
      go_wp2
      go_ret3
      exact ⟨by rw [HRR.out]; rfl, below_drewN hb2 nq⟩
end Go.Proofs.Ytlhappecjjbopaa
