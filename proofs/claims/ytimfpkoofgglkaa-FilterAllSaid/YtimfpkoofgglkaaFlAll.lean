/-
  FilterAll: rows that are filtered by any kinds come back, each row of its kind, or of the lightest one. No condition.
-/
import Derived.Test.YtimfpkoofgglkaaFlY
import Derived.Test.YtimfpkoofgglkaaAppN
import Derived.Test.YtimfpkoofgglkaaCopy
namespace Go.Proofs.Ytimfpkoofgglkaa
open Go.ChangeShapes Go.WideShapes Go.ChangeAt Go.WideMaps Go.WideElems Go.RowKit Go.Joins
set_option linter.unusedVariables false
set_option maxRecDepth 100000

def AllP (w : World) (e : Ending) (w' : World) : Prop := e = .returned (.bool true) ∧ Below w.heap.size w w'
def G0 (n m : Nat) (s p : Int) : Prop := (1 ≤ s ∧ (1 ≤ p ∧ p ≤ 8)) ∧ n % s.toNat = 0 ∧ m = n / s.toNat
instance (n m : Nat) (s p : Int) : Decidable (G0 n m s p) := by unfold G0; infer_instance
def AllI (n m : Nat) (s p : Int) (K : List Int) (W : World) (g i : Value) (wr : World) : Prop :=
  ∃ (k : Nat) (b : Bool), k ≤ m ∧ i = .int .i64 k ∧ g = .bool b ∧ (b = true ↔ G0 n m s p ∧ ∀ j, j < k → -1 ≤ K.getD j 0 ∧ K.getD j 0 ≤ 4) ∧ Below W.heap.size W wr
set_option maxHeartbeats 8000000 in
theorem byKinds_bad (A A2 : Option Addr) (n c m c2 : Nat) (s p : Int) (R K : List Int) (w : World) (hn2 : R.length = n) (hR : Rd w w.heap.size A (bv R)) (hB : Bs R) (hm2 : K.length = m) (hR2 : Rd w w.heap.size A2 (iv K)) (hn : n ≤ 3000) (hm : m ≤ 3000)
    (hs : -9223372036854775808 ≤ s ∧ s ≤ 9223372036854775807) (h : ¬ RollOk n m s p K) :
    Calls Try.prog 27 #[.slice A n c, .int .i64 s, .int .i64 p, .slice A2 m c2] w (AllP w) := by
  have HM := Lib.hid hm2
  have HN := Lib.hid hn2
  have HX := Lib.hid h
  clear hm2 hn2 h
  go_enter Try.func27, Try.ntmps27
  go_wp2_with fail
  refine (alive14_any _).mono ?_; rintro e w1 ⟨rfl, hb1⟩
  have hs1 := hb1.size
  go_wp2_with fail
  refine (copy_any A n c R w1 HN.out ((hR.below hb1).more hs1) (by omega)).mono ?_; rintro e w2 ⟨g, d, rfl, hr, hb2⟩
  have hb2' := hb1.trans (hb2.mono hs1)
  have hs2 := hb2'.size
  go_wp2_with fail
  refine (copyInts_any A2 m c2 K w2 HM.out ((hR2.below hb2').more hs2) (by omega)).mono ?_; rintro e w3 ⟨g2, d2, rfl, hk, hb3⟩
  have hb3' := hb2'.trans (hb3.mono hs2)
  have hs3 := hb3'.size
  have hr3 := own_keep hr hb3
  have hRk : Rd w3 w3.heap.size (some ⟨g2, 0, none⟩) (iv K) := by have h := Rd.of_own hk; rw [iv_app] at h; exact h.pre
  clear hr hb1 hb2 hb2' hs1 hs2
  go_wp2_with fail
  refine (roll_bad _ _ n d m d2 s p K w3 HM.out hRk hn hm hs HX.out).mono ?_; rintro e w4 ⟨rfl, hb4⟩
  have hb4' := hb3'.trans (hb4.mono hs3)
  have hs4 := hb4'.size
  have hr4 := own_keep hr3 hb4
  have hk4 := own_keep hk hb4
  clear hr3 hk hRk hb3 hb3' hb4 hs3
  unfold errV
  go_wp2_with fail
  refine (kept_any A n c g d _ R _ HN.out ((hR.below hb4').more hs4) hB (by omega) hr4).mono ?_; rintro e w' ⟨rfl, rfl⟩
  go_wp2_with fail
  refine (keptInts_any A2 m c2 g2 d2 _ K _ HM.out ((hR2.below hb4').more hs4) (by omega) hk4).mono ?_; rintro e w5 ⟨rfl, hb5⟩
  have hb5' := hb4'.trans (hb5.mono hs4)
  have hs5 := hb5'.size
  clear hr4 hk4 hb4' hb5 hs4
  go_upto_region 10 with fail
  go_cut [13] from 53 to 80 (fun gv wx => gv = .bool (decide (G0 n m s p)) ∧ w5 = wx)
  case first =>
    by_cases h1 : 1 ≤ s
    · obtain ⟨S, rfl⟩ := Int.eq_ofNat_of_zero_le (show 0 ≤ s by omega)
      have hmx : max (S : Int) 1 = (S : Int) := by omega
      by_cases h2 : 1 ≤ p
      · by_cases h3 : p ≤ 8
        · by_cases h4 : n % S = 0
          · have d4 : (n : Int) % (S : Int) = 0 := by omega
            have d6 : 0 ≤ (n : Int) / (S : Int) := Int.ediv_nonneg (by omega) (by omega)
            have d7 : (n : Int) / (S : Int) ≤ 3000 := by have := Int.ediv_le_self (a := (n : Int)) (S : Int) (by omega); omega
            by_cases h5 : m = n / S
            · have hg : decide (G0 n m (S : Int) p) = true := decide_eq_true ⟨⟨h1, h2, h3⟩, by rw [Int.toNat_natCast]; exact h4, by rw [Int.toNat_natCast]; exact h5⟩
              have d5 : (n : Int) / (S : Int) = (m : Int) := by omega
              have HG := Lib.hid hg
              clear hg h4 h5 d6 d7
              go_wp2_with fail
              go_meet
              exact ⟨by rw [HG.out], rfl⟩
            · have hg : decide (G0 n m (S : Int) p) = false := decide_eq_false (fun h => h5 (by have := h.2.2; rwa [Int.toNat_natCast] at this))
              have d5 : ((m : Int) == (n : Int) / (S : Int)) = false := by rw [beq_eq_false_iff_ne]; omega
              have HG := Lib.hid hg
              clear hg h4 h5
              go_wp2_with fail
              go_meet
              exact ⟨by rw [HG.out], rfl⟩
          · have hg : decide (G0 n m (S : Int) p) = false := decide_eq_false (fun h => h4 (by have := h.2.1; rwa [Int.toNat_natCast] at this))
            have d4 : ¬ (n : Int) % (S : Int) = 0 := by omega
            have HG := Lib.hid hg
            clear hg
            go_wp2_with fail
            go_meet
            exact ⟨by rw [HG.out], rfl⟩
        · have hg : decide (G0 n m (S : Int) p) = false := decide_eq_false (fun h => h3 h.1.2.2)
          have d3 : decide (p ≤ 8) = false := decide_eq_false h3
          have HG := Lib.hid hg
          clear hg
          go_wp2_with fail
          go_meet
          exact ⟨by rw [HG.out], rfl⟩
      · have hg : decide (G0 n m (S : Int) p) = false := decide_eq_false (fun h => h2 h.1.2.1)
        have d3 : decide (1 ≤ p) = false := decide_eq_false h2
        have HG := Lib.hid hg
        clear hg
        go_wp2_with fail
        go_meet
        exact ⟨by rw [HG.out], rfl⟩
    · have hg : decide (G0 n m s p) = false := decide_eq_false (fun h => h1 h.1.1)
      have d3 : decide (1 ≤ s) = false := decide_eq_false h1
      have HG := Lib.hid hg
      clear hg
      go_wp2_with fail
      go_meet
      exact ⟨by rw [HG.out], rfl⟩
  case rest =>
    obtain ⟨rfl, rfl⟩ := hcut
    obtain ⟨b0, hb0⟩ : ∃ b, b = decide (G0 n m s p) := ⟨_, rfl⟩
    rw [← hb0]
    have HB0 := Lib.hid hb0
    clear hb0
    go_wp2_with fail
    go_loopw [13, 83] (AllI n m s p K w5) (fun _ i _ => m - (intOf i).toNat)
    case atStart => exact ⟨0, b0, Nat.zero_le _, rfl, rfl, by rw [HB0.out]; simp, Below.refl _ _⟩
    case round =>
      obtain ⟨k, b, hk, rfl, rfl, hbb, hb⟩ := hrel
      have HBB := Lib.hid hbb
      clear hbb
      by_cases hlt : k < m
      · obtain ⟨b2, o2, rfl, _, g2⟩ := (hR2.below (hb5'.trans (hb.mono hs5))).at_ (k := k) (by rw [iv_len, HM.out]; exact hlt)
        have cK := g2 k _ (ivs_get (by rw [HM.out]; exact hlt))
        obtain ⟨x, hxq⟩ : ∃ x, x = K.getD k 0 := ⟨_, rfl⟩
        rw [← hxq] at cK
        have HXQ := Lib.hid hxq
        have hk0 : (0 : Int) ≤ (k : Int) := by omega
        have hk1 : (k : Int) < (m : Int) := by omega
        clear g2 hxq
        have key : ∀ b' : Bool, (b' = true ↔ b = true ∧ (-1 ≤ x ∧ x ≤ 4)) → (b' = true ↔ G0 n m s p ∧ ∀ j, j < k + 1 → -1 ≤ K.getD j 0 ∧ K.getD j 0 ≤ 4) := fun b' h => by
          rw [h, HBB.out, HXQ.out]
          constructor
          · rintro ⟨⟨h1, h2⟩, h3⟩
            refine ⟨h1, fun j hj => ?_⟩
            by_cases hjk : j < k
            · exact h2 j hjk
            · obtain rfl : j = k := by omega
              exact h3
          · rintro ⟨h1, h2⟩
            exact ⟨⟨h1, fun j hj => h2 j (by omega)⟩, h2 k (by omega)⟩
        have KEY := Lib.hid key
        clear key
        cases b
        · go_wp2_with fail
          go_roundw
          case rel => exact ⟨k + 1, false, by omega, by go_num, rfl, KEY.out _ (by simp), hb⟩
          case measure => simp [intOf]; omega
        · by_cases h1 : -1 ≤ x
          · by_cases h2 : x ≤ 4
            · go_wp2_with fail
              go_roundw
              case rel => exact ⟨k + 1, true, by omega, by go_num, rfl, KEY.out _ (by simp; omega), hb⟩
              case measure => simp [intOf]; omega
            · have d2 : decide (x ≤ 4) = false := decide_eq_false h2
              go_wp2_with fail
              go_roundw
              case rel => exact ⟨k + 1, false, by omega, by go_num, rfl, KEY.out _ (by simp; omega), hb⟩
              case measure => simp [intOf]; omega
          · have d1 : decide (-1 ≤ x) = false := decide_eq_false h1
            go_wp2_with fail
            go_roundw
            case rel => exact ⟨k + 1, false, by omega, by go_num, rfl, KEY.out _ (by simp; omega), hb⟩
            case measure => simp [intOf]; omega
      · have hbf : b = false := by
          cases b with
          | false => rfl
          | true =>
            obtain ⟨h1, h2⟩ := HBB.out.1 rfl
            exact absurd ⟨h1.1, h1.2.1, h1.2.2, kok_get (fun j hj => h2 j (by rw [HM.out] at hj; omega))⟩ HX.out
        subst hbf
        go_wp2_with fail
        refine (is_err 6 6 (by decide) _).mono ?_; rintro e w' ⟨rfl, rfl⟩
        go_wp2
        go_ret
        exact ⟨rfl, hb5'.trans (hb.mono hs5)⟩

def AllG (m : Nat) (W : World) (g i : Value) (wr : World) : Prop := ∃ k : Nat, k ≤ m ∧ i = .int .i64 k ∧ g = .bool true ∧ Below W.heap.size W wr
def AllB (S m : Nat) (R : List Int) (W : World) (a i : Value) (wr : World) : Prop :=
  ∃ (k : Nat) (Aa : Option Addr) (na ca : Nat), k ≤ m ∧ i = .int .i64 k ∧ a = .slice Aa na ca ∧ (ahdI S R k).length = na ∧ Rd wr wr.heap.size Aa (bv (ahdI S R k)) ∧ Below W.heap.size W wr
set_option maxHeartbeats 8000000 in
theorem byKinds_good (A A2 : Option Addr) (n c m c2 S : Nat) (p : Int) (R K : List Int) (w : World) (hn2 : R.length = n) (hnc : n ≤ c) (hc : c ≤ 9223372036854775807) (hR : Rd w w.heap.size A (bv R)) (hB : Bs R) (hm2 : K.length = m) (hR2 : Rd w w.heap.size A2 (iv K)) (hn : n ≤ 3000) (hm : m ≤ 3000)
    (hS : 1 ≤ S) (hp : 1 ≤ p ∧ p ≤ 8) (hnm : n = m * S) (hK : KOk K) :
    Calls Try.prog 27 #[.slice A n c, .int .i64 (S : Nat), .int .i64 p, .slice A2 m c2] w (AllP w) := by
  have HM := Lib.hid hm2
  have HN := Lib.hid hn2
  have HNM := Lib.hid hnm
  have HK := Lib.hid hK
  clear hm2 hn2 hnm hK
  go_enter Try.func27, Try.ntmps27
  go_wp2_with fail
  refine (alive14_any _).mono ?_; rintro e w1 ⟨rfl, hb1⟩
  have hs1 := hb1.size
  go_wp2_with fail
  refine (copy_any A n c R w1 HN.out ((hR.below hb1).more hs1) (by omega)).mono ?_; rintro e w2 ⟨g, d, rfl, hr, hb2⟩
  have hb2' := hb1.trans (hb2.mono hs1)
  have hs2 := hb2'.size
  go_wp2_with fail
  refine (copyInts_any A2 m c2 K w2 HM.out ((hR2.below hb2').more hs2) (by omega)).mono ?_; rintro e w3 ⟨g2, d2, rfl, hk, hb3⟩
  have hb3' := hb2'.trans (hb3.mono hs2)
  have hs3 := hb3'.size
  have hr3 := own_keep hr hb3
  have hRk : Rd w3 w3.heap.size (some ⟨g2, 0, none⟩) (iv K) := by have h := Rd.of_own hk; rw [iv_app] at h; exact h.pre
  obtain ⟨g', d', hv', hcap, hdm, _, _⟩ := own_pos hr3 (by omega)
  injection hv' with h1 _ h2
  injection h1 with h1
  injection h1 with h1
  subst h1 h2
  have hRr : Rd w3 w3.heap.size (some ⟨g, 0, none⟩) (bv R) := by have h := Rd.of_own hr3; rw [bv_app] at h; exact h.pre
  clear hr hb1 hb2 hb2' hs1 hs2
  go_wp2_with fail
  refine (roll_good _ _ n d m d2 S p R K w3 HN.out (by omega) hdm hRr hB HM.out hRk hn hm hS hp HNM.out HK.out).mono ?_; rintro e w4 ⟨vf, rfl, hof, hb4⟩
  have hb4' := hb3'.trans (hb4.mono hs3)
  have hs4 := hb4'.size
  have hr4 := own_keep hr3 hb4
  have hk4 := own_keep hk hb4
  obtain ⟨Af, cf, rfl, hncf, hcf, hRf⟩ := own_sliceN hof
  clear hr3 hk hRk hb3 hb3' hb4 hs3 hRr hof
  go_wp2_with fail
  refine (kept_any A n c g d _ R _ HN.out ((hR.below hb4').more hs4) hB (by omega) hr4).mono ?_; rintro e w' ⟨rfl, rfl⟩
  go_wp2_with fail
  refine (keptInts_any A2 m c2 g2 d2 _ K _ HM.out ((hR2.below hb4').more hs4) (by omega) hk4).mono ?_; rintro e w5 ⟨rfl, hb5⟩
  have hb5' := hb4'.trans (hb5.mono hs4)
  have hs5 := hb5'.size
  have hRf5 := (hRf.below hb5).more hb5.size
  clear hr4 hk4 hb4' hb5 hs4 hRf
  have hmx : max (S : Int) 1 = (S : Int) := by omega
  have d4 : (n : Int) % (S : Int) = 0 := by rw [HNM.out, Int.natCast_mul]; exact Int.mul_emod_left _ _
  have d5 : (n : Int) / (S : Int) = (m : Int) := by rw [HNM.out, Int.natCast_mul, Int.mul_ediv_cancel _ (by omega)]
  go_wp2_with fail
  clear hmx d4 d5
  go_loopw [13, 83] (AllG m w5) (fun _ i _ => m - (intOf i).toNat)
  case atStart => exact ⟨0, Nat.zero_le _, rfl, rfl, Below.refl _ _⟩
  case round =>
    obtain ⟨k, hk, rfl, rfl, hb⟩ := hrel
    by_cases hlt : k < m
    · obtain ⟨b2, o2, rfl, _, g2⟩ := (hR2.below (hb5'.trans (hb.mono hs5))).at_ (k := k) (by rw [iv_len, HM.out]; exact hlt)
      have cK := g2 k _ (ivs_get (by rw [HM.out]; exact hlt))
      have hx := kok_at HK.out k
      generalize K.getD k 0 = x at *
      have d1 : decide (-1 ≤ x) = true := decide_eq_true hx.1
      have d2 : decide (x ≤ 4) = true := decide_eq_true hx.2
      have hk0 : (0 : Int) ≤ (k : Int) := by omega
      have hk1 : (k : Int) < (m : Int) := by omega
      clear g2
      go_wp2_with fail
      go_roundw
      case rel => exact ⟨k + 1, by omega, by go_num, rfl, hb⟩
      case measure => simp [intOf]; omega
    · have hbw := hb5'.trans (hb.mono hs5)
      have hsw := hbw.size
      have hRf6 := (hRf5.below hb).more hb.size
      obtain ⟨w6, rfl⟩ : ∃ w6 : World, w6 = wr := ⟨_, rfl⟩
      clear hb hRf5 hb5' hs5
      have hfz : ((((n + m : Nat)) : Int) != (n : Int) + (m : Int)) = false := by rw [bne_eq_false_iff_eq]; omega
      go_upto_region 20 with fail
      have hba : Below w6.heap.size w6 (w6.alloc (.cells #[] 5)) := (Below.refl _ _).alloc (Nat.le_refl _) _
      clear hfz
      go_wp2_with fail
      generalize w6.alloc (.cells #[] 5) = w7 at *
      have hbw7 := hbw.trans (hba.mono hsw)
      have hs7 := hbw7.size
      have hRf7 := (hRf6.below hba).more hba.size
      generalize w6.heap.size = g6 at *
      clear hba hRf6 hbw hsw
      go_loopw [16, 121] (AllB S m R w7) (fun _ i _ => m - (intOf i).toNat)
      case atStart => exact ⟨0, some ⟨g6, 0, none⟩, 0, 0, Nat.zero_le _, rfl, rfl, rfl, .inl rfl, Below.refl _ _⟩
      case round =>
        obtain ⟨q0, Aa, na, ca, hk2, rfl, rfl, hal, hRa, hb⟩ := hrel
        clear hlt hk
        obtain ⟨k, rfl⟩ : ∃ k, k = q0 := ⟨_, rfl⟩
        have HAL := Lib.hid hal
        by_cases hlt : k < m
        · have hka : na = 0 ∨ na = S := by rw [← hal]; exact ahdI_len (by rw [HN.out]; exact HNM.out) hk2
          have hbk := hbw7.trans (hb.mono hs7)
          obtain ⟨b2, o2, rfl, _, g2⟩ := (hR2.below hbk).at_ (k := k) (by rw [iv_len, HM.out]; exact hlt)
          have cK := g2 k _ (ivs_get (by rw [HM.out]; exact hlt))
          have hx := kok_at HK.out k
          obtain ⟨x, hxq⟩ : ∃ x, x = K.getD k 0 := ⟨_, rfl⟩
          rw [← hxq] at cK hx
          have HXQ := Lib.hid hxq
          have hmul : (k + 1) * S ≤ n := by rw [HNM.out]; exact Nat.mul_le_mul_right _ hlt
          have hms : (k + 1) * S = k * S + S := Nat.succ_mul k S
          obtain ⟨q, hq⟩ : ∃ q, q = k * S := ⟨_, rfl⟩
          have hqS : q + S ≤ n := by omega
          have e1 : (k : Int) * (S : Int) = (q : Int) := by rw [hq, Int.natCast_mul]
          have e2 : ((k : Int) + 1) * (S : Int) = (q : Int) + (S : Int) := by rw [Int.add_mul, e1]; omega
          have hqq : q + S - q = S := by omega
          obtain ⟨b1, o1, rfl, hb1, g1⟩ := hR.at_ (k := q) (by rw [bv_len, HN.out]; omega)
          have hrl : (rowI S R k).length = S := rowI_len (by rw [HN.out]; exact HNM.out) hlt
          have hRrow : Rd w w.heap.size (some ⟨b1, o1 + q, none⟩) (bv (rowI S R k)) := by
            have := hR.sub q S
            rw [← bv_sub] at this
            unfold rowI
            rw [← hq]; exact this
          have HRL := Lib.hid hrl
          -- the byte that stands ahead of the row
          obtain ⟨i, hiq⟩ : ∃ i, i = k * (S + 1) := ⟨_, rfl⟩
          have hil : i < n + m := by
            have h1 := rolT_lt (R := R) (by rw [HN.out]; exact HNM.out) hlt
            rw [HN.out] at h1; omega
          have e3 : (k : Int) * ((S : Int) + 1) = (i : Int) := by rw [hiq]; simp
          have hrz : (rolT S p R K m).length = n + m := by rw [rolT_size (by rw [HN.out]; exact HNM.out), HN.out]
          obtain ⟨b3, o3, rfl, hb3, g3⟩ := (hRf7.below hb).at_ (k := i) (by rw [bv_len, hrz]; exact hil)
          have hat := rolT_at (p := p) (K := K) (show R.length = m * S by rw [HN.out]; exact HNM.out) hlt
          have cF := g3 i (.int .u8 ((rolT S p R K m).getD i 0)) (by
            have : i < (rolT S p R K m).length := by rw [hrz]; exact hil
            simp [bv, this])
          rw [hiq, hat, ← hiq] at cF
          have hkb := kdI_bd (s := S) (p := p) (R := R) HK.out k
          have hkq : kdI S p R K k = if x < 0 then lightT p (rowI S R k) (ahdI S R k) 4 else x := by unfold kdI; rw [← HXQ.out]
          have HKQ := Lib.hid hkq
          have hRrow1 := (hRrow.below hbk).more hbk.size
          have hBr := rowI_bs (s := S) hB k
          have hBa := ahdI_bs (s := S) hB k
          clear hmul hms hq hxq hrl g1 g2 g3 hal hiq hrz hat hkq
          have hk0 : (0 : Int) ≤ (k : Int) := by omega
          have hk1 : (k : Int) < (m : Int) := by omega
          have hi0 : (0 : Int) ≤ (i : Int) := by omega
          have hi1 : (i : Int) < ((n + m : Nat) : Int) := by omega
          have hi2 : (i : Int) < (n : Int) + (m : Int) := by omega
          generalize kdI S p R K k = kd at *
          by_cases hx1 : x < 0
          · have hxx : (kd != kd) = false := by simp
            have hke : lightT p (rowI S R k) (ahdI S R k) 4 = kd := by rw [HKQ.out, if_pos hx1]
            have HKE := Lib.hid hke
            clear hke
            go_wp2_with fail
            refine (rlightest_any p (some ⟨b1, o1 + q, none⟩) Aa S na (c - q) ca (rowI S R k) (ahdI S R k) _ hp HRL.out HAL.out hRrow1 hRa hBr hBa hka (by omega)).mono ?_; rintro e w8 ⟨rfl, hb8⟩
            rw [HKE.out]
            have cF8 := (hb8.cell (p := ⟨b3, o3 + i, none⟩) (by have := hb.size; show b3 < _; omega)).trans cF
            have hb9 := hb.trans (hb8.mono hb.size)
            have hRrow8 := (hRrow1.below hb8).more hb8.size
            clear cF hb8
            go_wp2_with fail
            go_roundw
            case rel => exact ⟨k + 1, some ⟨b1, o1 + q, none⟩, S, c - q, by omega, by go_num, rfl, HRL.out, hRrow8, hb9⟩
            case measure => simp [intOf]; omega
          · have hke : kd = x := by rw [HKQ.out, if_neg hx1]
            have hxx : (kd != x) = false := by rw [hke]; simp
            clear hke
            go_wp2_with fail
            go_roundw
            case rel => exact ⟨k + 1, some ⟨b1, o1 + q, none⟩, S, c - q, by omega, by go_num, by rw [show q + S - q = S by omega], HRL.out, hRrow1, hb⟩
            case measure => simp [intOf]; omega
        · by_cases hm0 : m = 0
          · have d0 : ((m : Int) == 0) = true := by simp; omega
            go_wp2_with fail
            go_ret
            exact ⟨rfl, hbw7.trans (hb.mono hs7)⟩
          · have d0 : ((m : Int) == 0) = false := by simp; omega
            have hSn : S ≤ n := by rw [HNM.out]; exact Nat.le_mul_of_pos_left S (by omega)
            have hu := unroll_rol (n := m) hp (by omega) (by omega) (show R.length = m * S by rw [HN.out]; exact HNM.out) hB HK.out
            have hrz : (rolT S p R K m).length = n + m := by rw [rolT_size (by rw [HN.out]; exact HNM.out), HN.out]
            have HU := Lib.hid hu
            have HRZ := Lib.hid hrz
            have hRf9 := (hRf7.below hb).more hb.size
            have hbk := hbw7.trans (hb.mono hs7)
            clear hu hrz hRf7 hal hRa
            go_wp2_with fail
            have huu := unroll_any Af (n + m) cf (rolT S p R K m) (S : Int) (m : Int) p wr HRZ.out hncf hcf hRf9 (rolT_bs HK.out m) (by omega)
            rw [HU.out] at huu
            dsimp only at huu
            rw [HN.out] at huu
            refine huu.mono ?_; rintro e w8 ⟨v, rfl, hov, hb8⟩
            clear huu
            have hb9 := hbk.trans (hb8.mono hbk.size)
            obtain ⟨Av, cv, rfl, hRv⟩ := own_slice hov
            rw [errOf0]
            go_wp2_with fail
            refine (same_is _ _ _ _ _ _ R R true (by simp) _ _ _ hRv (hR.below hb9) hB hB HN.out.symm HN.out.symm).mono ?_; rintro e w' ⟨rfl, rfl⟩
            go_wp2
            go_ret
            exact ⟨rfl, hb9⟩
theorem byKinds_any (A A2 : Option Addr) (n c m c2 : Nat) (s p : Int) (R K : List Int) (w : World) (hn2 : R.length = n) (hnc : n ≤ c) (hc : c ≤ 9223372036854775807) (hR : Rd w w.heap.size A (bv R)) (hB : Bs R) (hm2 : K.length = m) (hmc : m ≤ c2) (hc2 : c2 ≤ 9223372036854775807) (hR2 : Rd w w.heap.size A2 (iv K))
    (hs : -9223372036854775808 ≤ s ∧ s ≤ 9223372036854775807) :
    Calls Try.prog 27 #[.slice A n c, .int .i64 s, .int .i64 p, .slice A2 m c2] w (AllP w) := by
  by_cases h1 : n ≤ 3000
  · by_cases h2 : m ≤ 3000
    · by_cases h3 : RollOk n m s p K
      · obtain ⟨⟨a1, a2⟩, a3, a4, a5⟩ := h3
        obtain ⟨S, rfl⟩ := Int.eq_ofNat_of_zero_le (show 0 ≤ s by omega)
        rw [Int.toNat_natCast] at a3 a4
        have h5 : n = m * S := by
          have := Nat.div_add_mod n S
          rw [a3, ← a4, Nat.add_zero, Nat.mul_comm] at this
          exact this.symm
        exact byKinds_good A A2 n c m c2 S p R K w hn2 hnc hc hR hB hm2 hR2 h1 h2 (by omega) a2 h5 a5
      · exact byKinds_bad A A2 n c m c2 s p R K w hn2 hR hB hm2 hR2 h1 h2 hs h3
    · clear hR hR2 hn2 hm2
      go_enter Try.func27, Try.ntmps27
      go_wp2_with fail
      refine (alive14_any _).mono ?_; rintro e w1 ⟨rfl, hb1⟩
      go_wp2
      go_ret
      exact ⟨rfl, hb1⟩
  · clear hR hR2 hn2 hm2
    go_enter Try.func27, Try.ntmps27
    go_wp2_with fail
    refine (alive14_any _).mono ?_; rintro e w1 ⟨rfl, hb1⟩
    go_wp2
    go_ret
    exact ⟨rfl, hb1⟩
theorem filterAll_any (w : World) (A : Option Addr) (n c : Nat) (R : List Int) (hn : R.length = n) (hc : n ≤ c) (hm : c ≤ 9223372036854775807) (hR : Rd w w.heap.size A (bv R)) (hB : Bs R)
    (s : Int) (hs : -9223372036854775808 ≤ s ∧ s ≤ 9223372036854775807) (p : Int) (hp : -9223372036854775808 ≤ p ∧ p ≤ 9223372036854775807)
    (A2 : Option Addr) (m c2 : Nat) (K : List Int) (hn2 : K.length = m) (hc2 : m ≤ c2) (hm2 : c2 ≤ 9223372036854775807) (hR2 : Rd w w.heap.size A2 (iv K)) (hI : Is K) :
    Calls Try.prog 8 #[.agg #[.slice A n c, .int .i64 s, .int .i64 p, .slice A2 m c2]] w (AllP w) := by
  have X := Box4.new w 53 (.slice A n c) (.int .i64 s) (.int .i64 p) (.slice A2 m c2)
  have hb0 : Below w.heap.size w (w.alloc (.cells #[.slice A n c, .int .i64 s, .int .i64 p, .slice A2 m c2] 53)) := (Below.refl _ _).alloc (Nat.le_refl _) _
  go_enter Try.func8, Try.ntmps8
  go_wp2_with fail
  generalize w.alloc (.cells #[.slice A n c, .int .i64 s, .int .i64 p, .slice A2 m c2] 53) = w0 at *
  refine (byKinds_any A A2 n c m c2 s p R K w0 hn hc hm ((hR.below hb0).more hb0.size) hB hn2 hc2 hm2 ((hR2.below hb0).more hb0.size) hs).mono ?_; rintro e w1 ⟨rfl, hb1⟩
  go_wp2
  go_ret
  exact ⟨rfl, hb0.trans (hb1.mono hb0.size)⟩
namespace FilterAll
set_option maxRecDepth 100000 in
theorem contract (H : Type) (enc : TypeId × Value → H) (W : World) (base : Nat) (args : Array Value) (ds gs : List (DataW H)) (before : List MemPlace)
    (hval : ∀ (j : Nat) t v, Try.f8.params[j]? = some t → args[j]? = some v → Value.okWide Try.prog W .any base t v)
    (hW : DataW.Whole enc Try.prog Try.f8.params.toList Rows.filterAllSpec.vars false W args.toList ds gs before) :
    Calls Try.prog 8 args W fun e W' => ∃ v, e = .returned v ∧ Rows.filterAllSpec.post enc Try.prog Try.f8 false true false false W args v W' := by
  have hW' := hW
  obtain ⟨p, q, hA0, hV, rfl, hfz, hnd⟩ := hW
  have hA : DataW.TrodAll enc Try.prog W 0 (fun _ => true) true Try.f8.params.toList args.toList ds p := hA0
  rw [Try.params8] at hA hval
  clear hA0
  obtain ⟨v0, vs0, d0, ds0, p0, q0, hargs, rfl, rfl, h0, r0⟩ := trodAll_cons hA
  obtain ⟨rfl, rfl, rfl⟩ := trodAll_nil r0
  obtain rfl : args = #[v0] := by cases args; simp_all
  obtain ⟨rfl, rfl⟩ := trodVars_none hV
  obtain ⟨c0_0, c0_1, c0_2, c0_3, y0_0, y0_1, y0_2, y0_3, m0, rfl, rfl, rfl, hy0_0, hy0_1, hy0_2, hy0_3⟩ := open_agg4 Try.underlying53 (by kernel_rfl) (by kernel_rfl) (hval 0 _ _ rfl rfl) h0
  obtain ⟨Ax0, nx0, cx0, x0, rfl, hnx0, hcx0, hmx0, hRx0, hwx0⟩ := open_rd Try.underlying26 Try.underlying5 (by kernel_rfl) hy0_0
  obtain ⟨x1, ex1, rfl, wx1⟩ := DataW.trod_int Try.underlying3 hy0_1
  simp only [List.cons.injEq, and_true] at ex1
  subst ex1
  obtain ⟨x2, ex2, rfl, wx2⟩ := DataW.trod_int Try.underlying3 hy0_2
  simp only [List.cons.injEq, and_true] at ex2
  subst ex2
  obtain ⟨Ax3, nx3, cx3, x3, rfl, hnx3, hcx3, hmx3, hRx3, hwx3⟩ := open_rd Try.underlying51 Try.underlying3 (by kernel_rfl) hy0_3
  refine (filterAll_any W Ax0 nx0 cx0 x0 hnx0 hcx0 hmx0 hRx0 (wf_bs hwx0) x1 (wf_i wx1) x2 (wf_i wx2) Ax3 nx3 cx3 x3 hnx3 hcx3 hmx3 hRx3 (wf_is hwx3)).mono fun e W' ⟨he, hb⟩ => ?_
  subst he
  exact ⟨_, rfl, post_true Facts.laid hW' rfl rfl Try.underlying4 (by kernel_rfl) rfl hb⟩

set_option maxRecDepth 100000 in
theorem lifted (os : Os) (started : os.Started) (H : Type) (enc : TypeId × Value → H) :
    ReturnsInHanded {} Try.checked os 8 .any (Rows.filterAllSpec.pre6 enc Try.prog Try.f8 Rows.filterAllRow.domain false) (Rows.filterAllSpec.post enc Try.prog Try.f8 false true false false) := by
  refine returnsInHanded_of_change (C := Try.checked) Facts.own started (by kernel_rfl) Try.func8
    (ChangeSpec.witness6 (enc := enc) (C := Try.checked) (os := os) false ⟨#[], #[.agg #[.slice none 0 0, .int .i64 0, .int .i64 0, .slice none 0 0]], []⟩ 8 (by kernel_rfl) (by kernel_rfl) (by kernel_rfl) (by kernel_rfl)) ?_
  intro W base args ds gs before hval hW _ _
  exact contract H enc W base args ds gs before hval hW

theorem k_wf : Rows.filterAllRow.wf (OpenSpec.ofChange Rows.filterAllSpec) = true := by kernel_rfl
theorem k_inp : (Rows.filterAllRow.inPlace == Try.prog.inPlace 8) = true := by kernel_rfl
theorem k_unf : (Rows.filterAllRow.unfollowed == Try.prog.unfollowed 8) = true := by kernel_rfl
theorem k_rec : (Rows.filterAllRow.recurses == Try.prog.recurses 8) = true := by kernel_rfl
theorem k_nam : (Rows.filterAllRow.named == Try.prog.varsNamed 8) = true := by kernel_rfl
theorem k_pk : (Rows.filterAllRow.plainKeys == Try.prog.plainKeys) = true := (congrArg (fun x => Rows.filterAllRow.plainKeys == x) Facts.plainKeys).trans (by kernel_rfl)
theorem k_lf : (Rows.filterAllRow.lifted == Try.prog.liftsFinal) = true := (congrArg (fun x => Rows.filterAllRow.lifted == x) Facts.liftsFinal).trans (by kernel_rfl)
theorem k_mk : (Try.prog.make == some Rows.filterAllRow.make) = true := (congrArg (fun x => x == some Rows.filterAllRow.make) Facts.make).trans (by kernel_rfl)
theorem k_par : (Try.f8.params.all (Try.prog.readableRec ·)) = true := by kernel_rfl
theorem k_maps : (Rows.filterAllRow.maps == (Try.f8.params.toList ++ Rows.filterAllSpec.plain.varTypes Try.prog).any (Try.prog.mapsRec ·)) = true := by kernel_rfl
theorem k_ifs : (Rows.filterAllRow.ifaces == (Try.f8.params.toList ++ Rows.filterAllSpec.plain.varTypes Try.prog).any (Try.prog.ifacesRec ·)) = true := by kernel_rfl
theorem k_lps : (Rows.filterAllRow.loops == (Try.f8.params.toList ++ Rows.filterAllSpec.plain.varTypes Try.prog).any (Try.prog.loopsFrom ·)) = true := by kernel_rfl
theorem k_wk : (Rows.filterAllRow.wideKeys == (Try.f8.params.toList ++ Rows.filterAllSpec.plain.varTypes Try.prog ++ Try.f8.resultTypes.toList).any (Try.prog.wideKeysFrom ·)) = true := by kernel_rfl
theorem k_vl : (Rows.filterAllRow.veiled == (Try.f8.params.toList ++ Rows.filterAllSpec.plain.varTypes Try.prog ++ Try.f8.resultTypes.toList).any (Try.prog.veiledRec ·)) = true := by kernel_rfl
theorem closed : joinedFacts Try.prog 8 Try.f8 Rows.filterAllSpec Rows.filterAllRow = true :=
  Facts.and_i (Facts.and_i (Facts.and_i (Facts.and_i (Facts.and_i (Facts.and_i (Facts.and_i (Facts.and_i (Facts.and_i (Facts.and_i (Facts.and_i (Facts.and_i (Facts.and_i (Facts.and_i (Facts.and_i (Facts.and_i (Facts.and_i (Facts.and_i (Facts.and_i (Facts.and_i (Facts.and_i (Facts.and_i (Facts.and_i (Facts.and_i (Facts.and_i (Facts.and_i (Facts.and_i (Facts.and_i (Facts.and_i (Facts.and_i (Facts.and_i
    k_wf Facts.laid) Facts.mapsRowed_) k_par) rfl) rfl) Facts.stops) rfl) Facts.stopKnobs) k_inp) k_unf) k_rec) k_nam) k_maps) k_ifs) (by kernel_rfl)) k_lps) k_wk) rfl) (by kernel_rfl)) (by kernel_rfl)) (by kernel_rfl)) k_pk) rfl) Facts.stopsHeard) Facts.mayEnter) k_lf) k_mk) (by kernel_rfl)) (by kernel_rfl)) k_vl) (by kernel_rfl)
theorem named : Try.prog.funcNamed Rows.filterAllRow.func = some 8 := by kernel_rfl

theorem proved : Rows.FilterAllSaid :=
  OpenClaim.holds_of_wide 8 Try.f8 rfl rfl rfl rfl rfl rfl rfl ⟨rfl, rfl, rfl, rfl, rfl⟩ rfl rfl rfl rfl rfl named Try.func8 closed
    (of_decide_eq_true (by kernel_rfl)) (by unfold Func.isWrapper; first | (rw [if_pos (by decide +kernel)]; kernel_rfl) | (rw [if_neg (by decide +kernel)]; exact ⟨rfl, rfl⟩))
    (fun os started H enc _ => lifted os started H enc)
end FilterAll
#print axioms FilterAll.proved
end Go.Proofs.Ytimfpkoofgglkaa
