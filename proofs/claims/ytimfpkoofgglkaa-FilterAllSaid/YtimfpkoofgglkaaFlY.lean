/-
  FilterAll: Roll, by contracts. Conditions: at most 3000 bytes and kinds.
-/
import Derived.Test.YtimfpkoofgglkaaFlX
import Derived.Test.YtimfpkoofgglkaaFlRolls
import Derived.Test.YtimfpkoofgglkaaInts
namespace Go.Proofs.Ytimfpkoofgglkaa
open Go.RowKit
set_option linter.unusedVariables false
set_option maxRecDepth 100000

theorem rollbad_any (x : Int) (w : World) : Calls Try.prog 41 #[.int .i64 x] w fun e w' => e = .returned (.bool (decide (¬ (-1 ≤ x ∧ x ≤ 4)))) ∧ w = w' := by
  by_cases h1 : x < -1
  · have hd : decide (¬ (-1 ≤ x ∧ x ≤ 4)) = true := decide_eq_true (by omega)
    rw [hd]
    clear hd
    go_enter Try.func41, Try.ntmps41
    go_wp2
    go_ret
    exact ⟨rfl, rfl⟩
  by_cases h2 : 4 < x
  · have hd : decide (¬ (-1 ≤ x ∧ x ≤ 4)) = true := decide_eq_true (by omega)
    rw [hd]
    clear hd
    go_enter Try.func41, Try.ntmps41
    go_wp2
    go_ret
    exact ⟨rfl, rfl⟩
  · have hd : decide (¬ (-1 ≤ x ∧ x ≤ 4)) = false := decide_eq_false (by omega)
    rw [hd]
    clear hd
    go_enter Try.func41, Try.ntmps41
    go_wp2
    go_ret
    exact ⟨rfl, rfl⟩
def IdxP (K : List Int) (w : World) (e : Ending) (w' : World) : Prop := ∃ r : Int, e = .returned (.int .i64 r) ∧ (KOk K → r = -1) ∧ (¬ KOk K → 0 ≤ r) ∧ Below w.heap.size w w'
theorem kok_get {K : List Int} (h : ∀ j, j < K.length → -1 ≤ K.getD j 0 ∧ K.getD j 0 ≤ 4) : KOk K := fun x hx => by
  obtain ⟨j, hj, rfl⟩ := List.mem_iff_getElem.1 hx
  have := h j hj
  rwa [List.getD_eq_getElem?_getD, List.getElem?_eq_getElem hj] at this
theorem kok_at {K : List Int} (h : KOk K) (j : Nat) : -1 ≤ K.getD j 0 ∧ K.getD j 0 ≤ 4 := by
  by_cases hj : j < K.length
  · rw [List.getD_eq_getElem?_getD, List.getElem?_eq_getElem hj]; exact h _ (List.getElem_mem _)
  · rw [List.getD_eq_getElem?_getD, List.getElem?_eq_none (by omega)]; decide
set_option maxHeartbeats 1000000 in
theorem idx_any (A : Option Addr) (n c : Nat) (K : List Int) (w : World) (hn : K.length = n) (hR : Rd w w.heap.size A (iv K)) (hm : n ≤ 2000000) :
    Calls Try.prog 44 #[.slice A n c, .func (.func 41) #[] #[]] w (IdxP K w) := by
  have HN := Lib.hid hn
  clear hn
  go_enter Try.func44, Try.ntmps44
  go_wp2
  go_loopw [8] (fun i wr => ∃ k : Nat, k ≤ n ∧ i = .int .i64 k ∧ (∀ j, j < k → -1 ≤ K.getD j 0 ∧ K.getD j 0 ≤ 4) ∧ Below w.heap.size w wr) (fun i _ => n - (intOf i).toNat)
  case atStart => exact ⟨0, Nat.zero_le _, rfl, fun j h => by omega, Below.refl _ _⟩
  case round =>
    obtain ⟨k, hk, rfl, hok, hb⟩ := hrel
    have HOK := Lib.hid hok
    clear hok
    by_cases hlt : k < n
    · obtain ⟨b1, o1, rfl, _, g1⟩ := (hR.below hb).at_ (k := k) (by rw [iv_len, HN.out]; exact hlt)
      have c1 := g1 k _ (ivs_get (by rw [HN.out]; exact hlt))
      have hk0 : (0 : Int) ≤ (k : Int) := by omega
      have hk1 : (k : Int) < (n : Int) := by omega
      obtain ⟨x, hx⟩ : ∃ x, x = K.getD k 0 := ⟨_, rfl⟩
      rw [← hx] at c1
      have HX := Lib.hid hx
      clear g1 hx
      by_cases hg : -1 ≤ x ∧ x ≤ 4
      · have hd : decide (¬ (-1 ≤ x ∧ x ≤ 4)) = false := decide_eq_false (by omega)
        have HD := Lib.hid hd
        clear hd
        go_wp2_with fail
        refine (rollbad_any x _).mono ?_; rintro e w' ⟨rfl, rfl⟩
        rw [HD.out]
        go_wp2
        go_roundw
        case rel =>
          refine ⟨k + 1, by omega, by go_num, fun j hj => ?_, hb⟩
          by_cases hjk : j < k
          · exact HOK.out j hjk
          · obtain rfl : j = k := by omega
            rw [← HX.out]; exact hg
        case measure => simp [intOf]; omega
      · have hd : decide (¬ (-1 ≤ x ∧ x ≤ 4)) = true := decide_eq_true hg
        have HD := Lib.hid hd
        clear hd
        go_wp2_with fail
        refine (rollbad_any x _).mono ?_; rintro e w' ⟨rfl, rfl⟩
        rw [HD.out]
        go_wp2
        go_ret
        refine ⟨(k : Int), rfl, fun h => ?_, fun _ => by omega, hb⟩
        have := kok_at h k
        rw [← HX.out] at this
        exact absurd this hg
    · go_wp2
      go_ret
      refine ⟨-1, rfl, fun _ => rfl, fun h => absurd (kok_get fun j hj => HOK.out j (by rw [HN.out] at hj; omega)) h, hb⟩
theorem contains_any (A : Option Addr) (n c : Nat) (K : List Int) (w : World) (hn : K.length = n) (hR : Rd w w.heap.size A (iv K)) (hm : n ≤ 2000000) :
    Calls Try.prog 42 #[.slice A n c, .func (.func 41) #[] #[]] w fun e w' => e = .returned (.bool (decide (¬ KOk K))) ∧ Below w.heap.size w w' := by
  have HN := Lib.hid hn
  clear hn
  go_enter Try.func42, Try.ntmps42
  go_wp2_with fail
  refine (idx_any A n c K w HN.out hR hm).mono ?_; rintro e w1 ⟨r, rfl, h1, h2, hb⟩
  by_cases hk : KOk K
  · obtain rfl := h1 hk
    have hd : decide (¬ KOk K) = false := decide_eq_false (fun h => h hk)
    have HD := Lib.hid hd
    clear h1 h2 hk hd
    go_wp2
    go_ret
    exact ⟨by rw [HD.out]; rfl, hb⟩
  · have h3 := h2 hk
    have hd : decide (¬ KOk K) = true := decide_eq_true hk
    have HD := Lib.hid hd
    clear h1 h2 hk hd
    go_wp2
    go_ret
    exact ⟨by rw [HD.out]; rfl, hb⟩
/-- may the rows be rolled so? -/
def RollOk (n m : Nat) (s p : Int) (K : List Int) : Prop := (1 ≤ s ∧ (1 ≤ p ∧ p ≤ 8)) ∧ n % s.toNat = 0 ∧ m = n / s.toNat ∧ KOk K
def RollBad (w : World) (e : Ending) (w' : World) : Prop := e = .returned (.tuple #[.slice none 0 0, errV 6]) ∧ Below w.heap.size w w'
set_option maxHeartbeats 2000000 in
theorem roll_bad (A A2 : Option Addr) (n c m c2 : Nat) (s p : Int) (K : List Int) (w : World) (hm2 : K.length = m) (hR2 : Rd w w.heap.size A2 (iv K)) (hn : n ≤ 3000) (hm : m ≤ 3000) (hs : -9223372036854775808 ≤ s ∧ s ≤ 9223372036854775807) (h : ¬ RollOk n m s p K) :
    Calls Try.prog 38 #[.slice A n c, .int .i64 s, .int .i64 p, .slice A2 m c2] w (RollBad w) := by
  have HM := Lib.hid hm2
  have HX := Lib.hid h
  clear hm2 h
  by_cases h1 : s < 1
  · go_enter Try.func38, Try.ntmps38
    go_wp2
    go_ret2
    exact ⟨rfl, Below.refl _ _⟩
  by_cases h2 : p < 1
  · go_enter Try.func38, Try.ntmps38
    go_wp2
    go_ret2
    exact ⟨rfl, Below.refl _ _⟩
  by_cases h3 : 8 < p
  · go_enter Try.func38, Try.ntmps38
    go_wp2
    go_ret2
    exact ⟨rfl, Below.refl _ _⟩
  obtain ⟨S, rfl⟩ := Int.eq_ofNat_of_zero_le (show 0 ≤ s by omega)
  have hS : 1 ≤ S := by omega
  by_cases h4 : n % S = 0
  · by_cases h5 : m = n / S
    · have hk : ¬ KOk K := fun hk => HX.out ⟨⟨by omega, by omega, by omega⟩, by rw [Int.toNat_natCast]; exact h4, by rw [Int.toNat_natCast]; exact h5, hk⟩
      have hd : decide (¬ KOk K) = true := decide_eq_true hk
      have HD := Lib.hid hd
      have d4 : ((n : Int) % (S : Int)) = 0 := by omega
      have d5 : (n : Int) / (S : Int) = (m : Int) := by omega
      clear hk hd h4 h5
      go_enter Try.func38, Try.ntmps38
      go_wp2_with (go_at_call 42; refine (contains_any A2 m c2 K _ HM.out hR2 (by omega)).mono ?_; rintro e w1 ⟨rfl, hb⟩; rw [HD.out])
      go_ret2
      exact ⟨rfl, hb⟩
    · have d4 : ((n : Int) % (S : Int)) = 0 := by omega
      have d5 : ((m : Int) != (n : Int) / (S : Int)) = true := by rw [bne_iff_ne]; omega
      have d6 : 0 ≤ (n : Int) / (S : Int) := Int.ediv_nonneg (by omega) (by omega)
      have d7 : (n : Int) / (S : Int) ≤ 3000 := by have := Int.ediv_le_self (a := (n : Int)) (S : Int) (by omega); omega
      clear h5
      go_enter Try.func38, Try.ntmps38
      go_wp2_with fail
      go_ret2
      exact ⟨rfl, Below.refl _ _⟩
  · go_enter Try.func38, Try.ntmps38
    go_wp2_with fail
    go_ret2
    exact ⟨rfl, Below.refl _ _⟩

def Rolled (S : Nat) (p : Int) (R K : List Int) (n m : Nat) (w : World) (e : Ending) (w' : World) : Prop :=
  ∃ v, e = .returned (.tuple #[v, .nilIface]) ∧ w'.ownsRow w.heap.size 5 1 v (n + m) (bv (rolT S p R K m)) ∧ Below w.heap.size w w'
def RollI (S m : Nat) (p : Int) (R K : List Int) (w : World) (o a i : Value) (wr : World) : Prop :=
  ∃ (k : Nat) (Aa : Option Addr) (na ca : Nat), k ≤ m ∧ i = .int .i64 k ∧ a = .slice Aa na ca ∧ (ahdI S R k).length = na ∧ Rd wr wr.heap.size Aa (bv (ahdI S R k)) ∧
    wr.ownsRow w.heap.size 5 1 o (k * (S + 1)) (bv (rolT S p R K k)) ∧ Below w.heap.size w wr
set_option maxHeartbeats 4000000 in
theorem roll_good (A A2 : Option Addr) (n c m c2 S : Nat) (p : Int) (R K : List Int) (w : World) (hn2 : R.length = n) (hnc : n ≤ c) (hc : c ≤ 9223372036854775807) (hR : Rd w w.heap.size A (bv R)) (hB : Bs R) (hm2 : K.length = m) (hR2 : Rd w w.heap.size A2 (iv K)) (hn : n ≤ 3000) (hm : m ≤ 3000)
    (hS : 1 ≤ S) (hp : 1 ≤ p ∧ p ≤ 8) (hnm : n = m * S) (hK : KOk K) :
    Calls Try.prog 38 #[.slice A n c, .int .i64 (S : Nat), .int .i64 p, .slice A2 m c2] w (Rolled S p R K n m w) := by
  obtain ⟨i0, hi, hz0, hz1, hz2⟩ := info_parts Try.info_u8
  have d4 : ((n : Int) % (S : Int)) = 0 := by rw [hnm, Int.natCast_mul]; exact Int.mul_emod_left _ _
  have d5 : (n : Int) / (S : Int) = (m : Int) := by rw [hnm, Int.natCast_mul, Int.mul_ediv_cancel _ (by omega)]
  have hd : decide (¬ KOk K) = false := decide_eq_false (fun h => h hK)
  have HD := Lib.hid hd
  have HM := Lib.hid hm2
  have HN := Lib.hid hn2
  have HNM := Lib.hid hnm
  have HK := Lib.hid hK
  clear hd hm2 hn2 hnm hK
  go_enter Try.func38, Try.ntmps38
  go_wp2_with (go_at_call 42; refine (contains_any A2 m c2 K _ HM.out hR2 (by omega)).mono ?_; rintro e w1 ⟨rfl, hb⟩; rw [HD.out])
  clear d4 d5
  have hmk := fun W => run_make (P := Try.prog) W 26 5 i0 (.int .u8 0) Try.underlying26 hi hz0 .i64 .i64 0 ((n : Int) + (m : Int)) (by omega) (by omega) (by rw [hz2]; omega) (by omega)
  rw [hmk]
  clear hmk
  have hown0 : (w1.alloc (.cells (madeCells (Value.int .u8 0).cells (((n : Int) + (m : Int)).toNat * i0.size)) 5)).ownsRow w.heap.size 5 1 (.slice (some ⟨w1.heap.size, 0, none⟩) 0 ((n : Int) + (m : Int)).toNat) 0 [] :=
    World.ownsRow_made w1 _ _ hb.size (by unfold maxLen; omega) (by simp [madeCells, hz1])
  have hb0 : Below w.heap.size w (w1.alloc (.cells (madeCells (Value.int .u8 0).cells (((n : Int) + (m : Int)).toNat * i0.size)) 5)) := hb.alloc hb.size _
  generalize w1.alloc (.cells (madeCells (Value.int .u8 0).cells (((n : Int) + (m : Int)).toNat * i0.size)) 5) = w0 at *
  obtain ⟨cp, hcp⟩ : ∃ cp, cp = ((n : Int) + (m : Int)).toNat := ⟨_, rfl⟩
  rw [← hcp] at hown0 ⊢
  generalize w1.heap.size = g0 at *
  clear hcp
  clear hb
  go_wp2
  go_loopw [11, 12, 60] (RollI S m p R K w) (fun _ _ i _ => m - (intOf i).toNat)
  case atStart => exact ⟨0, none, 0, 0, Nat.zero_le _, rfl, rfl, rfl, .inl rfl, by rw [Nat.zero_mul]; exact hown0, hb0⟩
  case round =>
    obtain ⟨k, Aa, na, ca, hk, rfl, rfl, hal, hRa, hown, hb⟩ := hrel
    clear hown0 hb0
    have HAL := Lib.hid hal
    by_cases hlt : k < m
    · have hka : na = 0 ∨ na = S := by rw [← hal]; exact ahdI_len (by rw [HN.out]; exact HNM.out) hk
      obtain ⟨b2, o2, rfl, _, g2⟩ := (hR2.below hb).at_ (k := k) (by rw [iv_len, HM.out]; exact hlt)
      have cK := g2 k _ (ivs_get (by rw [HM.out]; exact hlt))
      have hx := kok_at HK.out k
      obtain ⟨x, hxq⟩ : ∃ x, x = K.getD k 0 := ⟨_, rfl⟩
      rw [← hxq] at cK hx
      have HXQ := Lib.hid hxq
      have hmul : (k + 1) * S ≤ n := by rw [HNM.out]; exact Nat.mul_le_mul_right _ hlt
      have hms : (k + 1) * S = k * S + S := Nat.succ_mul k S
      obtain ⟨q, hq⟩ : ∃ q, q = k * S := ⟨_, rfl⟩
      have HQ := Lib.hid hq
      have hqS : q + S ≤ n := by omega
      have e1 : (k : Int) * (S : Int) = (q : Int) := by rw [hq, Int.natCast_mul]
      have e2 : ((k : Int) + 1) * (S : Int) = (q : Int) + (S : Int) := by rw [Int.add_mul, e1]; omega
      obtain ⟨b1, o1, rfl, hb1, g1⟩ := hR.at_ (k := q) (by rw [bv_len, HN.out]; omega)
      have hrl : (rowI S R k).length = S := rowI_len (by rw [HN.out]; exact HNM.out) hlt
      have hRrow : Rd w w.heap.size (some ⟨b1, o1 + q, none⟩) (bv (rowI S R k)) := by
        have := hR.sub q S
        rw [← bv_sub] at this
        unfold rowI
        rw [← hq]; exact this
      have HRL := Lib.hid hrl
      clear hmul hms hq hxq hrl g1 g2 hal
      have hk0 : (0 : Int) ≤ (k : Int) := by omega
      have hk1 : (k : Int) < (m : Int) := by omega
      have hqq : q + S - q = S := by omega
      have hob := True.intro
      have hRrow1 := (hRrow.below hb).more hb.size
      have hBr := rowI_bs (s := S) hB k
      have hBa := ahdI_bs (s := S) hB k
      have hkl : k * (S + 1) ≤ 6000 := by
        have h1 : k * (S + 1) = k * S + k := Nat.mul_succ k S
        have := HQ.out
        omega
      obtain ⟨kl, hkl2⟩ : ∃ kl, kl = k * (S + 1) := ⟨_, rfl⟩
      rw [← hkl2] at hown hkl
      have HKL := Lib.hid hkl2
      obtain ⟨Ao, co, rfl, _⟩ := own_slice hown
      clear hkl2 hob
      by_cases hx1 : x = -1
      · subst hx1
        go_wp2_with fail
        refine (lightest_any p (some ⟨b1, o1 + q, none⟩) Aa S na S ca (rowI S R k) (ahdI S R k) _ hp HRL.out HAL.out hRrow1 hRa hBr hBa hka (by omega)).mono ?_; rintro e w2 ⟨rfl, hb2⟩
        obtain ⟨kd, hkd⟩ : ∃ kd, kd = lightT p (rowI S R k) (ahdI S R k) 4 := ⟨_, rfl⟩
        rw [← hkd]
        have hkq : kd = kdI S p R K k := by unfold kdI; rw [← HXQ.out, if_pos (by omega)]; exact hkd
        have hkb : 0 ≤ kd ∧ kd ≤ 4 := by rw [hkq]; exact kdI_bd HK.out k
        have HKQ := Lib.hid hkq
        have hb3 := hb.trans (hb2.mono hb.size)
        have hown3 := own_keep hown hb2
        have hRa3 := (hRa.below hb2).more hb2.size
        have hRrow3 := (hRrow.below hb3).more hb3.size
        clear hkd hkq hb hb2 hown hRa
        go_wp2_with fail
        refine (filter_any kd p (some ⟨b1, o1 + q, none⟩) Aa S na S ca (rowI S R k) (ahdI S R k) _ hkb hp HRL.out HAL.out hRrow3 hRa3 hBr hBa hka (by omega)).mono ?_; rintro e w4 ⟨vf, rfl, hof, hb4⟩
        have hb5 := hb3.trans (hb4.mono hb3.size)
        have hown5 := own_keep hown3 hb4
        obtain ⟨Af, cf, rfl, hRf⟩ := own_slice hof
        have hfb := hof.lt
        have hba : Below w4.heap.size w4 (w4.alloc (.cells #[.int .u8 kd] 5)) := (Below.refl _ _).alloc (Nat.le_refl _) _
        have hown6 := own_keep hown5 hba
        have hb6 := hb5.trans (hba.mono hb5.size)
        have hRf6 := (hRf.below hba).more hba.size
        have hkq8 : IntKind.u8.wrap kd = kd := IntWalk.u8_in _ (by omega)
        have hsn : (k + 1) * (S + 1) = k * (S + 1) + 1 + S := by rw [Nat.succ_mul]; omega
        have HSN := Lib.hid hsn
        have hol := hown3.lt
        clear hown5 hown3 hsn
        go_wp2_with (first
          | (at_builtin; refine wpList_app2 _ rfl (.tmp 102) (.tmp 105) 26 rfl Try.underlying26 hi hz0 hz1 hz2 rfl hown6 rfl rfl (Rd.new1 w4 5 (.int .u8 kd)) rfl (by simp [Value.oneCell']) (by omega) (by omega) hb6.size ?_; intro v7 w7 hown7 hap7; obtain ⟨A7, c7, hv7, _⟩ := own_slice hown7; subst hv7; have hb7 := below_app2 hb6 hown6 hap7 (Nat.le_refl _) hb6.size; have hRf7 := (fr_app2 hap7).rd hRf6 (Nat.le_refl _) (fun a ha hs => by have h1 := (hfb a.block (by rw [ha]; rfl)).1; have h2 := (hol a.block hs).2; omega))
          | (at_builtin; refine wpList_app2 _ rfl (.tmp 106) (.tmp 107) 26 rfl Try.underlying26 hi hz0 hz1 hz2 rfl hown7 rfl rfl hRf7 (by rw [bv_len, fil_len, HRL.out]) (one_bv _) (by omega) (by omega) hb7.size ?_; intro v8 w8 hown8 hap8; have hb8 := below_app2 hb7 hown7 hap8 (Nat.le_refl _) hb7.size))
        go_roundw
        case rel =>
          refine ⟨k + 1, some ⟨b1, o1 + q, none⟩, S, S, by omega, by go_num, rfl, HRL.out, (hRrow.below hb8).more hb8.size, ?_, hb8⟩
          rw [HSN.out, ← HKL.out, rolT, pieceI, ← HKQ.out, bv_app]
          rw [List.append_assoc] at hown8
          exact hown8
        case measure => simp [intOf]; omega
      · have hx2 : (x == -1) = false := by simpa using hx1
        have hkq : x = kdI S p R K k := by unfold kdI; rw [← HXQ.out, if_neg (by omega)]
        have hkb : 0 ≤ x ∧ x ≤ 4 := by omega
        have HKQ := Lib.hid hkq
        have hb3 := hb
        have hown3 := hown
        have hRa3 := hRa
        have hRrow3 := hRrow1
        clear hkq hb hown hRa
        obtain ⟨w2, rfl⟩ : ∃ w2 : World, w2 = wr := ⟨_, rfl⟩
        obtain ⟨kd, rfl⟩ : ∃ kd, kd = x := ⟨_, rfl⟩
        go_wp2_with fail
        refine (filter_any kd p (some ⟨b1, o1 + q, none⟩) Aa S na S ca (rowI S R k) (ahdI S R k) _ hkb hp HRL.out HAL.out hRrow3 hRa3 hBr hBa hka (by omega)).mono ?_; rintro e w4 ⟨vf, rfl, hof, hb4⟩
        have hb5 := hb3.trans (hb4.mono hb3.size)
        have hown5 := own_keep hown3 hb4
        obtain ⟨Af, cf, rfl, hRf⟩ := own_slice hof
        have hfb := hof.lt
        have hba : Below w4.heap.size w4 (w4.alloc (.cells #[.int .u8 kd] 5)) := (Below.refl _ _).alloc (Nat.le_refl _) _
        have hown6 := own_keep hown5 hba
        have hb6 := hb5.trans (hba.mono hb5.size)
        have hRf6 := (hRf.below hba).more hba.size
        have hkq8 : IntKind.u8.wrap kd = kd := IntWalk.u8_in _ (by omega)
        have hsn : (k + 1) * (S + 1) = k * (S + 1) + 1 + S := by rw [Nat.succ_mul]; omega
        have HSN := Lib.hid hsn
        have hol := hown3.lt
        clear hown5 hown3 hsn
        go_wp2_with (first
          | (at_builtin; refine wpList_app2 _ rfl (.tmp 102) (.tmp 105) 26 rfl Try.underlying26 hi hz0 hz1 hz2 rfl hown6 rfl rfl (Rd.new1 w4 5 (.int .u8 kd)) rfl (by simp [Value.oneCell']) (by omega) (by omega) hb6.size ?_; intro v7 w7 hown7 hap7; obtain ⟨A7, c7, hv7, _⟩ := own_slice hown7; subst hv7; have hb7 := below_app2 hb6 hown6 hap7 (Nat.le_refl _) hb6.size; have hRf7 := (fr_app2 hap7).rd hRf6 (Nat.le_refl _) (fun a ha hs => by have h1 := (hfb a.block (by rw [ha]; rfl)).1; have h2 := (hol a.block hs).2; omega))
          | (at_builtin; refine wpList_app2 _ rfl (.tmp 106) (.tmp 107) 26 rfl Try.underlying26 hi hz0 hz1 hz2 rfl hown7 rfl rfl hRf7 (by rw [bv_len, fil_len, HRL.out]) (one_bv _) (by omega) (by omega) hb7.size ?_; intro v8 w8 hown8 hap8; have hb8 := below_app2 hb7 hown7 hap8 (Nat.le_refl _) hb7.size))
        go_roundw
        case rel =>
          refine ⟨k + 1, some ⟨b1, o1 + q, none⟩, S, S, by omega, by go_num, rfl, HRL.out, (hRrow.below hb8).more hb8.size, ?_, hb8⟩
          rw [HSN.out, ← HKL.out, rolT, pieceI, ← HKQ.out, bv_app]
          rw [List.append_assoc] at hown8
          exact hown8
        case measure => simp [intOf]; omega
    · go_wp2_with fail
      go_ret2
      obtain rfl : k = m := by omega
      exact ⟨_, rfl, by rw [show n + k = k * (S + 1) by rw [Nat.mul_succ, ← HNM.out]]; exact hown, hb⟩
end Go.Proofs.Ytimfpkoofgglkaa
