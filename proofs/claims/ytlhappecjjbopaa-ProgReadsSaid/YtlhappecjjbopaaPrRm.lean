/-
  Prog: the document's 'are the numbers divisible', by a contract. Conditions: at most 1000 blocks.
  Prog: the numbers that are read are small; plain. No condition.
  Prog: ProgReads: which blocks any bits come to. No condition.
-/
import Derived.Test.YtlhappecjjbopaaPrRg
import Derived.Test.YtlhappecjjbopaaPrY
import Derived.Test.YtlhappecjjbopaaPrRk
import Derived.Test.YtlhappecjjbopaaPrRh
import Derived.Test.YtlhappecjjbopaaCbA
import Derived.Test.YtlhappecjjbopaaFacts
import Derived.Test.YtlhappecjjbopaaArw
namespace Go.Proofs.Ytlhappecjjbopaa
section
open Go.ChangeShapes Go.WideShapes Go.ChangeAt Go.WideMaps Go.WideElems Go.RowKit Go.Joins
set_option linter.unusedVariables false
set_option maxRecDepth 100000
theorem tmod_ne (x : Int) (H : Nat) : (x.tmod (2 ^ H) != 0) = (x % 2 ^ H != 0) := by
  by_cases h : x % 2 ^ H = 0
  · have h1 : x.tmod (2 ^ H) = 0 := Int.tmod_eq_zero_of_dvd (Int.dvd_of_emod_eq_zero h)
    rw [h, h1]
  · have h1 : x.tmod (2 ^ H) ≠ 0 := fun h1 => h (Int.emod_eq_zero_of_dvd (Int.dvd_of_tmod_eq_zero h1))
    have a1 : (x.tmod (2 ^ H) != 0) = true := by simp; exact h1
    have a2 : (x % 2 ^ H != 0) = true := by simp; exact h
    rw [a1, a2]
def RwR (F N H n : Nat) (G : List (List Int)) (w1 : World) (ix : Value) (wr : World) : Prop :=
  ∃ i : Nat, i ≤ n ∧ ix = .int .i64 (i : Nat) ∧ (∀ (q : Nat) (x : List Int), q < i → G[q]? = some x → WhB F N H x) ∧ Below w1.heap.size w1 wr
def RwQ (F N H : Nat) (x : List Int) (w4 : World) (kv : Value) (wr : World) : Prop :=
  ∃ q j : Nat, j ≤ N ∧ q = F + j ∧ kv = .int .i64 (q : Nat) ∧ (∀ r, r < j → x.getD (zzN (F + r)) 0 % 2 ^ H = 0) ∧ Below w4.heap.size w4 wr
set_option maxHeartbeats 16000000 in
theorem rwhole_any {w : World} {A : Option Addr} {n c : Nat} {G : List (List Int)} (hG : Blk w A n G) (hn : n ≤ 1000) (F T H : Nat) (l : Int) (hft : F ≤ T) (hT63 : T ≤ 63) (hH : H ≤ 10) :
    Calls Try.prog 94 #[.slice A n c, .agg #[.int .i64 (F : Nat), .int .i64 (T : Nat), .int .i64 (H : Nat), .int .i64 l]] w (BoolP (whL F (T + 1 - F) H G) w) := by
  have hal : ∀ W : World, W.alloc (.cells #[.int .i64 0, .int .i64 0, .int .i64 0, .int .i64 0, .int .i64 0, .int .i64 0, .int .i64 0, .int .i64 0, .int .i64 0, .int .i64 0, .int .i64 0, .int .i64 0, .int .i64 0, .int .i64 0, .int .i64 0, .int .i64 0, .int .i64 0, .int .i64 0, .int .i64 0, .int .i64 0, .int .i64 0, .int .i64 0, .int .i64 0, .int .i64 0, .int .i64 0, .int .i64 0, .int .i64 0, .int .i64 0, .int .i64 0, .int .i64 0, .int .i64 0, .int .i64 0, .int .i64 0, .int .i64 0, .int .i64 0, .int .i64 0, .int .i64 0, .int .i64 0, .int .i64 0, .int .i64 0, .int .i64 0, .int .i64 0, .int .i64 0, .int .i64 0, .int .i64 0, .int .i64 0, .int .i64 0, .int .i64 0, .int .i64 0, .int .i64 0, .int .i64 0, .int .i64 0, .int .i64 0, .int .i64 0, .int .i64 0, .int .i64 0, .int .i64 0, .int .i64 0, .int .i64 0, .int .i64 0, .int .i64 0, .int .i64 0, .int .i64 0, .int .i64 0] 39) = W.alloc (.cells (iv z64).toArray 39) := fun _ => rfl
  have hpw := fun W : World => power22_any H (by omega) W
  have HPW := Lib.hid hpw
  have hpH := two_int H hH
  obtain ⟨N, hN⟩ : ∃ N, N = T + 1 - F := ⟨_, rfl⟩
  rw [← hN]
  have HN := Lib.hid hN
  have hTN : T + 1 = F + N := by omega
  have hFN : F + N ≤ 64 := by omega
  have HGG := Lib.hid hG
  have X0 := Bln.new w 33 [.int .i64 (F : Nat), .int .i64 (T : Nat), .int .i64 (H : Nat), .int .i64 l]
  have hb0 : Below w.heap.size w (w.alloc (.cells #[.int .i64 (F : Nat), .int .i64 (T : Nat), .int .i64 (H : Nat), .int .i64 l] 33)) := (Below.refl _ _).alloc (Nat.le_refl _) _
  clear hpw hN hG
  go_enter Try.func94, Try.ntmps94
  go_upto_region 1 with fail
  obtain ⟨rb, hrb⟩ : ∃ rb, rb = w.heap.size := ⟨_, rfl⟩
  generalize w.alloc (.cells #[.int .i64 (F : Nat), .int .i64 (T : Nat), .int .i64 (H : Nat), .int .i64 l] 33) = w0 at *
  rw [← hrb] at X0 ⊢
  have HRB := Lib.hid hrb
  clear hrb
  go_wp2_with fail
  refine (order_ref w0).mono ?_; rintro e w5 ⟨rfl, hb5⟩
  have X5 := X0.below hb5
  have hs0 := hb0.size
  have hb5' := hb0.trans (hb5.mono hs0)
  have hs5 := hb5'.size
  have hzl : (iv zzL).length = 64 := by rw [iv_len]; rfl
  have hzat : ∀ q, q < 64 → (iv zzL)[q]? = some (.int .i64 ((zzN q : Nat) : Int)) := fun q hq => by
    rw [ivs_get (by show q < 64; exact hq), (zzN_bd q hq).2.1]
  obtain ⟨ZL, hZL⟩ : ∃ z, z = zzL := ⟨_, rfl⟩
  rw [← hZL] at hzl hzat ⊢
  have hsz : (iv ZL).toArray.size = 64 := hzl
  obtain ⟨XD, hbd⟩ := Bln.copy w5 39 (iv z64) (iv ZL) (by rw [hzl, iv_len]; rfl)
  have hth : (w5.alloc (.cells (iv z64).toArray 39)).there w5.heap.size 0 (iv ZL).toArray.size := by
    rw [hsz]
    exact (Bln.new w5 39 (iv z64)).there 64 (by rw [iv_len]; decide)
  have hone := one_iv ZL
  have HSZ := Lib.hid hsz
  have HZA := Lib.hid hzat
  clear hZL hsz hzl hzat
  go_upto_region 2 with (refine wpList_store_mid rfl 39 (.tmp 5) (.tmp 8) rfl _ _ (iv ZL).toArray rfl rfl hth (by rw [HSZ.out]; exact Try.info_block) (all_oneCell_toArray hone) ?_)
  have X1 := X5.below hbd
  have hb1 := hb5'.trans (hbd.mono hs5)
  have hs1 := hb1.size
  have HXD : Bln ((w5.alloc (.cells (iv z64).toArray 39)).setCells w5.heap.size 0 (iv ZL)) w5.heap.size 39 (iv ZL) := XD
  generalize (w5.alloc (.cells (iv z64).toArray 39)).setCells w5.heap.size 0 (iv ZL) = w1 at *
  generalize w5.heap.size = ob at *
  have hob1 := HXD.lt
  have hrb1 := X1.lt
  clear hth hbd hal hone XD X5 X0 hb5 hb5' hb0 hs0 hs5
  have hlen := HGG.out.len
  go_wp2_with fail
  go_loopw [6] (RwR F N H n G w1) (fun ix _ => n - (intOf ix).toNat)
  case atStart => exact ⟨0, Nat.zero_le _, rfl, fun q x hq => absurd hq (by omega), Below.refl _ _⟩
  case round =>
    obtain ⟨i, hi, rfl, hall, hb⟩ := hrel
    obtain ⟨wi, rfl⟩ : ∃ wi : World, wi = wr := ⟨_, rfl⟩
    have HALL9 := Lib.hid hall
    clear hall
    have hsi := hb.size
    by_cases hlt : i < n
    · have dl : decide (i < n) = true := decide_eq_true hlt
      obtain ⟨x, hx⟩ : ∃ x, G[i]? = some x := ⟨G[i]'(by omega), List.getElem?_eq_getElem _⟩
      have HX := Lib.hid hx
      have HXL := Lib.hid (HGG.out.l64 x (List.mem_of_getElem? hx))
      have X4 : Bln wi rb 33 [.int .i64 (F : Nat), .int .i64 (T : Nat), .int .i64 (H : Nat), .int .i64 l] := (hb.block rb hrb1).trans X1
      have y0 := X4.cell (i := 0) (u := .int .i64 (F : Nat)) rfl
      clear hx
      go_upto_region 6 with fail
      clear y0
      go_loopw [7] (RwQ F N H x wi) (fun kv _ => F + N - (intOf kv).toNat)
      case atStart => exact ⟨F, 0, Nat.zero_le _, rfl, rfl, fun r hr => absurd hr (by omega), Below.refl _ _⟩
      case round =>
        obtain ⟨q, j, hj, hqj, rfl, hxa, hb6⟩ := hrel
        obtain ⟨wj, rfl⟩ : ∃ wj : World, wj = wr := ⟨_, rfl⟩
        have hb16 := hb.trans (hb6.mono hsi)
        have X6 : Bln wj rb 33 [.int .i64 (F : Nat), .int .i64 (T : Nat), .int .i64 (H : Nat), .int .i64 l] := (hb16.block rb hrb1).trans X1
        have y1 := X6.cell (i := 1) (u := .int .i64 (T : Nat)) rfl
        have y2 := X6.cell (i := 2) (u := .int .i64 (H : Nat)) rfl
        have HQJ := Lib.hid hqj
        have HXA := Lib.hid hxa
        have hq1 : q ≤ F + j := by omega
        have hq2 : F + j ≤ q := by omega
        clear hqj hxa
        by_cases hlj : q ≤ T
        · have dj : decide (q ≤ T) = true := decide_eq_true hlj
          have D6 : Bln wj ob 39 (iv ZL) := (hb16.block ob hob1).trans HXD
          obtain ⟨x', b1, o1, hx', hxm, hx64, hxI, rfl, hbb, hrg⟩ := (HGG.out.below (hb1.trans (hb16.mono hs1))).at_ hlt
          rw [HX.out] at hx'
          injection hx' with hx'
          subst hx'
          have hzb := (zzN_bd q (by omega)).1
          have cz := D6.cell (HZA.out q (by omega))
          have cg := hrg (zzN q) (.int .i64 (x.getD (zzN q) 0)) (ivs_get (by rw [hx64]; exact hzb))
          obtain ⟨z, hz⟩ : ∃ z, z = zzN q := ⟨_, rfl⟩
          rw [← hz] at cz hzb cg
          obtain ⟨vx, hvx⟩ : ∃ v, v = x.getD z 0 := ⟨_, rfl⟩
          rw [← hvx] at cg
          have htm := tmod_ne vx H
          have hi0 : (0 : Int) ≤ (i : Int) := by omega
          have hi1 : (i : Int) < (n : Int) := by omega
          have hq0 : (0 : Int) ≤ (q : Int) := by omega
          have hq64 : (q : Int) < 64 := by omega
          have hz0 : (0 : Int) ≤ (z : Int) := by omega
          have hz1 : (z : Int) < 64 := by omega
          have hpne : (2 : Int) ^ H ≠ 0 := by omega
          have hpne2 : ((2 : Int) ^ H == 0) = false := by rw [beq_eq_false_iff_ne]; exact hpne
          have HZ := Lib.hid hz
          have HVX := Lib.hid hvx
          clear hz hvx X6 D6 hxm hxI hbb hrg hx64
          by_cases hm0 : vx % (2 : Int) ^ H = 0
          · have dm : (vx.tmod ((2 : Int) ^ H) != 0) = false := by rw [htm]; simp; exact hm0
            have HM := Lib.hid hm0
            clear hm0 htm
            go_upto_region 8 with fail
            go_quiet ((first | (go_at_call 122; exact quiet_l (HPW.out _))))
            have hb7 := below_drewN hb6 nq
            generalize wj.drewN nq = w7 at *
            go_wp2_with fail
            go_roundw
            case rel => exact ⟨q + 1, j + 1, by omega, by omega, by go_num, fun r hr => (by
              by_cases h9 : r < j
              · exact HXA.out r h9
              · obtain rfl : r = j := by omega
                rw [show F + r = q by omega, ← HZ.out, ← HVX.out]; exact HM.out), hb7⟩
            case measure => simp [intOf]; omega
          · have dm : (vx.tmod ((2 : Int) ^ H) != 0) = true := by rw [htm]; simp; exact hm0
            have HM := Lib.hid hm0
            clear hm0 htm
            go_upto_region 8 with fail
            go_quiet ((first | (go_at_call 122; exact quiet_l (HPW.out _))))
            have hb7 := below_drewN hb6 nq
            generalize wj.drewN nq = w7 at *
            go_wp2_with fail
            go_ret
            refine ⟨ret_bool (whL_f fun h9 => HM.out ?_).symm, hb1.trans ((hb.trans (hb7.mono hsi)).mono hs1)⟩
            rw [HVX.out, HZ.out, show q = F + j by omega]
            exact h9 x (List.mem_of_getElem? HX.out) j (by omega)
        · have dj : decide (q ≤ T) = false := decide_eq_false hlj
          have hjN : j = N := by omega
          go_wp2_with fail
          go_roundw
          case rel => exact ⟨i + 1, by omega, by go_num, fun r y hr hy => (by
            by_cases h9 : r < i
            · exact HALL9.out r y h9 hy
            · obtain rfl : r = i := by omega
              rw [HX.out] at hy
              injection hy with hy
              subst hy
              exact fun j' hj' => HXA.out j' (by omega)), hb16⟩
          case measure => simp [intOf]; omega
    · have dl : decide (i < n) = false := decide_eq_false hlt
      go_wp2
      go_ret
      refine ⟨ret_bool (whL_t fun x hx => ?_).symm, hb1.trans (hb.mono hs1)⟩
      obtain ⟨q, hq, rfl⟩ := List.mem_iff_getElem.1 hx
      exact HALL9.out q _ (by omega) (List.getElem?_eq_getElem hq)
end
section
open Go.RowKit
set_option linter.unusedVariables false
/-- all numbers of a block are small -/
def Q5 (x : List Int) : Prop := ∀ y ∈ x, -5000 ≤ y ∧ y ≤ 5000
theorem Q5.nil : Q5 [] := fun y hy => by cases hy
theorem Q5.set {x : List Int} (h : Q5 x) (i : Nat) {u : Int} (hu : -5000 ≤ u ∧ u ≤ 5000) : Q5 (x.set i u) := fun y hy => by
  rcases List.mem_or_eq_of_mem_set hy with h1 | rfl
  · exact h y h1
  · exact hu
theorem Q5.is {x : List Int} (h : Q5 x) : Is x := fun y hy => by have := h y hy; omega
theorem Q5.good {x : List Int} (hx : x.length = 64) (h : GoodB x) : Q5 x := fun y hy => by
  obtain ⟨i, hi, rfl⟩ := List.mem_iff_getElem.1 hy
  have h1 : x.getD i 0 = x[i] := by rw [List.getD_eq_getElem?_getD, List.getElem?_eq_getElem hi]; rfl
  rw [← h1]
  by_cases h0 : i = 0
  · have := h.2
    unfold DcB at this
    rw [h0]; omega
  · have := h.1 i (by omega) (by omega)
    omega
theorem bit01 {b : List Int} (hb : B01 b) (a : Nat) : b.getD a 0 = 0 ∨ b.getD a 0 = 1 := by
  rw [List.getD_eq_getElem?_getD]
  rcases h : b[a]? with _ | y
  · exact .inl rfl
  · exact hb y (List.mem_of_getElem? h)
theorem pow_l {l : Int} (hl : 0 ≤ l ∧ l ≤ 9) : 1 ≤ (2 : Int) ^ l.toNat ∧ (2 : Int) ^ l.toNat ≤ 1024 := two_int l.toNat (by omega)
section
variable {S Z b : List Int} {f n : Nat} {l : Int}
theorem rdP_q5 (hfn : f + n ≤ 64) (hb : B01 b) (hl : 0 ≤ l ∧ l ≤ 9) : ∀ (q k a z : Nat) (x : List Int), n - k ≤ q → Q5 x → BdJ f n k x → Q5 (rdP b f n l k a z x).1
  | 0, k, a, z, x, hq, h1, _ => by rw [rdP_out (by omega)]; exact h1
  | q + 1, k, a, z, x, hq, h1, h2 => by
    by_cases hk : k < n
    · by_cases h : x.getD (zzN (f + k)) 0 = 0
      · by_cases hz : z = 0
        · rw [rdP_stop hk h hz]; exact h1
        · rw [rdP_zero hk h hz]
          exact rdP_q5 hfn hb hl q (k + 1) a (z - 1) x (by omega) h1 (fun j h3 h4 => h2 j (by omega) h4)
      · by_cases hl2 : b.length ≤ a
        · rw [rdP_few hk h hl2]; exact h1
        · rw [rdP_on hk h hl2]
          refine rdP_q5 hfn hb hl q (k + 1) (a + 1) z _ (by omega) (h1.set _ ?_) (h2.set hfn hk _)
          have h3 := h2 k (Nat.le_refl _) hk
          have h4 := pow_l hl
          unfold bet
          rcases bit01 hb a with h5 | h5
          · rw [h5, Int.zero_mul]; split <;> omega
          · rw [h5, Int.one_mul]; split <;> omega
    · rw [rdP_out hk]; exact h1
theorem rdE_q5 {left a k : Nat} {x : List Int} (h : Q5 x) : Q5 (rdE b left a k x).1 := by
  unfold rdE
  split
  · exact Q5.nil
  · split
    · exact Q5.nil
    · exact h
theorem rdE_x {left a k : Nat} {x : List Int} (h : (rdE b left a k x).2.2.2 = 0) : (rdE b left a k x).1 = x := by
  unfold rdE at h ⊢
  split
  · rename_i h1; rw [if_pos h1] at h; exact absurd h (by decide)
  · rename_i h1
    rw [if_neg h1] at h
    split
    · rename_i h2; rw [if_pos h2] at h; exact absurd h (by decide)
    · rfl
theorem rdA_q5 {left : Nat} : ∀ (q k a : Nat) (x : List Int), n - k ≤ q → Q5 x → Q5 (rdA S Z b left f n l k a x).1
  | 0, k, a, x, hq, h1 => by rw [rdA_out (by omega)]; exact h1
  | q + 1, k, a, x, hq, h1 => by
    rw [rdA]
    split
    · split
      · exact Q5.nil
      · split
        · exact rdE_q5 h1
        · split
          · exact Q5.nil
          · split
            · exact Q5.nil
            · split
              · rename_i h9
                exact rdA_q5 q _ _ _ (by omega) (h1.set _ (by omega))
              · exact Q5.nil
    · exact h1
theorem rdG_q5 (hfn : f + n ≤ 64) (hb : B01 b) (hl : 0 ≤ l ∧ l ≤ 9) {left : Nat} : ∀ (q k a : Nat) (x : List Int), n - k ≤ q → Q5 x → BdJ f n k x →
    Q5 (rdG S Z b left f n l k a x).1 ∧ ((rdG S Z b left f n l k a x).2.2.2.2 = 0 → BdJ f n (rdG S Z b left f n l k a x).2.1 (rdG S Z b left f n l k a x).1)
  | 0, k, a, x, hq, h1, h2 => by rw [rdG_out (by omega)]; exact ⟨h1, fun _ => h2⟩
  | q + 1, k, a, x, hq, h1, h2 => by
    rw [rdG]
    split
    · rename_i hk
      split
      · rename_i h9; exact ⟨Q5.nil, fun h8 => absurd h8 h9⟩
      · split
        · refine ⟨rdE_q5 h1, fun h8 => ?_⟩
          dsimp only at h8 ⊢
          rw [rdE_x h8]; exact h2
        · split
          · exact ⟨Q5.nil, fun h8 => absurd h8 (by decide)⟩
          · split
            · exact ⟨Q5.nil, fun h8 => absurd h8 (by decide)⟩
            · split
              · exact ⟨Q5.nil, fun h8 => absurd h8 (by decide)⟩
              · split
                · exact ⟨Q5.nil, fun h8 => absurd h8 (by decide)⟩
                · rename_i h7
                  have hge := rdP_ge b f n l k (a + (rdF S Z (b.drop a)).2.1 + (rdF S Z (b.drop a)).1.toNat % 16) ((rdF S Z (b.drop a)).1.toNat / 16) x
                  have hpq := rdP_q5 hfn hb hl (n - k) k (a + (rdF S Z (b.drop a)).2.1 + (rdF S Z (b.drop a)).1.toNat % 16) ((rdF S Z (b.drop a)).1.toNat / 16) x (Nat.le_refl _) h1 h2
                  have haf := rdP_after b f n l hfn (n - k) k (a + (rdF S Z (b.drop a)).2.1 + (rdF S Z (b.drop a)).1.toNat % 16) ((rdF S Z (b.drop a)).1.toNat / 16) x (Nat.le_refl _)
                  generalize rdP b f n l k (a + (rdF S Z (b.drop a)).2.1 + (rdF S Z (b.drop a)).1.toNat % 16) ((rdF S Z (b.drop a)).1.toNat / 16) x = P at *
                  have hkn : P.2.1 < n := by omega
                  have hbd : BdJ f n P.2.1 P.1 := fun j h3 h4 => by rw [haf j h3 h4]; exact h2 j (by omega) h4
                  refine rdG_q5 hfn hb hl q _ _ _ (by omega) (hpq.set _ ?_) (hbd.set hfn hkn _)
                  have h4 := pow_l hl
                  split
                  · rcases bit01 hb (a + (rdF S Z (b.drop a)).2.1) with h5 | h5
                    · rw [h5]; omega
                    · rw [h5]; omega
                  · omega
    · exact ⟨h1, fun _ => h2⟩
theorem zrN_q5 {x : List Int} (h : Q5 x) (f : Nat) : ∀ i, Q5 (zrN x f i)
  | 0 => h
  | i + 1 => (zrN_q5 h f i).set _ (by omega)
theorem rdK_q5 (hfn : f + n ≤ 64) (hb : B01 b) (hl : 0 ≤ l ∧ l ≤ 9) {left a en : Nat} {h : Int} {x : List Int} (h1 : Q5 x) (h2 : BdJ f n 0 x) : Q5 (rdK S Z b left f n h l a en x).1 := by
  unfold rdK rdZ
  split
  · split
    · split
      · exact Q5.nil
      · exact rdP_q5 hfn hb hl n 0 a n x (by omega) h1 h2
    · have hg := rdG_q5 (S := S) (Z := Z) hfn hb hl (left := left) n 0 a x (by omega) h1 h2
      split
      · exact Q5.nil
      · rename_i h9
        split
        · exact Q5.nil
        · exact rdP_q5 hfn hb hl n _ _ n _ (by omega) hg.1 (hg.2 (by simpa using h9))
  · split
    · exact zrN_q5 h1 f n
    · exact rdA_q5 n 0 a _ (by omega) (zrN_q5 h1 f n)
theorem rdAll_q5 (hfn : f + n ≤ 64) (hb : B01 b) (hl : 0 ≤ l ∧ l ≤ 9) {h : Int} : ∀ (G : List (List Int)) (a en : Nat), (∀ x ∈ G, x.length = 64 ∧ GoodB x) → ∀ y ∈ (rdAll S Z b f n h l G a en).1, Q5 y
  | [], a, en, _, y, hy => by cases hy
  | x :: G, a, en, hG, y, hy => by
    have hx := hG x List.mem_cons_self
    have hk := rdK_q5 (S := S) (Z := Z) hfn hb hl (left := G.length + 1) (a := a) (en := en) (h := h) (Q5.good hx.1 hx.2) (fun j _ h3 => by have := tn_bd hx.1 hx.2 f l j (by omega); omega)
    rw [rdAll] at hy
    split at hy
    · cases hy
    · split at hy
      · cases hy
      · rcases List.mem_cons.1 hy with rfl | h3
        · exact hk
        · exact rdAll_q5 hfn hb hl G _ _ (fun q hq => hG q (List.mem_cons_of_mem _ hq)) y h3
theorem rdF_e8 (S Z b : List Int) : 0 ≤ (rdF S Z b).2.2 ∧ (rdF S Z b).2.2 ≤ 8 := by
  unfold rdF
  split
  · rename_i h; exact (Classical.choose_spec h).bd.2.1
  · decide
theorem rdE_e8 {left a k : Nat} {x : List Int} : 0 ≤ (rdE b left a k x).2.2.2 ∧ (rdE b left a k x).2.2.2 ≤ 8 := by
  unfold rdE
  split
  · dsimp only; omega
  · split <;> (dsimp only; omega)
theorem rdA_e8 {left : Nat} : ∀ (q k a : Nat) (x : List Int), n - k ≤ q → 0 ≤ (rdA S Z b left f n l k a x).2.2.2 ∧ (rdA S Z b left f n l k a x).2.2.2 ≤ 8
  | 0, k, a, x, hq => by rw [rdA_out (by omega)]; dsimp only; omega
  | q + 1, k, a, x, hq => by
    rw [rdA]
    split
    · split
      · exact rdF_e8 _ _ _
      · split
        · exact rdE_e8
        · split
          · dsimp only; omega
          · split
            · dsimp only; omega
            · split
              · exact rdA_e8 q _ _ _ (by omega)
              · dsimp only; omega
    · dsimp only; omega
theorem rdG_e8 {left : Nat} : ∀ (q k a : Nat) (x : List Int), n - k ≤ q → 0 ≤ (rdG S Z b left f n l k a x).2.2.2.2 ∧ (rdG S Z b left f n l k a x).2.2.2.2 ≤ 8
  | 0, k, a, x, hq => by rw [rdG_out (by omega)]; dsimp only; omega
  | q + 1, k, a, x, hq => by
    rw [rdG]
    split
    · split
      · exact rdF_e8 _ _ _
      · split
        · exact rdE_e8
        · split
          · dsimp only; omega
          · split
            · dsimp only; omega
            · split
              · dsimp only; omega
              · split
                · dsimp only; omega
                · refine rdG_e8 q _ _ _ ?_
                  have := rdP_ge b f n l k (a + (rdF S Z (b.drop a)).2.1 + (rdF S Z (b.drop a)).1.toNat % 16) ((rdF S Z (b.drop a)).1.toNat / 16) x
                  omega
    · dsimp only; omega
theorem rdP_e8 {k a z : Nat} {x : List Int} : 0 ≤ (rdP b f n l k a z x).2.2.2 ∧ (rdP b f n l k a z x).2.2.2 ≤ 8 := by
  have := (rdP_bd b f n l (n - k) k a z x (Nat.le_refl _)).2.2
  omega
theorem rdK_e8 {left a en : Nat} {h : Int} {x : List Int} : 0 ≤ (rdK S Z b left f n h l a en x).2.2.2 ∧ (rdK S Z b left f n h l a en x).2.2.2 ≤ 8 := by
  unfold rdK rdZ
  split
  · split
    · split
      · exact rdP_e8
      · dsimp only; omega
    · split
      · exact rdG_e8 _ _ _ _ (Nat.le_refl _)
      · split
        · exact rdP_e8
        · dsimp only; omega
  · split
    · dsimp only; omega
    · exact rdA_e8 _ _ _ _ (Nat.le_refl _)
theorem rdAll_e8 {h : Int} : ∀ (G : List (List Int)) (a en : Nat), 0 ≤ (rdAll S Z b f n h l G a en).2.2 ∧ (rdAll S Z b f n h l G a en).2.2 ≤ 8
  | [], a, en => by unfold rdAll; dsimp only; omega
  | x :: G, a, en => by
    rw [rdAll]
    split
    · exact rdK_e8
    · split
      · exact rdAll_e8 G _ _
      · dsimp only; omega
end
section
variable {S Z : List Int} {rp : Nat} {A : Option Addr} {c : Nat} {Bs : List Int} {m : Nat} {f t h l : Int} {G : List (List Int)} {w w' : World} {e : Ending}
theorem blk_nil (w : World) : Blk w none 0 [] := ⟨rfl, .inl rfl, fun x hx => by cases hx⟩
theorem RacP.uni (H : RacP S Z rp A c Bs m f t h l G w e w') (hok : AcOk f t h l G ∧ WhL f.toNat (t.toNat + 1 - f.toNat) h.toNat G) {R : List (List Int) × Nat × Int} (hR : rdAll S Z (bitsOf true Bs) f.toNat (t.toNat + 1 - f.toNat) h l G m 0 = R) (h5 : ∀ y ∈ R.1, Q5 y) :
    ∃ (Ag : Option Addr) (cg : Nat), e = .returned (.tuple #[.slice Ag R.1.length cg, errE R.2.2]) ∧ Blk w' Ag R.1.length R.1 ∧ (R.2.2 = 0 → Re w' rp true A c Bs R.2.1) := by
  obtain ⟨h1, h2⟩ := H.1 hok R hR
  by_cases he : R.2.2 = 0
  · obtain ⟨v, rfl, ho, h64, hlen, hx⟩ := h1 he
    obtain ⟨Ag, cg, rfl, _, _, _⟩ := own_sliceN ho
    rw [he, errE_nil2]
    rw [← hlen] at ho ⊢
    exact ⟨Ag, cg, rfl, Blk.of_own ho rfl (fun x hx => ⟨h64 x hx, (h5 x hx).is⟩), fun _ => hx⟩
  · have h3 := rdAll_err S Z (bitsOf true Bs) f.toNat (t.toNat + 1 - f.toNat) h l G m 0 (by rw [hR]; exact he)
    rw [hR] at h3
    rw [h2 he, errE_ne2 he, ← h3]
    exact ⟨none, 0, rfl, blk_nil _, fun q => absurd q he⟩
theorem Rr22P.uni {R : List (List Int) × Nat × Int} {n : Nat} (H : Rr22P R n w e w') (hR : R.2.2 ≠ 0 → ([], 0, R.2.2) = R) (h5 : ∀ y ∈ R.1, Q5 y) :
    ∃ (Ag : Option Addr) (cg : Nat), e = .returned (.tuple #[.slice Ag R.1.length cg, .int .i64 (R.2.1 : Nat), .int .i64 R.2.2]) ∧ Blk w' Ag R.1.length R.1 ∧ Below w.heap.size w w' := by
  obtain ⟨h1, h2, h4⟩ := H
  by_cases he : R.2.2 = 0
  · obtain ⟨v, rfl, ho, h64, hlen⟩ := h1 he
    obtain ⟨Ag, cg, rfl, _, _, _⟩ := own_sliceN ho
    rw [← hlen] at ho ⊢
    exact ⟨Ag, cg, by rw [he], Blk.of_own ho rfl (fun x hx => ⟨h64 x hx, (h5 x hx).is⟩), h4⟩
  · have h3 := hR he
    rw [h2 he, ← h3]
    exact ⟨none, 0, rfl, blk_nil _, h4⟩
end
end
section
open Go.ChangeShapes Go.WideShapes Go.ChangeAt Go.WideMaps Go.WideElems Go.RowKit Go.Joins
set_option linter.unusedVariables false
set_option maxRecDepth 100000

def RetT (w : World) (e : Ending) (w' : World) : Prop := e = .returned (.bool true) ∧ Below w.heap.size w w'
set_option maxHeartbeats 32000000 in
theorem progReads_any (w : World)
    (cn : List Int) (hcn : cn.length = 16) (hIc : Is cn) (A1 : Option Addr) (n1 c1 : Nat) (ss : List Int) (hn1 : ss.length = n1) (hcc1 : n1 ≤ c1) (hmm1 : c1 ≤ 9223372036854775807) (hR1 : Rd w w.heap.size A1 (bv ss)) (hB1 : Bs ss)
    (A : Option Addr) (nb c : Nat) (bs : List Int) (hnb : bs.length = nb) (hcc : nb ≤ c) (hmm : c ≤ 9223372036854775807) (hR : Rd w w.heap.size A (bv bs)) (hB : Bs bs)
    (A3 : Option Addr) (n3 c3 : Nat) (rows : List (List Value)) (hn3 : rows.length = n3) (hcc3 : n3 ≤ c3) (hmm3 : c3 ≤ 9223372036854775807) (hrows : ∀ r ∈ rows, r.length = 64 ∧ IvN 64 r) (hR3 : Rd w w.heap.size A3 rows.flatten)
    (f : Int) (hf : -9223372036854775808 ≤ f ∧ f ≤ 9223372036854775807) (t : Int) (ht : -9223372036854775808 ≤ t ∧ t ≤ 9223372036854775807) (h : Int) (hh : -9223372036854775808 ≤ h ∧ h ≤ 9223372036854775807) (l : Int) (hl : -9223372036854775808 ≤ l ∧ l ≤ 9223372036854775807) :
    Calls Try.prog 22 #[.agg ((iv cn ++ [Value.slice A1 n1 c1]) ++ ([Value.slice A nb c] ++ ([Value.slice A3 n3 c3] ++ ([Value.int .i64 f] ++ ([Value.int .i64 t] ++ ([Value.int .i64 h] ++ ([Value.int .i64 l]))))))).toArray] w (RetT w) := by
  obtain ⟨L, hL⟩ : ∃ L, L = (iv cn ++ [Value.slice A1 n1 c1]) ++ ([Value.slice A nb c] ++ ([Value.slice A3 n3 c3] ++ ([Value.int .i64 f] ++ ([Value.int .i64 t] ++ ([Value.int .i64 h] ++ ([Value.int .i64 l])))))) := ⟨_, rfl⟩
  rw [← hL]
  have hl1 : (iv cn ++ [Value.slice A1 n1 c1]).length = 17 := by rw [List.length_append, iv_len, hcn]; rfl
  have gg : ∀ k u, [Value.slice A nb c, .slice A3 n3 c3, .int .i64 f, .int .i64 t, .int .i64 h, .int .i64 l][k]? = some u → L[17 + k]? = some u := fun k u hu => by
    rw [hL, List.getElem?_append_right (by rw [hl1]; omega), hl1, show 17 + k - 17 = k by omega]; exact hu
  have G17 := Lib.hid (gg 0 _ rfl)
  have G18 := Lib.hid (gg 1 _ rfl)
  have G19 := Lib.hid (gg 2 _ rfl)
  have G20 := Lib.hid (gg 3 _ rfl)
  have G21 := Lib.hid (gg 4 _ rfl)
  have G22 := Lib.hid (gg 5 _ rfl)
  have r1 : ∀ j v, (iv cn ++ [Value.slice A1 n1 c1])[j]? = some v → L[0 + j]? = some v := fun j v hv => by
    have := (List.getElem?_eq_some_iff.1 hv).1
    rw [Nat.zero_add, hL, List.getElem?_append_left this]; exact hv
  have R1 := Lib.hid r1
  have H17 := Lib.hid hl1
  have HN := Lib.hid hnb
  have HN1 := Lib.hid hn1
  have HC1 := Lib.hid hcn
  have X0 := Bln.new w 135 L
  have hb0 : Below w.heap.size w (w.alloc (.cells L.toArray 135)) := (Below.refl _ _).alloc (Nat.le_refl _) _
  obtain ⟨G, rfl, hG0⟩ := rows_ivs rows hrows
  have hglen : G.length = n3 := by rw [← hn3, List.length_map]
  have hblk : Blk w A3 n3 G := ⟨hglen, hR3, hG0⟩
  have HBK := Lib.hid hblk
  have HG0 := Lib.hid hG0
  clear hL r1 gg hl1 hnb hn1 hcn hrows hR3 hn3 hG0 hblk
  go_enter Try.func22, Try.ntmps22
  go_upto_region 1 with fail
  generalize w.alloc (.cells L.toArray 135) = w0 at *
  have hs0 := hb0.size
  have hgl := X0.lt
  obtain ⟨gb, hgb⟩ : ∃ g, g = w.heap.size := ⟨_, rfl⟩
  rw [← hgb] at X0 hgl ⊢
  have hgb1 : gb ≤ w.heap.size := by omega
  have hgb2 : w.heap.size ≤ gb := by omega
  clear hgb
  go_wp2_with fail
  refine (alive22_any w0).mono ?_; rintro e w1 ⟨rfl, hb1⟩
  have X1 := X0.below hb1
  have hb1' := hb0.trans (hb1.mono hs0)
  have hs1 := hb1'.size
  have hg1 : gb < w1.heap.size := X1.lt
  have k17 := X1.cell G17.out
  have k18 := X1.cell G18.out
  clear X0 hb1 hb0 hs0 hgl
  by_cases h200 : 200 < nb
  · have d1 : decide ((200 : Int) < (nb : Int)) = true := decide_eq_true (by omega)
    go_wp2
    go_ret
    exact ⟨rfl, hb1'⟩
  have d1 : decide ((200 : Int) < (nb : Int)) = false := decide_eq_false (by omega)
  by_cases h40 : 40 < n3
  · have d2 : decide ((40 : Int) < (n3 : Int)) = true := decide_eq_true (by omega)
    go_wp2
    go_ret
    exact ⟨rfl, hb1'⟩
  have d2 : decide ((40 : Int) < (n3 : Int)) = false := decide_eq_false (by omega)
  have hr1 : w1.rangeAt gb 0 (iv cn ++ [Value.slice A1 n1 c1]) := X1.range 0 _ R1.out
  go_wp2_with (refine wpList_load_mid rfl 86 (.tmp 26) rfl _ _ rfl (iv cn ++ [Value.slice A1 n1 c1]) _ hr1 Try.underlying86 rfl (by rw [H17.out]; kernel_rfl) ?_)
  refine (refTable_any A1 n1 c1 cn ss w1 HC1.out hIc HN1.out ((hR1.below hb1').more hs1) hB1 (by omega)).mono ?_; rintro e w9 ⟨h1a, h1b, hb9⟩
  have X9 := X1.below hb9
  have hb9' := hb1'.trans (hb9.mono hs1)
  have hs9 := hb9'.size
  clear hr1 X1 k17 k18 d1 d2
  by_cases hk : TabOk cn ss
  · obtain ⟨At, ct, rfl, hcs⟩ := h1a hk
    have HK := Lib.hid hk
    rw [HN1.out]
    have hcs' := hcs.cs
    have hr1 : w9.rangeAt gb 0 (iv cn ++ [Value.slice A1 n1 c1]) := X9.range 0 _ R1.out
    clear h1a h1b hk hcs
    go_wp2_with (refine wpList_load_mid rfl 86 (.tmp 34) rfl _ _ rfl (iv cn ++ [Value.slice A1 n1 c1]) _ hr1 Try.underlying86 rfl (by rw [H17.out]; kernel_rfl) ?_)
    have hn1b : n1 ≤ 1000 := by have := nodupI_le HK.out.2.2.1 hB1; rw [HN1.out] at this; omega
    refine (newTable_any A1 n1 c1 cn ss w9 HC1.out hIc HN1.out ((hR1.below hb9').more hs9) hB1 (by omega)).mono ?_; rintro e w10 ⟨h3, _, hb10⟩
    obtain ⟨p1, ls, O, C, rfl, hBk, hO, hV, hsy, hsz, hzr⟩ := h3 HK.out
    have X10 := X9.below hb10
    have hb10' := hb9'.trans (hb10.mono hs9)
    have hs10 := hb10'.size
    have hcs10 := (hcs'.keep (hb10.mono hcs'.size))
    rw [← hsy, ← hsz] at hcs10
    have hK10 := BkS.of hBk.bk
    have HO := Lib.hid hO
    have hol : (sz ls O).length = n1 := by
      have : (sy O).length = n1 := by rw [hsy, HN1.out]
      rw [← this]; simp [sz, sy]
    have HOL := Lib.hid hol
    have hsy5 : ∀ x ∈ sy O, 0 ≤ x ∧ x ≤ 255 := by rw [hsy]; exact hB1
    have HSY := Lib.hid hsy5
    have k18 := X10.cell G18.out
    obtain ⟨j0, zb, hj0, hy0, hy1, hy2, hy3, _⟩ := info_blk23
    have hba : Below w10.heap.size w10 (w10.alloc (.cells #[] 70)) := (Below.refl _ _).alloc (Nat.le_refl _) _
    have hown0 : (w10.alloc (.cells #[] 70)).ownsRow w10.heap.size 70 64 (.slice (some ⟨w10.heap.size, 0, none⟩) 0 0) 0 [] :=
      World.ownsRow_made w10 #[] 0 (Nat.le_refl _) (by unfold maxLen; omega) (by simp)
    have hbk1 := HBK.out.below hb10'
    have hRa := hbk1.rd.below hba
    have hfl := flat_len64 hbk1.l64
    rw [hbk1.len] at hfl
    have hone := one_ivs G
    have k18a : (w10.alloc (.cells #[] 70)).cell? ⟨gb, 18, none⟩ = some (.slice A3 n3 c3) := (hba.cell (p := ⟨gb, 18, none⟩) X10.lt).trans k18
    clear h3 hr1 X9 hBk hO hV hsy hsz hzr hol hcs' hb10 hsy5 k18
    go_upto_region 12 with (at_builtin; refine wpList_appN0 _ rfl (.tmp 41) (.tmp 43) 105 rfl Try.underlying105 hj0 hy0 hy1 hy2 hy3 (by omega) hown0 rfl rfl hRa hfl hone (by omega) (by omega) hba.size ?_; intro v11 w11 hown11 hap11; have hb11 : Below w10.heap.size w10 w11 := hba.trans (hap11.below (fun k hk => (hown0.lt k hk).1) hba.size); simp only [Nat.zero_add, List.nil_append] at hown11)
    obtain ⟨Al, cl, hve, _, hcl, _⟩ := own_sliceN hown11
    subst hve
    have X11 := X10.below hb11
    have hb11' := hb10'.trans (hb11.mono hs10)
    have hs11 := hb11'.size
    have hcs11 := hcs10.keep (hb11.mono hcs10.size)
    have hK11 := hK10.keep hb11
    have hKs := hK10.size
    have hlk := fun k hk => (hown11.lt k hk).2
    have hsz11 := hb11.size
    have hcs11s := hcs11.size
    have hgb11 := X11.lt
    clear hown0 hba hRa hfl hone hap11 hbk1 k18a X10 hcs10 hK10
    have k17 := X11.cell G17.out
    go_wp2_with fail
    refine (newReader_any A nb c true bs w11 HN.out ((hR.below hb11').more hs11) hB (by omega)).mono ?_; rintro e w12 ⟨rp, Ar, cr, rfl, hx12, hrp, hAr, hb12⟩
    have hsz12 := hb12.size
    have X12 := X11.below hb12
    have hb12' := hb11'.trans (hb12.mono hs11)
    have hs12 := hb12'.size
    have hcs12 := hcs11.keep (hb12.mono hcs11.size)
    have hK12 := hK11.keep (hb12.mono hK11.size)
    have ho12 := own_keepN hown11 hb12
    have y19 := X12.cell G19.out
    have y20 := X12.cell G20.out
    have y21 := X12.cell G21.out
    have y22 := X12.cell G22.out
    clear X11 hcs11 hK11 k17
    go_wp2_with fail
    refine (band_any f t h l w12).mono ?_; rintro e w13 ⟨rfl, hb13⟩
    have hsz13 := hb13.size
    have X13 := X12.below hb13
    have hb13' := hb12'.trans (hb13.mono hs12)
    have hs13 := hb13'.size
    have hcs13 := hcs12.keep (hb13.mono hcs12.size)
    have hK13 := hK12.keep (hb13.mono hK12.size)
    have hx13 := hx12.below hb13
    have ho13 := own_keepN ho12 hb13
    clear X12 hcs12 hK12 hb13 hx12 y19 y20 y21 y22 ho12 hown11
    have hpm : bs.length ≤ 68719476736 := by rw [HN.out]; omega
    have hArl : ∀ q, Ar = some q → q.block < w13.heap.size := fun q hq => by have := (hAr q hq).2; have := hx13.lt; omega
    have hbl13 : Blk w13 Al n3 G := Blk.of_own ho13 HBK.out.len HG0.out
    go_wp2_with fail
    refine (pread_any hK13 HO.out HSY.out (by omega) hx13 hpm hArl (c2 := cl) hbl13 (by omega) f t h l).mono ?_; rintro e w14 hrac
    have hf14 := hrac.2.2
    have hb14 : Below w11.heap.size w13 w14 := hf14.below hrp (by omega)
    have hb14' := hb13'.trans (hb14.mono (by omega))
    have hs14 := hb14'.size
    have X14 := X13.keep hf14 (by omega)
    have hcs14 := hcs13.keep (hb14.mono hcs11s)
    have ho14 := hf14.ownN ho13 (fun k hk e => by have := hlk k hk; omega)
    have hbl14 : Blk w14 Al n3 G := Blk.of_own ho14 HBK.out.len HG0.out
    have hbk14 := HBK.out.below hb14'
    clear X13 hcs13 hK13 hx13 ho13 hbl13 ho14 hArl
    by_cases hok : AcOk f t h l G ∧ WhL f.toNat (t.toNat + 1 - f.toNat) h.toNat G
    · have HOK := Lib.hid hok
      obtain ⟨R, hRq⟩ : ∃ R, rdAll (sy O) (sz ls O) (bitsOf true bs) f.toNat (t.toNat + 1 - f.toNat) h l G 0 0 = R := ⟨_, rfl⟩
      have hgd := hok.1.1
      have hgd2 : 1 ≤ f ∧ f ≤ t ∧ t ≤ 63 ∧ 0 ≤ l ∧ l ≤ 9 ∧ 0 ≤ h ∧ h ≤ 10 := by have := hok.1.2.1; unfold Gd at hgd; omega
      have hGg : ∀ x ∈ G, x.length = 64 ∧ GoodB x := fun x hx => ⟨(HG0.out x hx).1, hok.1.2.2 x hx⟩
      have h5 : ∀ y ∈ R.1, Q5 y := by rw [← hRq]; exact rdAll_q5 (by omega) (bitsOf_01 true bs) (by omega) G 0 0 hGg
      have he8 : 0 ≤ R.2.2 ∧ R.2.2 ≤ 8 := by rw [← hRq]; exact rdAll_e8 G 0 0
      obtain ⟨Ag, cg, rfl, hbg, hxr⟩ := hrac.uni hok hRq h5
      have hRerr : R.2.2 ≠ 0 → ([], 0, R.2.2) = R := fun h9 => by rw [← hRq] at h9 ⊢; exact rdAll_err _ _ _ _ _ _ _ _ _ _ h9
      have HRQ := Lib.hid hRq
      have H5 := Lib.hid h5
      have HRER := Lib.hid hRerr
      have hRn : R.1.length ≤ 2000000 := by
        rcases Classical.em (R.2.2 = 0) with h9 | h9
        · obtain ⟨_, _, _, _, hl9, _⟩ := (hrac.1 hok R hRq).1 h9
          omega
        · have := HRER.out h9; rw [← this]; exact Nat.zero_le _
      have HRAC := Lib.hid hrac
      obtain ⟨F, rfl⟩ := Int.eq_ofNat_of_zero_le (show 0 ≤ f by omega)
      obtain ⟨T, rfl⟩ := Int.eq_ofNat_of_zero_le (show 0 ≤ t by omega)
      obtain ⟨H, rfl⟩ := Int.eq_ofNat_of_zero_le (show 0 ≤ h by omega)
      obtain ⟨K, rfl⟩ := Int.eq_ofNat_of_zero_le (show 0 ≤ l by omega)
      have hwh := hok.2
      rw [Int.toNat_natCast, Int.toNat_natCast, Int.toNat_natCast] at hwh
      rw [Int.toNat_natCast, Int.toNat_natCast] at HRQ
      have HWH := Lib.hid hwh
      obtain ⟨ev, hev⟩ : ∃ ev, ev = errE R.2.2 := ⟨_, rfl⟩
      rw [← hev]
      have HEV := Lib.hid hev
      have k18 := X14.cell G18.out
      have hft : F ≤ T := by omega
      have hT63 : T ≤ 63 := by omega
      have hF1 : 1 ≤ F := by omega
      have hH10 : H ≤ 10 := by omega
      have hK9 : K ≤ 9 := by omega
      clear hrac hok hRq h5 hRerr hev hwh hgd hgd2 hGg
      go_wp2_with fail
      refine (same22_any Al A3 n3 cl n3 c3 G G w14 hbl14 hbk14 (by omega)).mono ?_; rintro e w15 ⟨rfl, hb15⟩
      rw [decide_eq_true (rfl : G = G)]
      have X15 := X14.below hb15
      have hcs15 := hcs14.keep (hb15.mono hcs14.size)
      have hbg15 := hbg.below hb15
      have hb15' := hb14'.trans (hb15.mono hs14)
      have hs15 := hb15'.size
      have hxr15 : R.2.2 = 0 → Re w15 rp true Ar cr bs R.2.1 := fun h9 => (hxr h9).below hb15
      have y19 := X15.cell G19.out
      have y20 := X15.cell G20.out
      have y21 := X15.cell G21.out
      have y22 := X15.cell G22.out
      clear X14 hcs14 hbg hb15 hxr hbl14 hbk14 k18
      go_wp2_with fail
      refine (rgood_any (F : Int) (T : Int) (H : Int) (K : Int) true (fun hg => rfl) (fun hg => absurd HOK.out.1.1 hg) w15).mono ?_; rintro e w16 ⟨rfl, hb16⟩
      have X16 := X15.below hb16
      have hcs16 := hcs15.keep (hb16.mono hcs15.size)
      have hbg16 := hbg15.below hb16
      have hb16' := hb15'.trans (hb16.mono hs15)
      have hs16 := hb16'.size
      have hxr16 : R.2.2 = 0 → Re w16 rp true Ar cr bs R.2.1 := fun h9 => (hxr15 h9).below hb16
      clear y19 y20 y21 y22
      have y19 := X16.cell G19.out
      have k18 := X16.cell G18.out
      have dF0 : ((F : Int) == 0) = false := by simp; omega
      clear X15 hcs15 hbg15 hb16 hxr15
      go_wp2_with fail
      refine (blocks22_any A3 n3 c3 G w16 (HBK.out.below hb16') (by omega)).mono ?_; rintro e w17 ⟨rfl, hb17⟩
      rw [gL_t HOK.out.1.2.2]
      have X17 := X16.below hb17
      have hcs17 := hcs16.keep (hb17.mono hcs16.size)
      have hbg17 := hbg16.below hb17
      have hb17' := hb16'.trans (hb17.mono hs16)
      have hs17 := hb17'.size
      have hxr17 : R.2.2 = 0 → Re w17 rp true Ar cr bs R.2.1 := fun h9 => (hxr16 h9).below hb17
      clear y19 k18
      have y19 := X17.cell G19.out
      have y20 := X17.cell G20.out
      have y21 := X17.cell G21.out
      have y22 := X17.cell G22.out
      have k18 := X17.cell G18.out
      clear X16 hcs16 hbg16 hb17 hxr16
      go_wp2_with fail
      refine (rwhole_any (c := c3) (HBK.out.below hb17') (by omega) F T H (K : Int) hft hT63 hH10).mono ?_; rintro e wc ⟨rfl, hb18⟩
      rw [whL_t HWH.out]
      have X18 := X17.below hb18
      have hcs18 := hcs17.keep (hb18.mono hcs17.size)
      have hbg18 := hbg17.below hb18
      have hb18' := hb17'.trans (hb18.mono hs17)
      have hs18 := hb18'.size
      have hxr18 : R.2.2 = 0 → Re wc rp true Ar cr bs R.2.1 := fun h9 => (hxr17 h9).below hb18
      clear y19 y20 y21 y22 k18
      have y19 := X18.cell G19.out
      have y20 := X18.cell G20.out
      have y21 := X18.cell G21.out
      have y22 := X18.cell G22.out
      have k17 := X18.cell G17.out
      have k18 := X18.cell G18.out
      have hgb13 := X18.lt
      have hR13 := (hR.below hb18').more hs18
      have hbl : (bitsOf true bs).length = 8 * nb := by rw [bitsOf_len, HN.out]
      clear X17 hcs17 hbg17 hb18 hxr17
      go_upto_region 18 with fail
      have hQK : ∀ W W' : World, (Below wc.heap.size wc W ∧ W.cell? ⟨gb, 17, none⟩ = some (.slice A nb c) ∧ W.cell? ⟨gb, 18, none⟩ = some (.slice A3 n3 c3) ∧ W.cell? ⟨gb, 19, none⟩ = some (.int .i64 (F : Int)) ∧ W.cell? ⟨gb, 20, none⟩ = some (.int .i64 (T : Int)) ∧ W.cell? ⟨gb, 21, none⟩ = some (.int .i64 (H : Int)) ∧ W.cell? ⟨gb, 22, none⟩ = some (.int .i64 (K : Int))) → Below W.heap.size W W' → (Below wc.heap.size wc W' ∧ W'.cell? ⟨gb, 17, none⟩ = some (.slice A nb c) ∧ W'.cell? ⟨gb, 18, none⟩ = some (.slice A3 n3 c3) ∧ W'.cell? ⟨gb, 19, none⟩ = some (.int .i64 (F : Int)) ∧ W'.cell? ⟨gb, 20, none⟩ = some (.int .i64 (T : Int)) ∧ W'.cell? ⟨gb, 21, none⟩ = some (.int .i64 (H : Int)) ∧ W'.cell? ⟨gb, 22, none⟩ = some (.int .i64 (K : Int))) := fun W W' h hb => by
        have h2 := h.1.trans (hb.mono h.1.size)
        exact ⟨h2, (h2.cell (p := ⟨gb, 17, none⟩) hgb13).trans k17, (h2.cell (p := ⟨gb, 18, none⟩) hgb13).trans k18, (h2.cell (p := ⟨gb, 19, none⟩) hgb13).trans y19, (h2.cell (p := ⟨gb, 20, none⟩) hgb13).trans y20, (h2.cell (p := ⟨gb, 21, none⟩) hgb13).trans y21, (h2.cell (p := ⟨gb, 22, none⟩) hgb13).trans y22⟩
      have hQR : ∀ W : World, (Below wc.heap.size wc W ∧ W.cell? ⟨gb, 17, none⟩ = some (.slice A nb c) ∧ W.cell? ⟨gb, 18, none⟩ = some (.slice A3 n3 c3) ∧ W.cell? ⟨gb, 19, none⟩ = some (.int .i64 (F : Int)) ∧ W.cell? ⟨gb, 20, none⟩ = some (.int .i64 (T : Int)) ∧ W.cell? ⟨gb, 21, none⟩ = some (.int .i64 (H : Int)) ∧ W.cell? ⟨gb, 22, none⟩ = some (.int .i64 (K : Int))) → Rd W W.heap.size A (bv bs) := fun W h => (hR13.below h.1).more h.1.size
      have hRR : ∀ (W : World) (A' : Option Addr) (c' : Nat), (Below wc.heap.size wc W ∧ W.cell? ⟨gb, 17, none⟩ = some (.slice A nb c) ∧ W.cell? ⟨gb, 18, none⟩ = some (.slice A3 n3 c3) ∧ W.cell? ⟨gb, 19, none⟩ = some (.int .i64 (F : Int)) ∧ W.cell? ⟨gb, 20, none⟩ = some (.int .i64 (T : Int)) ∧ W.cell? ⟨gb, 21, none⟩ = some (.int .i64 (H : Int)) ∧ W.cell? ⟨gb, 22, none⟩ = some (.int .i64 (K : Int))) → Rd W W.heap.size A' (iv (bitsOf true bs)) → (∀ q, A' = some q → q.block < W.heap.size) → (8 * nb ≤ c' ∧ c' ≤ 9223372036854775807) →
          Calls Try.prog 79 #[.slice At n1 ct, .slice A' (8 * nb) c', .slice A3 n3 c3, .agg #[.int .i64 (F : Int), .int .i64 (T : Int), .int .i64 (H : Int), .int .i64 (K : Int)]] W (fun e w' => ∃ (Aw : Option Addr) (cw : Nat), e = .returned (.tuple #[.slice Aw R.1.length cw, .int .i64 (R.2.1 : Nat), .int .i64 R.2.2]) ∧ Blk w' Aw R.1.length R.1 ∧ Below W.heap.size W w') := fun W A' c' hS hRb hAb hcb => by
        have := rread22_any (c1 := ct) (c := c') (c2 := c3) (hcs18.keep (hS.1.mono hcs18.size)) HO.out.zs HOL.out (by omega) HSY.out (bitsOf_01 true bs) hRb hAb (by rw [hbl]; omega) (HBK.out.below (hb18'.trans (hS.1.mono hs18))) (by omega) F T H K hF1 hft hT63 hK9 HOK.out.1.2.2 HRQ.out
        rw [hbl] at this
        exact this.mono (fun e w' h9 => h9.uni HRER.out H5.out)
      have HQK := Lib.hid hQK
      have HQR := Lib.hid hQR
      have HRR := Lib.hid hRR
      have HBN := Lib.hid (Below.refl wc.heap.size wc)
      have HXR := Lib.hid hxr18
      have HBG := Lib.hid hbg18
      clear hQK hQR hRR hR13 hxr18 hbg18
      go_region_held3 (fun W => Below wc.heap.size wc W ∧ W.cell? ⟨gb, 17, none⟩ = some (.slice A nb c) ∧ W.cell? ⟨gb, 18, none⟩ = some (.slice A3 n3 c3) ∧ W.cell? ⟨gb, 19, none⟩ = some (.int .i64 (F : Int)) ∧ W.cell? ⟨gb, 20, none⟩ = some (.int .i64 (T : Int)) ∧ W.cell? ⟨gb, 21, none⟩ = some (.int .i64 (H : Int)) ∧ W.cell? ⟨gb, 22, none⟩ = some (.int .i64 (K : Int)))
        (first | exact ⟨HBN.out, k17, k18, y19, y20, y21, y22⟩ | exact ⟨Below.drew HBN.out, k17, k18, y19, y20, y21, y22⟩ | assumption | go_keep)
        (first | (go_at_call 86; refine (rbits_any A nb c bs true _ HN.out (HQR.out _ (by assumption)) hB (by omega)).mono ?_; rintro e wq ⟨vq, rfl, hoq, hbq⟩; obtain ⟨Aq, cq, hvq, hcq1, hcq2, hRq⟩ := own_sliceN hoq; subst hvq; have hltq := hoq.lt; have hq := HQK.out _ _ (by assumption) hbq) | (go_at_call 79; refine (HRR.out _ Aq cq (by assumption) hRq (fun q hq9 => by subst hq9; exact (hltq _ rfl).2) (by omega)).mono ?_; rintro e3 w20 ⟨Aw, cw, rfl, hbw, hb20⟩; have hq3 := HQK.out _ _ (by assumption) hb20))
      have hb20' := hb18'.trans (hq3.1.mono hs18)
      have hs20 := hb20'.size
      have hbg20 := HBG.out.below hq3.1
      have hq31 := hq3.1
      clear hq3 hq hbq hoq hb20
      rw [HEV.out]
      go_wp2_with fail
      refine (same22_any Ag Aw R.1.length cg R.1.length cw R.1 R.1 w20 hbg20 hbw hRn).mono ?_; rintro e w21 ⟨rfl, hb21⟩
      rw [decide_eq_true (rfl : R.1 = R.1)]
      have hb21' := hb20'.trans (hb21.mono hs20)
      clear hbg20 hbw
      by_cases hbad : R.2.2 = 0
      · have hx21 := ((HXR.out hbad).below hq31).below hb21
        have d2 : (R.2.2 != 0) = false := by simp; exact hbad
        have d3 : (R.2.2 == 0) = true := by simp; exact hbad
        clear hbad
        go_wp2_with (first | (go_at_call 87; refine (num_E _ he8 _).mono ?_; rintro e w' ⟨rfl, rfl⟩) | (go_at_call 64; refine (at_any hx21).mono ?_; rintro e w' ⟨rfl, rfl⟩))
        go_ret
        exact ⟨ret_bool (by simp), hb21'⟩
      · have d2 : (R.2.2 != 0) = true := by simp; exact hbad
        have d3 : (R.2.2 == 0) = false := by simp; exact hbad
        clear hbad
        go_wp2_with (go_at_call 87; refine (num_E _ he8 _).mono ?_; rintro e w' ⟨rfl, rfl⟩)
        go_ret
        exact ⟨ret_bool (by simp), hb21'⟩
    · have hre := hrac.2.1 hok
      subst hre
      have HOK := Lib.hid hok
      have k18 := X14.cell G18.out
      clear hrac hok
      unfold errV
      go_wp2_with fail
      refine (same22_any Al A3 n3 cl n3 c3 G G w14 hbl14 hbk14 (by omega)).mono ?_; rintro e w15 ⟨rfl, hb15⟩
      rw [decide_eq_true (rfl : G = G)]
      have X15 := X14.below hb15
      have hb15' := hb14'.trans (hb15.mono hs14)
      have hs15 := hb15'.size
      have y19 := X15.cell G19.out
      have y20 := X15.cell G20.out
      have y21 := X15.cell G21.out
      have y22 := X15.cell G22.out
      clear X14 hcs14 hb15 hbl14 hbk14 k18
      by_cases hgd : Gd f t h l
      · have HGD := Lib.hid hgd
        go_wp2_with fail
        refine (rgood_any f t h l true (fun hg => rfl) (fun hg => absurd hgd hg) w15).mono ?_; rintro e w16 ⟨rfl, hb16⟩
        have X16 := X15.below hb16
        have hb16' := hb15'.trans (hb16.mono hs15)
        have hs16 := hb16'.size
        clear y19 y20 y21 y22 hgd
        have y19 := X16.cell G19.out
        have k18 := X16.cell G18.out
        clear X15 hb16
        by_cases hf0 : f = 0
        · have dF0 : (f == 0) = true := by simp; exact hf0
          clear hf0
          go_wp2_with fail
          refine (is_err 6 6 (by omega) _).mono ?_; rintro e w' ⟨rfl, rfl⟩
          go_wp2
          go_ret
          exact ⟨rfl, hb16'⟩
        · have dF0 : (f == 0) = false := by simp; exact hf0
          have HF0 := Lib.hid hf0
          clear hf0
          go_wp2_with fail
          refine (blocks22_any A3 n3 c3 G w16 (HBK.out.below hb16') (by omega)).mono ?_; rintro e w17 ⟨rfl, hb17⟩
          have X17 := X16.below hb17
          have hb17' := hb16'.trans (hb17.mono hs16)
          have hs17 := hb17'.size
          clear y19 k18
          have y19 := X17.cell G19.out
          have y20 := X17.cell G20.out
          have y21 := X17.cell G21.out
          have y22 := X17.cell G22.out
          have k18 := X17.cell G18.out
          clear X16 hb17
          by_cases hgl : GoodL G
          · rw [gL_t hgl]
            have hnw : ¬ WhL f.toNat (t.toNat + 1 - f.toNat) h.toNat G := fun h9 => HOK.out ⟨⟨HGD.out, HF0.out, hgl⟩, h9⟩
            have hgd2 : 1 ≤ f ∧ f ≤ t ∧ t ≤ 63 ∧ 0 ≤ l ∧ l ≤ 9 ∧ 0 ≤ h ∧ h ≤ 10 := by have := HGD.out; have := HF0.out; unfold Gd at *; omega
            obtain ⟨F, rfl⟩ := Int.eq_ofNat_of_zero_le (show 0 ≤ f by omega)
            obtain ⟨T, rfl⟩ := Int.eq_ofNat_of_zero_le (show 0 ≤ t by omega)
            obtain ⟨H, rfl⟩ := Int.eq_ofNat_of_zero_le (show 0 ≤ h by omega)
            rw [Int.toNat_natCast, Int.toNat_natCast, Int.toNat_natCast] at hnw
            have HNW := Lib.hid hnw
            have hft : F ≤ T := by omega
            have hT63 : T ≤ 63 := by omega
            have hH10 : H ≤ 10 := by omega
            clear hnw hgd2 hgl
            go_wp2_with fail
            refine (rwhole_any (c := c3) (HBK.out.below hb17') (by omega) F T H l hft hT63 hH10).mono ?_; rintro e wc ⟨rfl, hb18⟩
            rw [whL_f HNW.out]
            have hb18' := hb17'.trans (hb18.mono hs17)
            clear hb18
            go_wp2_with fail
            refine (is_err 6 6 (by omega) _).mono ?_; rintro e w' ⟨rfl, rfl⟩
            go_wp2
            go_ret
            exact ⟨rfl, hb18'⟩
          · rw [gL_f hgl]
            clear hgl
            go_wp2_with fail
            refine (is_err 6 6 (by omega) _).mono ?_; rintro e w' ⟨rfl, rfl⟩
            go_wp2
            go_ret
            exact ⟨rfl, hb17'⟩
      · have HGD := Lib.hid hgd
        go_wp2_with fail
        refine (rgood_any f t h l false (fun hg => absurd hg hgd) (fun hg => rfl) w15).mono ?_; rintro e w16 ⟨rfl, hb16⟩
        have hb16' := hb15'.trans (hb16.mono hs15)
        clear y19 y20 y21 y22 hgd hb16
        go_wp2_with fail
        refine (is_err 6 6 (by omega) _).mono ?_; rintro e w' ⟨rfl, rfl⟩
        go_wp2
        go_ret
        exact ⟨rfl, hb16'⟩
  · obtain rfl := h1b hk
    go_wp2
    go_ret
    exact ⟨rfl, hb9'⟩

namespace ProgReads
set_option maxRecDepth 100000 in
theorem contract (H : Type) (enc : TypeId × Value → H) (W : World) (base : Nat) (args : Array Value) (ds gs : List (DataW H)) (before : List MemPlace)
    (hval : ∀ (j : Nat) t v, Try.f22.params[j]? = some t → args[j]? = some v → Value.okWide Try.prog W .any base t v)
    (hW : DataW.Whole enc Try.prog Try.f22.params.toList Rows.progReadsSpec.vars false W args.toList ds gs before) :
    Calls Try.prog 22 args W fun e W' => ∃ v, e = .returned v ∧ Rows.progReadsSpec.post enc Try.prog Try.f22 false true false false W args v W' := by
  have hW' := hW
  obtain ⟨p, q, hA0, hV, rfl, hfz, hnd⟩ := hW
  have hA : DataW.TrodAll enc Try.prog W 0 (fun _ => true) true Try.f22.params.toList args.toList ds p := hA0
  rw [Try.params22] at hA hval
  clear hA0
  obtain ⟨v0, vs0, d0, ds0, p0, q0, hargs, rfl, rfl, h0, r0⟩ := trodAll_cons hA
  obtain ⟨rfl, rfl, rfl⟩ := trodAll_nil r0
  obtain rfl : args = #[v0] := by cases args; simp_all
  obtain ⟨rfl, rfl⟩ := trodVars_none hV
  obtain ⟨l0, rfl, hl0, n0, hf0⟩ := open_str Try.underlying135 (hval 0 _ _ rfl rfl) h0
  rw [show Try.prog.cellsOf 135 = 23 by kernel_rfl] at hl0
  obtain ⟨y0_0, hy0_0⟩ := hf0 0 _ rfl
  replace hy0_0 : DataW.trod enc Try.prog W 0 (fun _ => true) true n0 86 ((l0.drop 0).take 17) = some y0_0 := by have h : DataW.trod enc Try.prog W 0 (fun _ => true) true n0 86 ((l0.drop 0).take (Try.prog.cellsOf 86)) = some y0_0 := hy0_0; rw [show Try.prog.cellsOf 86 = 17 by kernel_rfl] at h; exact h
  obtain ⟨l0_0, q0_0⟩ : ∃ z, (l0.drop 0).take 17 = z := ⟨_, rfl⟩
  rw [q0_0] at hy0_0
  obtain ⟨hl0_0, n0_0, hf0_0⟩ := sub_str Try.underlying86 hy0_0
  rw [show Try.prog.cellsOf 86 = 17 by kernel_rfl] at hl0_0
  obtain ⟨y0_0_0, hy0_0_0⟩ := hf0_0 0 _ rfl
  replace hy0_0_0 : DataW.trod enc Try.prog W 0 (fun _ => true) true n0_0 84 ((l0_0.drop 0).take 16) = some y0_0_0 := by have h : DataW.trod enc Try.prog W 0 (fun _ => true) true n0_0 84 ((l0_0.drop 0).take (Try.prog.cellsOf 84)) = some y0_0_0 := hy0_0_0; rw [show Try.prog.cellsOf 84 = 16 by kernel_rfl] at h; exact h
  obtain ⟨x0, ex0, hlx0, hIx0⟩ := arr_ints Try.underlying84 Try.underlying3 (by kernel_rfl) (by kernel_rfl) hy0_0_0
  obtain ⟨y0_0_1, hy0_0_1⟩ := hf0_0 1 _ rfl
  replace hy0_0_1 : DataW.trod enc Try.prog W 0 (fun _ => true) true n0_0 79 ((l0_0.drop 16).take 1) = some y0_0_1 := by have h : DataW.trod enc Try.prog W 0 (fun _ => true) true n0_0 79 ((l0_0.drop 16).take (Try.prog.cellsOf 79)) = some y0_0_1 := hy0_0_1; rw [show Try.prog.cellsOf 79 = 1 by kernel_rfl] at h; exact h
  obtain ⟨vx1, ex1⟩ := take_one (l := l0_0) (o := 16) (by omega)
  rw [ex1] at hy0_0_1
  obtain ⟨Ax1, nx1, cx1, x1, rfl, hnx1, hcx1, hmx1, hRx1, hwx1⟩ := open_rd Try.underlying79 Try.underlying5 (by kernel_rfl) hy0_0_1
  have e0_0 := show l0_0 = _ from parts_cons ex0 (parts_cons ex1 (parts_nil hl0_0))
  obtain ⟨y0_1, hy0_1⟩ := hf0 1 _ rfl
  replace hy0_1 : DataW.trod enc Try.prog W 0 (fun _ => true) true n0 79 ((l0.drop 17).take 1) = some y0_1 := by have h : DataW.trod enc Try.prog W 0 (fun _ => true) true n0 79 ((l0.drop 17).take (Try.prog.cellsOf 79)) = some y0_1 := hy0_1; rw [show Try.prog.cellsOf 79 = 1 by kernel_rfl] at h; exact h
  obtain ⟨vx2, ex2⟩ := take_one (l := l0) (o := 17) (by omega)
  rw [ex2] at hy0_1
  obtain ⟨Ax2, nx2, cx2, x2, rfl, hnx2, hcx2, hmx2, hRx2, hwx2⟩ := open_rd Try.underlying79 Try.underlying5 (by kernel_rfl) hy0_1
  obtain ⟨y0_2, hy0_2⟩ := hf0 2 _ rfl
  replace hy0_2 : DataW.trod enc Try.prog W 0 (fun _ => true) true n0 105 ((l0.drop 18).take 1) = some y0_2 := by have h : DataW.trod enc Try.prog W 0 (fun _ => true) true n0 105 ((l0.drop 18).take (Try.prog.cellsOf 105)) = some y0_2 := hy0_2; rw [show Try.prog.cellsOf 105 = 1 by kernel_rfl] at h; exact h
  obtain ⟨vx3, ex3⟩ := take_one (l := l0) (o := 18) (by omega)
  rw [ex3] at hy0_2
  obtain ⟨Ax3, nx3, cx3, x3, rfl, hnx3, hcx3, hmx3, hQx3, hRx3⟩ := open_rows (m := 64) (Q := IvN 64) Try.underlying105 (by kernel_rfl) (by omega) (fun _ _ _ hl hy => blk_ivn hl hy) hy0_2
  obtain ⟨y0_3, hy0_3⟩ := hf0 3 _ rfl
  replace hy0_3 : DataW.trod enc Try.prog W 0 (fun _ => true) true n0 33 ((l0.drop 19).take 4) = some y0_3 := by have h : DataW.trod enc Try.prog W 0 (fun _ => true) true n0 33 ((l0.drop 19).take (Try.prog.cellsOf 33)) = some y0_3 := hy0_3; rw [show Try.prog.cellsOf 33 = 4 by kernel_rfl] at h; exact h
  obtain ⟨l0_3, q0_3⟩ : ∃ z, (l0.drop 19).take 4 = z := ⟨_, rfl⟩
  rw [q0_3] at hy0_3
  obtain ⟨hl0_3, n0_3, hf0_3⟩ := sub_str Try.underlying33 hy0_3
  rw [show Try.prog.cellsOf 33 = 4 by kernel_rfl] at hl0_3
  obtain ⟨y0_3_0, hy0_3_0⟩ := hf0_3 0 _ rfl
  replace hy0_3_0 : DataW.trod enc Try.prog W 0 (fun _ => true) true n0_3 3 ((l0_3.drop 0).take 1) = some y0_3_0 := by have h : DataW.trod enc Try.prog W 0 (fun _ => true) true n0_3 3 ((l0_3.drop 0).take (Try.prog.cellsOf 3)) = some y0_3_0 := hy0_3_0; rw [show Try.prog.cellsOf 3 = 1 by kernel_rfl] at h; exact h
  obtain ⟨x4, ex4, _, wx4⟩ := DataW.trod_int Try.underlying3 hy0_3_0
  obtain ⟨y0_3_1, hy0_3_1⟩ := hf0_3 1 _ rfl
  replace hy0_3_1 : DataW.trod enc Try.prog W 0 (fun _ => true) true n0_3 3 ((l0_3.drop 1).take 1) = some y0_3_1 := by have h : DataW.trod enc Try.prog W 0 (fun _ => true) true n0_3 3 ((l0_3.drop 1).take (Try.prog.cellsOf 3)) = some y0_3_1 := hy0_3_1; rw [show Try.prog.cellsOf 3 = 1 by kernel_rfl] at h; exact h
  obtain ⟨x5, ex5, _, wx5⟩ := DataW.trod_int Try.underlying3 hy0_3_1
  obtain ⟨y0_3_2, hy0_3_2⟩ := hf0_3 2 _ rfl
  replace hy0_3_2 : DataW.trod enc Try.prog W 0 (fun _ => true) true n0_3 3 ((l0_3.drop 2).take 1) = some y0_3_2 := by have h : DataW.trod enc Try.prog W 0 (fun _ => true) true n0_3 3 ((l0_3.drop 2).take (Try.prog.cellsOf 3)) = some y0_3_2 := hy0_3_2; rw [show Try.prog.cellsOf 3 = 1 by kernel_rfl] at h; exact h
  obtain ⟨x6, ex6, _, wx6⟩ := DataW.trod_int Try.underlying3 hy0_3_2
  obtain ⟨y0_3_3, hy0_3_3⟩ := hf0_3 3 _ rfl
  replace hy0_3_3 : DataW.trod enc Try.prog W 0 (fun _ => true) true n0_3 3 ((l0_3.drop 3).take 1) = some y0_3_3 := by have h : DataW.trod enc Try.prog W 0 (fun _ => true) true n0_3 3 ((l0_3.drop 3).take (Try.prog.cellsOf 3)) = some y0_3_3 := hy0_3_3; rw [show Try.prog.cellsOf 3 = 1 by kernel_rfl] at h; exact h
  obtain ⟨x7, ex7, _, wx7⟩ := DataW.trod_int Try.underlying3 hy0_3_3
  have e0_3 := show l0_3 = _ from parts_cons ex4 (parts_cons ex5 (parts_cons ex6 (parts_cons ex7 (parts_nil hl0_3))))
  have e0 := show l0 = _ from parts_cons (q0_0.trans e0_0) (parts_cons ex2 (parts_cons ex3 (parts_cons (q0_3.trans e0_3) (parts_nil hl0))))
  rw [e0] at hW' ⊢
  refine (progReads_any W x0 hlx0 hIx0 Ax1 nx1 cx1 x1 hnx1 hcx1 hmx1 hRx1 (wf_bs hwx1) Ax2 nx2 cx2 x2 hnx2 hcx2 hmx2 hRx2 (wf_bs hwx2) Ax3 nx3 cx3 x3 hnx3 hcx3 hmx3 hQx3 hRx3 x4 (wf_i wx4) x5 (wf_i wx5) x6 (wf_i wx6) x7 (wf_i wx7)).mono fun e W' ⟨he, hb⟩ => ?_
  subst he
  exact ⟨_, rfl, post_true Facts.laid hW' rfl rfl Try.underlying4 (by kernel_rfl) rfl hb⟩

set_option maxRecDepth 100000 in
theorem lifted (os : Os) (started : os.Started) (H : Type) (enc : TypeId × Value → H) :
    ReturnsInHanded {} Try.checked os 22 .any (Rows.progReadsSpec.pre6 enc Try.prog Try.f22 Rows.progReadsRow.domain false) (Rows.progReadsSpec.post enc Try.prog Try.f22 false true false false) := by
  refine returnsInHanded_of_change (C := Try.checked) Facts.own started (by kernel_rfl) Try.func22
    (ChangeSpec.witness6 (enc := enc) (C := Try.checked) (os := os) false ⟨#[], #[.agg #[.int .i64 0, .int .i64 0, .int .i64 0, .int .i64 0, .int .i64 0, .int .i64 0, .int .i64 0, .int .i64 0, .int .i64 0, .int .i64 0, .int .i64 0, .int .i64 0, .int .i64 0, .int .i64 0, .int .i64 0, .int .i64 0, .slice none 0 0, .slice none 0 0, .slice none 0 0, .int .i64 0, .int .i64 0, .int .i64 0, .int .i64 0]], []⟩ 8 (by kernel_rfl) (by kernel_rfl) (by kernel_rfl) (by kernel_rfl)) ?_
  intro W base args ds gs before hval hW _ _
  exact contract H enc W base args ds gs before hval hW

theorem k_wf : Rows.progReadsRow.wf (OpenSpec.ofChange Rows.progReadsSpec) = true := by kernel_rfl
theorem k_inp : (Rows.progReadsRow.inPlace == Try.prog.inPlace 22) = true := by kernel_rfl
theorem k_unf : (Rows.progReadsRow.unfollowed == Try.prog.unfollowed 22) = true := by kernel_rfl
theorem k_rec : (Rows.progReadsRow.recurses == Try.prog.recurses 22) = true := by kernel_rfl
theorem k_nam : (Rows.progReadsRow.named == Try.prog.varsNamed 22) = true := by kernel_rfl
theorem k_pk : (Rows.progReadsRow.plainKeys == Try.prog.plainKeys) = true := (congrArg (fun x => Rows.progReadsRow.plainKeys == x) Facts.plainKeys).trans (by kernel_rfl)
theorem k_lf : (Rows.progReadsRow.lifted == Try.prog.liftsFinal) = true := (congrArg (fun x => Rows.progReadsRow.lifted == x) Facts.liftsFinal).trans (by kernel_rfl)
theorem k_mk : (Try.prog.make == some Rows.progReadsRow.make) = true := (congrArg (fun x => x == some Rows.progReadsRow.make) Facts.make).trans (by kernel_rfl)
theorem k_par : (Try.f22.params.all (Try.prog.readableRec ·)) = true := by kernel_rfl
theorem k_maps : (Rows.progReadsRow.maps == (Try.f22.params.toList ++ Rows.progReadsSpec.plain.varTypes Try.prog).any (Try.prog.mapsRec ·)) = true := by kernel_rfl
theorem k_ifs : (Rows.progReadsRow.ifaces == (Try.f22.params.toList ++ Rows.progReadsSpec.plain.varTypes Try.prog).any (Try.prog.ifacesRec ·)) = true := by kernel_rfl
theorem k_lps : (Rows.progReadsRow.loops == (Try.f22.params.toList ++ Rows.progReadsSpec.plain.varTypes Try.prog).any (Try.prog.loopsFrom ·)) = true := by kernel_rfl
theorem k_wk : (Rows.progReadsRow.wideKeys == (Try.f22.params.toList ++ Rows.progReadsSpec.plain.varTypes Try.prog ++ Try.f22.resultTypes.toList).any (Try.prog.wideKeysFrom ·)) = true := by kernel_rfl
theorem k_vl : (Rows.progReadsRow.veiled == (Try.f22.params.toList ++ Rows.progReadsSpec.plain.varTypes Try.prog ++ Try.f22.resultTypes.toList).any (Try.prog.veiledRec ·)) = true := by kernel_rfl
theorem closed : joinedFacts Try.prog 22 Try.f22 Rows.progReadsSpec Rows.progReadsRow = true :=
  Facts.and_i (Facts.and_i (Facts.and_i (Facts.and_i (Facts.and_i (Facts.and_i (Facts.and_i (Facts.and_i (Facts.and_i (Facts.and_i (Facts.and_i (Facts.and_i (Facts.and_i (Facts.and_i (Facts.and_i (Facts.and_i (Facts.and_i (Facts.and_i (Facts.and_i (Facts.and_i (Facts.and_i (Facts.and_i (Facts.and_i (Facts.and_i (Facts.and_i (Facts.and_i (Facts.and_i (Facts.and_i (Facts.and_i (Facts.and_i (Facts.and_i
    k_wf Facts.laid) Facts.mapsRowed_) k_par) rfl) rfl) Facts.stops) rfl) Facts.stopKnobs) k_inp) k_unf) k_rec) k_nam) k_maps) k_ifs) (by kernel_rfl)) k_lps) k_wk) rfl) (by kernel_rfl)) (by kernel_rfl)) (by kernel_rfl)) k_pk) rfl) Facts.stopsHeard) Facts.mayEnter) k_lf) k_mk) (by kernel_rfl)) (by kernel_rfl)) k_vl) (by kernel_rfl)
theorem named : Try.prog.funcNamed Rows.progReadsRow.func = some 22 := by kernel_rfl

theorem proved : Rows.ProgReadsSaid :=
  OpenClaim.holds_of_wide 22 Try.f22 rfl rfl rfl rfl rfl rfl rfl ⟨rfl, rfl, rfl, rfl, rfl⟩ rfl rfl rfl rfl rfl named Try.func22 closed
    (of_decide_eq_true (by kernel_rfl)) (by unfold Func.isWrapper; first | (rw [if_pos (by decide +kernel)]; kernel_rfl) | (rw [if_neg (by decide +kernel)]; exact ⟨rfl, rfl⟩))
    (fun os started H enc _ => lifted os started H enc)
end ProgReads
#print axioms ProgReads.proved
end
end Go.Proofs.Ytlhappecjjbopaa
