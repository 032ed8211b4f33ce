/-
  Prog: ProgAll: a first band and all finer ones come to the blocks. No condition.
-/
import Derived.Test.YtlhappecjjbopaaPrY
import Derived.Test.YtlhappecjjbopaaPrSb
import Derived.Test.YtlhappecjjbopaaPrRh
import Derived.Test.YtlhappecjjbopaaScK
import Derived.Test.YtlhappecjjbopaaCbAll
import Derived.Test.YtlhappecjjbopaaFacts
import Derived.Test.YtlhappecjjbopaaArw
namespace Go.Proofs.Ytlhappecjjbopaa
open Go.ChangeShapes Go.WideShapes Go.ChangeAt Go.WideMaps Go.WideElems Go.RowKit Go.Joins
set_option linter.unusedVariables false
set_option maxRecDepth 100000
/-- the lengths of all 256 symbols -/
def AllQ (w : World) (e : Ending) (w' : World) : Prop :=
  ∃ c, e = .returned (.slice (some ⟨w.heap.size, 0, none⟩) 256 c) ∧ w'.ownsRow w.heap.size 3 1 (.slice (some ⟨w.heap.size, 0, none⟩) 256 c) 256 (iv (flatL 256 8 0)) ∧ Below w.heap.size w w'
set_option maxHeartbeats 4000000 in
theorem all256_any (w : World) : Calls Try.prog 75 #[] w (AllQ w) := by
  have hmk : ∀ W : World, (Instr.makeSlice 24 (.int .i64 256) (.int .i64 256)).run Try.prog W = .ok (.slice (some ⟨W.heap.size, 0, none⟩) 256 256) (W.alloc (.cells (iv (rep0 256)).toArray 3)) := fun W => make_ints 256 (by omega) W
  have ho0 := own_ints w (rep0 256) (by rw [rep0, List.length_replicate]; omega)
  rw [show (rep0 256).length = 256 by rw [rep0, List.length_replicate], show rep0 256 = flatK 256 8 0 0 by rw [flatK_zero]; rfl] at ho0
  have hb0 : Below w.heap.size w (w.alloc (.cells (iv (rep0 256)).toArray 3)) := (Below.refl _ _).alloc (Nat.le_refl _) _
  rw [show rep0 256 = flatK 256 8 0 0 by rw [flatK_zero]; rfl] at hmk hb0
  go_enter Try.func75, Try.ntmps75
  go_wp2_with fail
  generalize w.alloc (.cells (iv (flatK 256 8 0 0)).toArray 3) = w0 at *
  clear hmk
  go_loopw [6] (fun i wr => ∃ k : Nat, k ≤ 256 ∧ i = .int .i64 k ∧ wr.ownsRow w.heap.size 3 1 (.slice (some ⟨w.heap.size, 0, none⟩) 256 256) 256 (iv (flatK 256 8 0 k)) ∧ Below w.heap.size w wr) (fun i _ => 256 - (intOf i).toNat)
  case atStart => exact ⟨0, Nat.zero_le _, rfl, ho0, hb0⟩
  case round =>
    obtain ⟨k, hk, rfl, hown, hb⟩ := hrel
    clear ho0 hb0
    by_cases hlt : k < 256
    · have hlen := flatK_len 256 8 0 k
      have cc : wr.cell? ⟨w.heap.size, k, none⟩ = some (.int .i64 ((flatK 256 8 0 k).getD k 0)) := by
        have h := World.ownsRow.cellAt hown k (by omega)
        rwa [ivs_get (by rw [hlen]; exact hlt)] at h
      have cf : wr.frozen? ⟨w.heap.size, k, none⟩ = false := own_fz hown hlt
      have s1 := own_set hown k 9
      have hks := flatK_set 256 8 0 k
      rw [if_neg (by omega)] at hks
      have hk0' : (0 : Int) ≤ (k : Int) := by omega
      have hk1' : (k : Int) < 256 := by omega
      have S1 := Lib.hid s1
      have HKS := Lib.hid hks
      clear hks hlen s1 hown
      go_wp2_with fail
      go_roundw
      case rel => exact ⟨k + 1, by omega, by go_num, by rw [← HKS.out]; exact S1.out, hb.setCell (p := ⟨w.heap.size, k, none⟩) (Nat.le_refl _) _⟩
      case measure => simp [intOf]; omega
    · have hk : k = 256 := by omega
      go_wp2_with fail
      go_ret
      rw [hk, flatK_all] at hown
      exact ⟨256, rfl, hown, hb⟩
/-- the bit from which the numbers are known, ahead of the round that ends at bit k - 1 -/
def klN (L0 k : Nat) : Int := if k = L0 + 1 then 9 else (k : Int)
def hqN (L0 k : Nat) : Int := if k < L0 then (k : Int) + 1 else 0
theorem knL_self {f n : Nat} (hfn : f + n ≤ 64) {X : List (List Int)} (hX : ∀ x ∈ X, x.length = 64) : knL f n 0 X = X := by
  unfold knL
  refine (List.map_congr_left fun x hx => ?_).trans (List.map_id X)
  exact upB_self hfn (hX x hx)
theorem knL_wh {f n k : Nat} (hfn : f + n ≤ 64) {X : List (List Int)} (hX : ∀ x ∈ X, x.length = 64) : WhL f n k (knL f n (k : Nat) X) := fun y hy => by
  obtain ⟨x, hx, rfl⟩ := List.mem_map.1 hy
  intro j hj
  rw [upB_before x x f k (hX x hx) n hfn j hj, Int.toNat_natCast]
  exact Int.mul_emod_left _ _
theorem step_wh {f n L0 k : Nat} (hfn : f + n ≤ 64) (hk : k ≤ L0) {X : List (List Int)} (hX : ∀ x ∈ X, x.length = 64) : WhL f n (hqN L0 k).toNat (knL f n (klN L0 (k + 1)) X) := by
  unfold hqN klN
  by_cases h : k < L0
  · rw [if_pos h, if_neg (by omega), show ((k : Int) + 1).toNat = k + 1 by omega]
    exact knL_wh hfn hX
  · rw [if_neg h]
    intro y hy j hj
    rw [show (0 : Int).toNat = 0 from rfl, Int.pow_zero, Int.emod_one]
theorem step_read {f n L0 k : Nat} (hf : 1 ≤ f) (hfn : f + n ≤ 64) (hL : L0 < 10) (hk : k ≤ L0) {X : List (List Int)} (hX : ∀ x ∈ X, x.length = 64 ∧ GoodB x) :
    BnL f n (hqN L0 k) (k : Nat) (knL f n (klN L0 (k + 1)) X) X ∧ outL f n (hqN L0 k) (k : Nat) (knL f n (klN L0 (k + 1)) X) X = knL f n (klN L0 k) X := by
  have h1 : klN L0 k = (k : Int) := if_neg (by omega)
  rw [h1]
  unfold hqN klN
  by_cases h : k < L0
  · rw [if_pos h, if_neg (by omega)]
    exact bnL_fine hf hfn (by omega) (by omega) X hX
  · rw [if_neg h, if_pos (by omega)]
    refine bnL_first hf hfn (by omega) X _ hX (by unfold knL; rw [List.length_map]) fun i x y hx hy => ?_
    unfold knL at hy
    rw [List.getElem?_map, hx] at hy
    injection hy with hy
    subst hy
    exact ⟨by rw [upB_len]; exact (hX x (List.mem_of_getElem? hx)).1, fun q _ hq => upB_off x x f 9 n hq⟩
theorem rem_ok (x m : Int) (hm : 0 < m ∧ m ≤ 1000) : ∃ k0 : Nat, wrap64 ((IntKind.u64.wrap x).tmod m) = (k0 : Int) ∧ (k0 : Int) < m := by
  have h1 : 0 ≤ IntKind.u64.wrap x := by simp only [IntKind.wrap, IntKind.signed, IntKind.bits]; exact Int.emod_nonneg _ (by decide)
  rw [Int.tmod_eq_emod_of_nonneg h1]
  have h2 := Int.emod_nonneg (IntKind.u64.wrap x) (show m ≠ 0 by omega)
  have h3 := Int.emod_lt_of_pos (IntKind.u64.wrap x) hm.1
  generalize IntKind.u64.wrap x % m = z at *
  rw [IntWalk.wrap64_in z ⟨by omega, by omega⟩]
  exact ⟨z.toNat, by omega, by omega⟩
theorem fields_ok (f t low : Int) : ∃ L0 F0 F T0 T : Nat, wrap64 ((IntKind.u64.wrap low).tmod 10) = (L0 : Int) ∧ wrap64 ((IntKind.u64.wrap f).tmod 63) = (F0 : Int) ∧ wrap64 ((IntKind.u64.wrap t).tmod (64 - (F : Int))) = (T0 : Int) ∧
    IntKind.u64.wrap (64 - (F : Int)) = 64 - (F : Int) ∧ L0 < 10 ∧ 1 ≤ F ∧ F ≤ T ∧ T ≤ 63 ∧ wrap64 (1 + (F0 : Int)) = (F : Int) ∧ wrap64 ((F : Int) + (T0 : Int)) = (T : Int) ∧ F0 < 63 ∧ T0 < 64 ∧ ¬ (64 - (F : Int)) = 0 := by
  obtain ⟨L0, h0, h1⟩ := rem_ok low 10 (by omega)
  obtain ⟨F0, h2, h3⟩ := rem_ok f 63 (by omega)
  obtain ⟨T0, h4, h5⟩ := rem_ok t (64 - ((1 + F0 : Nat) : Int)) (by clear h0 h2; omega)
  refine ⟨L0, F0, 1 + F0, T0, 1 + F0 + T0, h0, h2, h4, ?_, ?_⟩
  · simp only [IntKind.wrap, IntKind.signed, IntKind.bits]
    clear h0 h2 h4
    exact Int.emod_eq_of_lt (by omega) (by omega)
  · clear h0 h2 h4
    exact ⟨by omega, by omega, by omega, by omega, by rw [IntWalk.wrap64_in _ ⟨by omega, by omega⟩]; omega, by rw [IntWalk.wrap64_in _ ⟨by omega, by omega⟩]; omega, by omega, by omega, by omega⟩
def RetA (w : World) (e : Ending) (w' : World) : Prop := e = .returned (.bool true) ∧ Below w.heap.size w w'
def StR (F N L0 n : Nat) (G : List (List Int)) (w6 : World) (kv lv : Value) (wr : World) : Prop :=
  ∃ (k : Nat) (l : Int) (Ay : Option Addr) (cy : Nat), k ≤ L0 + 1 ∧ l = (k : Int) - 1 ∧ lv = .int .i64 l ∧ kv = .slice Ay n cy ∧ Blk wr Ay n (knL F N (klN L0 k) G) ∧ Below w6.heap.size w6 wr
set_option maxHeartbeats 32000000 in
theorem steps_any (w : World) {A : Option Addr} {n c : Nat} {G : List (List Int)} (hblk : Blk w A n G) (f : Int) (hf : -9223372036854775808 ≤ f ∧ f ≤ 9223372036854775807) (t : Int) (ht : -9223372036854775808 ≤ t ∧ t ≤ 9223372036854775807) (low : Int) (hlow : -9223372036854775808 ≤ low ∧ low ≤ 9223372036854775807) :
    Calls Try.prog 95 #[.slice A n c, .int .i64 f, .int .i64 t, .int .i64 low] w (RetA w) := by
  obtain ⟨L0, F0, F, T0, T, hk0, hk1, hk2, hu, hL0', hF1', hFT, hT63, hF1, hF3, hF0, hT0, hz⟩ := fields_ok f t low
  have HBK := Lib.hid hblk
  have HK0 := Lib.hid hk0
  have HK1 := Lib.hid hk1
  have HK2 := Lib.hid hk2
  clear hblk hk0 hk1 hk2
  go_enter Try.func95, Try.ntmps95
  go_wp2_with fail
  refine (alive22_any w).mono ?_; rintro e w1 ⟨rfl, hb1⟩
  have hs1 := hb1.size
  by_cases h30 : 30 < n
  · have d1 : decide ((30 : Int) < (n : Int)) = true := decide_eq_true (by omega)
    go_wp2_with fail
    go_ret
    exact ⟨rfl, hb1⟩
  have d1 : decide ((30 : Int) < (n : Int)) = false := decide_eq_false (by omega)
  have hn30 : n ≤ 30 := by omega
  go_upto_region 6 with fail
  rw [HK0.out]
  go_upto_region 7 with fail
  rw [HK1.out, hF1]
  go_upto_region 8 with fail
  rw [HK2.out, hF3]
  clear HK0 HK1 HK2 hF1 hF3 hu hF0 hT0 hz hf ht hlow d1 h30
  go_wp2_with fail
  refine (all256_any w1).mono ?_; rintro e w2 ⟨ca, rfl, ho2, hb2⟩
  have hb2' := hb1.trans (hb2.mono hs1)
  have hs2 := hb2'.size
  go_wp2_with fail
  refine (newBookL_any _ 256 _ (flatL 256 8 0) w2 (flatL_len 256 8 0) (Rd.of_own ho2) (flat_is (flat_fm.2 0 (by omega)))).mono ?_; rintro e w5 ⟨h2, -, hb5⟩
  obtain ⟨p1, C, rfl, hBk, hCd⟩ := h2 (flat_fm.2 0 (by omega))
  have hb5' := hb2'.trans (hb5.mono hs2)
  have hK := BkS.of hBk.bk
  have HS := Lib.hid (flat_has (flat_fm.2 0 (by omega)) hCd)
  have hs5 := hb5'.size
  have HSY : Hid (∀ x ∈ sy (ordU (flatL 256 8 0) 16), 0 ≤ x ∧ x ≤ 255) := Lib.hid fun x hx => by
    rw [ord256] at hx
    obtain ⟨s, hs, rfl⟩ := List.mem_map.1 hx
    have := List.mem_range.1 hs; omega
  clear ho2 h2 hBk hCd hb1 hb2 hb5 hb2' hs1 hs2
  generalize flatL 256 8 0 = ls at *
  go_wp2_with fail
  refine (known_any (w := w5) (c := c) (HBK.out.below hb5') (by omega) (F : Int) (T : Int) 0 9).mono ?_; rintro e w6 ⟨hk1, hk2, hb6⟩
  have hb6' := hb5'.trans (hb6.mono hs5)
  have hs6 := hb6'.size
  have hK6 := hK.keep hb6
  have h56 := hb6.size
  have hgd : Gd (F : Int) (T : Int) 0 9 := by unfold Gd; omega
  by_cases hgl : GoodL G
  · obtain ⟨v6, rfl, ho6⟩ := hk1 ⟨hgd, hgl⟩
    obtain ⟨N, hN⟩ : ∃ N, N = T + 1 - F := ⟨_, rfl⟩
    rw [decide_eq_false (show ¬ (F : Int) = 0 by omega), Int.toNat_natCast, Int.toNat_natCast, knL_map, HBK.out.len, ← hN] at ho6
    have HX : Hid (∀ x ∈ G, x.length = 64 ∧ GoodB x) := Lib.hid fun x hx => ⟨(HBK.out.b64 x hx).1, hgl x hx⟩
    have hFN : F + N ≤ 64 := by omega
    have hN1 : 1 ≤ N := by omega
    have HN := Lib.hid hN
    have HKG : Hid (∀ (l : Int), ∀ y ∈ knL F N l G, y.length = 64 ∧ GoodB y) := Lib.hid fun l y hy => knL_good hF1' hFN HX.out y hy
    have HKL : Hid (∀ (l : Int), (knL F N l G).length = n) := Lib.hid fun l => by unfold knL; rw [List.length_map, HBK.out.len]
    have HKB : Hid (∀ (l : Int), ∀ y ∈ knL F N l G, y.length = 64 ∧ Is y) := Lib.hid fun l y hy => ⟨(HKG.out l y hy).1, goodB_is (HKG.out l y hy).1 (HKG.out l y hy).2⟩
    obtain ⟨A6, c6, hve, _, _, _⟩ := own_sliceN ho6
    subst hve
    have hB6 := Blk.of_own ho6 (HKL.out _) (HKB.out _)
    have HB6 := Lib.hid hB6
    clear hk1 hk2 hgd hgl hN ho6 hK hB6 hb6 hb5'
    go_wp2_with fail
    go_loopw [64] (fun ix wr => ∃ i : Nat, i ≤ n ∧ ix = .int .i64 i ∧ Below w6.heap.size w6 wr) (fun ix _ => n - (intOf ix).toNat)
    case atStart => exact ⟨0, Nat.zero_le _, rfl, Below.refl _ _⟩
    case round =>
      obtain ⟨i, hi, rfl, hb⟩ := hrel
      obtain ⟨wi, rfl⟩ : ∃ wi : World, wi = wr := ⟨_, rfl⟩
      by_cases hlt : i < n
      · have dl : decide (i < n) = true := decide_eq_true hlt
        obtain ⟨y, b1, o1, hy, hym, hy64, hyI, rfl, hbl1, hr1⟩ := (HB6.out.below hb).at_ hlt
        obtain ⟨x, b2, o2, hx, hxm, hx64, hxI, rfl, hbl2, hr2⟩ := (HBK.out.below (hb6'.trans (hb.mono hs6))).at_ hlt
        have hxy : y.getD 0 0 = x.getD 0 0 := by
          unfold knL at hy
          rw [List.getElem?_map, hx] at hy
          injection hy with hy
          rw [← hy]
          exact upB_off x x F 9 N fun j hj e => by have := (zzN_bd (F + j) (by omega)).2.2.1 e; omega
        have hi0' : (0 : Int) ≤ (i : Int) := by omega
        have hi1' : (i : Int) < (n : Int) := by omega
        have q1 := hr1 0 (.int .i64 (y.getD 0 0)) (ivs_get (by omega))
        have q2 := hr2 0 (.int .i64 (x.getD 0 0)) (ivs_get (by omega))
        rw [Nat.add_zero] at q1 q2
        rw [hxy] at q1
        generalize x.getD 0 0 = x0 at *
        have HB := Lib.hid hb
        clear hr1 hr2 hy hym hy64 hyI hx hxm hx64 hxI hxy hb hbl1 hbl2
        go_upto_region 17 with fail
        go_quiet (fail)
        go_wp2_with fail
        go_roundw
        case rel => exact ⟨i + 1, by omega, by go_num, below_drewN HB.out _⟩
        case measure => simp [intOf]; omega
      · have dl : decide (i < n) = false := decide_eq_false hlt
        have hbi' := hb6'.trans (hb.mono hs6)
        have hKi := hK6.keep (hb.mono h56)
        have h5i : w5.heap.size ≤ wi.heap.size := by have := hb.size; omega
        have hsi := hbi'.size
        have HBI := Lib.hid (HB6.out.below hb)
        clear hb hK6 h56 hb6' hs6 hs5
        go_wp2_with fail
        go_loopw [11, 13] (StR F N L0 n G wi) (fun _ lv _ => (intOf lv + 1).toNat)
        case atStart => exact ⟨L0 + 1, L0, _, _, Nat.le_refl _, by omega, rfl, rfl, by rw [show klN L0 (L0 + 1) = 9 from if_pos rfl]; exact HBI.out, Below.refl _ _⟩
        case round =>
          obtain ⟨k, l, Ay, cy, hkl, hl, rfl, rfl, hY, hb⟩ := hrel
          obtain ⟨wj, rfl⟩ : ∃ wj : World, wj = wr := ⟨_, rfl⟩
          have hbj' := hbi'.trans (hb.mono hsi)
          have hsj := hbj'.size
          have hij := hb.size
          rcases k with _ | k
          · have dl2 : decide (0 ≤ l) = false := decide_eq_false (by omega)
            rw [show klN L0 0 = 0 from if_neg (by omega), knL_self hFN (fun x hx => (HX.out x hx).1)] at hY
            clear hl hb
            go_wp2_with fail
            refine (same22_any Ay A n cy n c G G wj hY (HBK.out.below hbj') (by omega)).mono ?_; rintro e w9 ⟨rfl, hb9⟩
            rw [decide_eq_true (rfl : G = G)]
            go_wp2_with fail
            go_ret
            exact ⟨rfl, hbj'.trans (hb9.mono hsj)⟩
          · obtain rfl : l = (k : Int) := by omega
            have hkL : k ≤ L0 := by omega
            have dl2 : decide (0 ≤ (k : Int)) = true := decide_eq_true (by omega)
            have HY := Lib.hid hY
            have HBJ := Lib.hid hb
            have XB := Bln.new wj 107 [.int .i64 (F : Nat), .int .i64 (T : Nat), .int .i64 0, .int .i64 (k : Nat)]
            have hba : Below wj.heap.size wj (wj.alloc (.cells #[.int .i64 (F : Nat), .int .i64 (T : Nat), .int .i64 0, .int .i64 (k : Nat)] 107)) := (Below.refl _ _).alloc (Nat.le_refl _) _
            obtain ⟨hq, hhq⟩ : ∃ hq : Int, hq = hqN L0 k := ⟨_, rfl⟩
            have HHQ := Lib.hid hhq
            have hgd : Gd (F : Int) (T : Int) hq k := by
              rw [hhq]; unfold Gd hqN
              split <;> omega
            have HGD := Lib.hid hgd
            clear hl hY hb hhq hgd
            go_upto_region 24 with fail
            obtain ⟨bb, hbb⟩ : ∃ bb, bb = wj.heap.size := ⟨_, rfl⟩
            rw [← hbb] at XB
            have hbb1 : bb < (wj.alloc (.cells #[.int .i64 (F : Nat), .int .i64 (T : Nat), .int .i64 0, .int .i64 (k : Nat)] 107)).heap.size := XB.lt
            rw [← hbb]
            have HBB := Lib.hid hbb
            clear hbb
            generalize wj.alloc (.cells #[.int .i64 (F : Nat), .int .i64 (T : Nat), .int .i64 0, .int .i64 (k : Nat)] 107) = wb at *
            go_upto_if 90 with fail
            go_cut [14] from 90 to 94 (fun v wx => v = .pointer (some ⟨bb, 0, none⟩) ∧ Box4 wx bb (.int .i64 (F : Nat)) (.int .i64 (T : Nat)) (.int .i64 hq) (.int .i64 (k : Nat)) ∧ Below wj.heap.size wj wx)
            case first =>
              have f2 := XB.fz (i := 2) (show 2 < 4 by decide)
              have c2 := XB.cell (i := 2) (u := .int .i64 0) rfl
              by_cases hlt2 : k < L0
              · have dl3 : decide (k < L0) = true := decide_eq_true hlt2
                have hh := HHQ.out
                unfold hqN at hh
                rw [if_pos hlt2] at hh
                have hba' := hba.setCell (p := ⟨bb, 2, none⟩) (by have := HBB.out; show wj.heap.size ≤ bb; omega) (.int .i64 ((k : Int) + 1))
                have XB' := XB.set 2 (.int .i64 ((k : Int) + 1))
                have HXB := Lib.hid (And.intro XB' (And.intro hba' hh))
                clear XB' hba' hh hlt2
                rw [dl3]
                go_wp2_with fail
                go_meet
                obtain ⟨XB', hba', hh⟩ := HXB.out
                rw [hh]
                exact ⟨rfl, ⟨by have := XB'.lt; simpa using this, XB'.cell (i := 0) rfl, XB'.cell (i := 1) rfl, XB'.cell (i := 2) rfl, XB'.cell (i := 3) rfl⟩, hba'⟩
              · have dl3 : decide (k < L0) = false := decide_eq_false hlt2
                have hh := HHQ.out
                unfold hqN at hh
                rw [if_neg hlt2] at hh
                have HH := Lib.hid hh
                clear hlt2 hh
                rw [dl3]
                go_wp2_with fail
                go_meet
                rw [HH.out]
                exact ⟨rfl, ⟨XB.lt, XB.cell (i := 0) rfl, XB.cell (i := 1) rfl, XB.cell (i := 2) rfl, XB.cell (i := 3) rfl⟩, hba⟩
            case rest =>
              obtain ⟨rfl, Y, hbc⟩ := hcut
              have hjc := hbc.size
              have HBJ' := Lib.hid hbj'
              clear XB hba hbb1 hbj'
              obtain ⟨_, x0, x1, x2, x3⟩ := id Y
              go_wp2_with fail
              refine (ac_any (w := wc) (c := c) (HBK.out.below (HBJ'.out.trans (hbc.mono hsj))) (by omega) (F : Int) (T : Int) hq k).mono ?_; rintro e w7 ⟨hp1, -, hb7⟩
              obtain ⟨v7, rfl, hov⟩ := hp1 ⟨HGD.out, by omega, fun x hx => (HX.out x hx).2⟩
              rw [Int.toNat_natCast, Int.toNat_natCast, ← HN.out] at hov
              obtain ⟨Q, hQ⟩ : ∃ Q, Q = acP F N hq (k : Nat) G := ⟨_, rfl⟩
              rw [← hQ] at hov
              have HQ := Lib.hid hQ
              have HQG : Hid (∀ p ∈ Q, AcG p) := Lib.hid (by rw [hQ]; exact acP_g hF1' hFN (fun x hx => (HX.out x hx).2) (by have := HBK.out.len; omega))
              have hQl : Q.length ≤ 10000 := by rw [hQ]; exact acP_len2 (by omega) (by have := HBK.out.len; omega)
              obtain ⟨np, hnp⟩ : ∃ q, q = Q.length := ⟨_, rfl⟩
              rw [← hnp] at hov
              have hnpb : np ≤ 10000 := by omega
              have HNP := Lib.hid hnp
              obtain ⟨Ap, cp, hve, _, _, hRp⟩ := own_sliceN hov
              subst hve
              have hov2 := hov.lt
              have Y7 := Y.below hb7 Y.lt
              have hd7 := hbc.trans (hb7.mono hjc)
              have hj7 := hd7.size
              have hbb7 := Y7.lt
              clear hp1 x0 x1 x2 x3 Y hQ hQl hnp hov hbc hjc hb7
              go_wp2_with fail
              refine (newWriter_any true w7).mono ?_; rintro e w8 ⟨rfl, hW8, hb8⟩
              have Y8 := Y7.below hb8 Y7.lt
              have hd8 := hd7.trans (hb8.mono hj7)
              have h78 := hb8.size
              have hR8 := (hRp.below hb8).more h78
              clear Y7 hRp hd7 hb8
              have HOKQ : Hid (∀ p ∈ Q, OkQ [] ls p) := Lib.hid fun p hp => (HQG.out p hp).okQ HS.out
              have hpib : ∀ p ∈ Q, Pib p := fun p hp => by
                obtain ⟨h1, h2, h3, h4, h5⟩ := HQG.out p hp
                have h6 : (2 : Int) ^ p.2.2.2.toNat ≤ 65536 := by
                  have h6 := Nat.pow_le_pow_right (n := 2) (by omega) (show p.2.2.2.toNat ≤ 16 by omega)
                  have h7 := two_cast p.2.2.2.toNat
                  omega
                exact ⟨by omega, by omega, by omega⟩
              have hbk2 : BkO w8 w5.heap.size (some p1) ls (ordU ls 16) C := .inr ⟨p1, rfl, hKi.keep ((HBJ.out.trans (hd8.mono hij)).mono h5i), HS.out.ord, HS.out.vl⟩
              have hsw := scanWrite_any (c := cp) (BkO.none_ w8 w5.heap.size) (fun s hs => by simp at hs) (fun x hx => by simp at hx) hbk2 HS.out.all HS.out.vl (by omega) (by omega) (fun k hk => by simp [Value.ownBlock] at hk) hW8 (n := np) (l := Q) HNP.out.symm hR8 (fun a ha => by
                subst ha
                exact ⟨fun e => by have := (hov2 a.block rfl).2; omega, fun e => by simp [Value.ownBlock] at e⟩) hpib (by omega) (by simp)
              have HSW := Lib.hid hsw
              clear hsw hbk2 hR8 hpib hov2
              go_wp2_with fail
              refine HSW.out.mono ?_; rintro e w10 ⟨he, v9, hW10, hT10⟩
              rw [goodQ_all HOKQ.out, List.nil_append] at hW10
              rw [if_pos (goodQ_all HOKQ.out)] at he
              subst he
              have hb10 := hT10.below (B := w7.heap.size) (Nat.le_refl _) (fun k hk => by simp [Value.ownBlock] at hk) h78
              have Y10 := Y8.below hb10 hbb7
              have hd10 := hd8.trans (hb10.mono hj7)
              have hj10 := hd10.size
              have hLl := flatQ_len (C1 := []) (C2 := C) (ls1 := []) (ls2 := ls) (fun x hx => by simp at hx) HS.out.vl Q HOKQ.out
              obtain ⟨L, hLq⟩ : ∃ L, L = flatQ [] [] ls C Q := ⟨_, rfl⟩
              rw [← hLq] at hW10 hLl
              rw [← HNP.out] at hLl
              have hL01 : B01 L := by rw [hLq]; exact flatQ_01 _ _ _ _ _
              have hLs : L.length < 549755813888 := by omega
              have hnb : nby L.length ≤ 68719476736 := by unfold nby; omega
              have hpl : (pack true (full true L)).length = nby L.length := by rw [pack_len, full_len]; unfold nby; omega
              have hbp : bitsOf true (pack true (full true L)) = L ++ List.replicate (pad L.length) (fill1 true) := by
                rw [bitsOf_pack true (nby L.length) _ (full_01 hL01) (full_len true L)]; rfl
              have hbs : Bs (pack true (full true L)) := pack_bs (full_01 hL01)
              obtain ⟨Pk, hPk⟩ : ∃ P, P = pack true (full true L) := ⟨_, rfl⟩
              rw [← hPk] at hpl hbs hbp
              obtain ⟨nb, hnbq⟩ : ∃ q, q = L.length := ⟨_, rfl⟩
              have HRD : Hid (rdAll (sy (ordU ls 16)) (sz ls (ordU ls 16)) (bitsOf true Pk) (F : Int).toNat ((T : Int).toNat + 1 - (F : Int).toNat) hq (k : Nat) (knL F N (klN L0 (k + 1)) G) 0 0 = (knL F N (klN L0 k) G, nb, 0)) := Lib.hid (by
                rw [Int.toNat_natCast, Int.toNat_natCast, ← HN.out]
                obtain ⟨hB, ho⟩ := step_read hF1' hFN hL0' hkL HX.out
                rw [← HHQ.out] at hB ho
                have := ac_read HS.out hN1 (by rw [HBK.out.len]; omega) hB (b := bitsOf true Pk) (T := List.replicate (pad L.length) (fill1 true)) (bitsOf_01 _ _) (by rw [hbp, hLq, HQ.out])
                rw [this, ho, ← HQ.out, ← hLq, ← hnbq])
              have HWH : Hid (WhL (F : Int).toNat ((T : Int).toNat + 1 - (F : Int).toNat) hq.toNat (knL F N (klN L0 (k + 1)) G)) := Lib.hid (by
                rw [Int.toNat_natCast, Int.toNat_natCast, ← HN.out, HHQ.out]
                exact step_wh hFN hkL fun x hx => (HX.out x hx).1)
              have HPK := Lib.hid hPk
              have HPL := Lib.hid hpl
              have HBS := Lib.hid hbs
              have HNB := Lib.hid hnbq
              have hpm : Pk.length ≤ 68719476736 := by rw [hpl]; exact hnb
              have h7j := hb10.size
              clear hPk hpl hbs hbp hnbq hLq hL01 hLl hT10 hd8 Y8 hb10 hW8 h78 hj7
              go_wp2_with fail
              refine (bytes_any w7.heap.size true v9 L w10 hW10 hLs).mono ?_; rintro e w11 ⟨v11, rfl, ho11, hb11⟩
              obtain ⟨A11, c11, hve, hR11⟩ := own_slice ho11
              subst hve
              rw [← HPK.out] at hR11
              have hs11 := hb11.size
              go_wp2_with fail
              refine (newReader_any A11 (nby L.length) c11 true Pk w11 HPL.out hR11 HBS.out hnb).mono ?_; rintro e w12 ⟨rp, Ar, cr, rfl, hx12, hrp, hAr, hb12⟩
              have hs12 := hb12.size
              have hb1012 := hb11.trans (hb12.mono hs11)
              have Y12 := Y10.below hb1012 Y10.lt
              have hd12 := hd10.trans (hb1012.mono hj10)
              have hj12 := hd12.size
              have hrl := hx12.lt
              have hpr := pread_any (c2 := cy) (hKi.keep ((HBJ.out.trans (hd12.mono hij)).mono h5i)) HS.out.ord HSY.out (by omega) hx12 hpm (fun q hq => by have := (hAr q hq).2; omega) (HY.out.below hd12) (by omega) (F : Int) (T : Int) hq (k : Nat)
              have HPR := Lib.hid hpr
              clear hpr hR11 ho11 hb11 hb12 hd10 Y10 hAr hx12 hs12
              obtain ⟨_, x0, x1, x2, x3⟩ := id Y12
              go_wp2_with fail
              refine HPR.out.mono ?_; rintro e w13 ⟨hr1, -, hfp⟩
              obtain ⟨v13, rfl, ho13, h64, hlen13, hx13⟩ := (hr1 ⟨⟨HGD.out, by omega, fun y hy => (HKG.out _ y hy).2⟩, HWH.out⟩ _ HRD.out).1 rfl
              dsimp only at ho13 hx13
              rw [HKL.out] at ho13
              obtain ⟨A13, c13, hve, _, _, _⟩ := own_sliceN ho13
              subst hve
              have hB13 := Blk.of_own ho13 (HKL.out _) (HKB.out _)
              have hb13 : Below w10.heap.size w12 w13 := hfp.below (by omega) (by omega)
              have hd13 := hd12.trans (hb13.mono hj10)
              have hW13 := hW10.below (hb1012.trans hb13)
              have HB13 := Lib.hid hB13
              have HBF := Lib.hid (HBJ.out.trans (hd13.mono hij))
              clear hr1 ho13 h64 hlen13 hfp hb13 hd12 hd13 hW10 Y12 x0 x1 x2 x3 hB13 hb1012
              go_wp2_with (first | (go_at_call 64; refine (at_any hx13).mono ?_; rintro e w' ⟨rfl, rfl⟩) | (go_at_call 66; refine (wlen_any _ _ _ _ _ hW13).mono ?_; rintro e w' ⟨rfl, rfl⟩; rw [← HNB.out]))
              go_roundw
              case rel => exact ⟨k, (k : Int) - 1, A13, c13, by omega, rfl, rfl, rfl, HB13.out, HBF.out⟩
              case measure => simp [intOf]
  · have hre := hk2 (fun h => hgl h.2)
    subst hre
    clear hk1 hk2 hgd hgl
    unfold errV
    go_wp2_with fail
    go_ret
    exact ⟨rfl, hb6'⟩
set_option maxHeartbeats 4000000 in
theorem progAll_any (w : World) (A : Option Addr) (n c : Nat) (rows : List (List Value)) (hn : rows.length = n) (hcc : n ≤ c) (hmm : c ≤ 9223372036854775807) (hrows : ∀ r ∈ rows, r.length = 64 ∧ IvN 64 r) (hR : Rd w w.heap.size A rows.flatten)
    (f : Int) (hf : -9223372036854775808 ≤ f ∧ f ≤ 9223372036854775807) (t : Int) (ht : -9223372036854775808 ≤ t ∧ t ≤ 9223372036854775807) (l : Int) (hl : -9223372036854775808 ≤ l ∧ l ≤ 9223372036854775807) :
    Calls Try.prog 23 #[.agg ([Value.slice A n c] ++ ([Value.int .i64 f] ++ ([Value.int .i64 t] ++ ([Value.int .i64 l])))).toArray] w (RetA w) := by
  obtain ⟨G, rfl, hG0⟩ := rows_ivs rows hrows
  have hgl : G.length = n := by rw [← hn, List.length_map]
  have hblk : Blk w A n G := ⟨hgl, hR, hG0⟩
  have X := Bln.new w 146 [.slice A n c, .int .i64 f, .int .i64 t, .int .i64 l]
  have x0 := X.cell (i := 0) (u := .slice A n c) rfl
  have x1 := X.cell (i := 1) (u := .int .i64 f) rfl
  have x2 := X.cell (i := 2) (u := .int .i64 t) rfl
  have x3 := X.cell (i := 3) (u := .int .i64 l) rfl
  have hb0 : Below w.heap.size w (w.alloc (.cells #[.slice A n c, .int .i64 f, .int .i64 t, .int .i64 l] 146)) := (Below.refl _ _).alloc (Nat.le_refl _) _
  have hB := hblk.below hb0
  show Calls Try.prog 23 #[.agg #[.slice A n c, .int .i64 f, .int .i64 t, .int .i64 l]] w (RetA w)
  clear hrows hn hblk hG0 hR X
  go_enter Try.func23, Try.ntmps23
  go_upto_region 1 with fail
  obtain ⟨rb, hrb⟩ : ∃ rb, rb = w.heap.size := ⟨_, rfl⟩
  generalize w.alloc (.cells #[.slice A n c, .int .i64 f, .int .i64 t, .int .i64 l] 146) = w0 at *
  rw [← hrb] at x0 x1 x2 x3 ⊢
  have HRB := Lib.hid hrb
  clear hrb
  go_wp2_with fail
  refine (steps_any w0 hB f hf t ht l hl).mono ?_; rintro e w1 ⟨rfl, hb1⟩
  go_wp2_with fail
  go_ret
  exact ⟨rfl, hb0.trans (hb1.mono hb0.size)⟩
namespace ProgAll
set_option maxRecDepth 100000 in
theorem contract (H : Type) (enc : TypeId × Value → H) (W : World) (base : Nat) (args : Array Value) (ds gs : List (DataW H)) (before : List MemPlace)
    (hval : ∀ (j : Nat) t v, Try.f23.params[j]? = some t → args[j]? = some v → Value.okWide Try.prog W .any base t v)
    (hW : DataW.Whole enc Try.prog Try.f23.params.toList Rows.progAllSpec.vars false W args.toList ds gs before) :
    Calls Try.prog 23 args W fun e W' => ∃ v, e = .returned v ∧ Rows.progAllSpec.post enc Try.prog Try.f23 false true false false W args v W' := by
  have hW' := hW
  obtain ⟨p, q, hA0, hV, rfl, hfz, hnd⟩ := hW
  have hA : DataW.TrodAll enc Try.prog W 0 (fun _ => true) true Try.f23.params.toList args.toList ds p := hA0
  rw [Try.params23] at hA hval
  clear hA0
  obtain ⟨v0, vs0, d0, ds0, p0, q0, hargs, rfl, rfl, h0, r0⟩ := trodAll_cons hA
  obtain ⟨rfl, rfl, rfl⟩ := trodAll_nil r0
  obtain rfl : args = #[v0] := by cases args; simp_all
  obtain ⟨rfl, rfl⟩ := trodVars_none hV
  obtain ⟨l0, rfl, hl0, n0, hf0⟩ := open_str Try.underlying146 (hval 0 _ _ rfl rfl) h0
  rw [show Try.prog.cellsOf 146 = 4 by kernel_rfl] at hl0
  obtain ⟨y0_0, hy0_0⟩ := hf0 0 _ rfl
  replace hy0_0 : DataW.trod enc Try.prog W 0 (fun _ => true) true n0 105 ((l0.drop 0).take 1) = some y0_0 := by have h : DataW.trod enc Try.prog W 0 (fun _ => true) true n0 105 ((l0.drop 0).take (Try.prog.cellsOf 105)) = some y0_0 := hy0_0; rw [show Try.prog.cellsOf 105 = 1 by kernel_rfl] at h; exact h
  obtain ⟨vx0, ex0⟩ := take_one (l := l0) (o := 0) (by omega)
  rw [ex0] at hy0_0
  obtain ⟨Ax0, nx0, cx0, x0, rfl, hnx0, hcx0, hmx0, hQx0, hRx0⟩ := open_rows (m := 64) (Q := IvN 64) Try.underlying105 (by kernel_rfl) (by omega) (fun _ _ _ hl hy => blk_ivn hl hy) hy0_0
  obtain ⟨y0_1, hy0_1⟩ := hf0 1 _ rfl
  replace hy0_1 : DataW.trod enc Try.prog W 0 (fun _ => true) true n0 3 ((l0.drop 1).take 1) = some y0_1 := by have h : DataW.trod enc Try.prog W 0 (fun _ => true) true n0 3 ((l0.drop 1).take (Try.prog.cellsOf 3)) = some y0_1 := hy0_1; rw [show Try.prog.cellsOf 3 = 1 by kernel_rfl] at h; exact h
  obtain ⟨x1, ex1, _, wx1⟩ := DataW.trod_int Try.underlying3 hy0_1
  obtain ⟨y0_2, hy0_2⟩ := hf0 2 _ rfl
  replace hy0_2 : DataW.trod enc Try.prog W 0 (fun _ => true) true n0 3 ((l0.drop 2).take 1) = some y0_2 := by have h : DataW.trod enc Try.prog W 0 (fun _ => true) true n0 3 ((l0.drop 2).take (Try.prog.cellsOf 3)) = some y0_2 := hy0_2; rw [show Try.prog.cellsOf 3 = 1 by kernel_rfl] at h; exact h
  obtain ⟨x2, ex2, _, wx2⟩ := DataW.trod_int Try.underlying3 hy0_2
  obtain ⟨y0_3, hy0_3⟩ := hf0 3 _ rfl
  replace hy0_3 : DataW.trod enc Try.prog W 0 (fun _ => true) true n0 3 ((l0.drop 3).take 1) = some y0_3 := by have h : DataW.trod enc Try.prog W 0 (fun _ => true) true n0 3 ((l0.drop 3).take (Try.prog.cellsOf 3)) = some y0_3 := hy0_3; rw [show Try.prog.cellsOf 3 = 1 by kernel_rfl] at h; exact h
  obtain ⟨x3, ex3, _, wx3⟩ := DataW.trod_int Try.underlying3 hy0_3
  have e0 := show l0 = _ from parts_cons ex0 (parts_cons ex1 (parts_cons ex2 (parts_cons ex3 (parts_nil hl0))))
  rw [e0] at hW' ⊢
  refine (progAll_any W Ax0 nx0 cx0 x0 hnx0 hcx0 hmx0 hQx0 hRx0 x1 (wf_i wx1) x2 (wf_i wx2) x3 (wf_i wx3)).mono fun e W' ⟨he, hb⟩ => ?_
  subst he
  exact ⟨_, rfl, post_true Facts.laid hW' rfl rfl Try.underlying4 (by kernel_rfl) rfl hb⟩

set_option maxRecDepth 100000 in
theorem lifted (os : Os) (started : os.Started) (H : Type) (enc : TypeId × Value → H) :
    ReturnsInHanded {} Try.checked os 23 .any (Rows.progAllSpec.pre6 enc Try.prog Try.f23 Rows.progAllRow.domain false) (Rows.progAllSpec.post enc Try.prog Try.f23 false true false false) := by
  refine returnsInHanded_of_change (C := Try.checked) Facts.own started (by kernel_rfl) Try.func23
    (ChangeSpec.witness6 (enc := enc) (C := Try.checked) (os := os) false ⟨#[], #[.agg #[.slice none 0 0, .int .i64 0, .int .i64 0, .int .i64 0]], []⟩ 8 (by kernel_rfl) (by kernel_rfl) (by kernel_rfl) (by kernel_rfl)) ?_
  intro W base args ds gs before hval hW _ _
  exact contract H enc W base args ds gs before hval hW

theorem k_wf : Rows.progAllRow.wf (OpenSpec.ofChange Rows.progAllSpec) = true := by kernel_rfl
theorem k_inp : (Rows.progAllRow.inPlace == Try.prog.inPlace 23) = true := by kernel_rfl
theorem k_unf : (Rows.progAllRow.unfollowed == Try.prog.unfollowed 23) = true := by kernel_rfl
theorem k_rec : (Rows.progAllRow.recurses == Try.prog.recurses 23) = true := by kernel_rfl
theorem k_nam : (Rows.progAllRow.named == Try.prog.varsNamed 23) = true := by kernel_rfl
theorem k_pk : (Rows.progAllRow.plainKeys == Try.prog.plainKeys) = true := (congrArg (fun x => Rows.progAllRow.plainKeys == x) Facts.plainKeys).trans (by kernel_rfl)
theorem k_lf : (Rows.progAllRow.lifted == Try.prog.liftsFinal) = true := (congrArg (fun x => Rows.progAllRow.lifted == x) Facts.liftsFinal).trans (by kernel_rfl)
theorem k_mk : (Try.prog.make == some Rows.progAllRow.make) = true := (congrArg (fun x => x == some Rows.progAllRow.make) Facts.make).trans (by kernel_rfl)
theorem k_par : (Try.f23.params.all (Try.prog.readableRec ·)) = true := by kernel_rfl
theorem k_maps : (Rows.progAllRow.maps == (Try.f23.params.toList ++ Rows.progAllSpec.plain.varTypes Try.prog).any (Try.prog.mapsRec ·)) = true := by kernel_rfl
theorem k_ifs : (Rows.progAllRow.ifaces == (Try.f23.params.toList ++ Rows.progAllSpec.plain.varTypes Try.prog).any (Try.prog.ifacesRec ·)) = true := by kernel_rfl
theorem k_lps : (Rows.progAllRow.loops == (Try.f23.params.toList ++ Rows.progAllSpec.plain.varTypes Try.prog).any (Try.prog.loopsFrom ·)) = true := by kernel_rfl
theorem k_wk : (Rows.progAllRow.wideKeys == (Try.f23.params.toList ++ Rows.progAllSpec.plain.varTypes Try.prog ++ Try.f23.resultTypes.toList).any (Try.prog.wideKeysFrom ·)) = true := by kernel_rfl
theorem k_vl : (Rows.progAllRow.veiled == (Try.f23.params.toList ++ Rows.progAllSpec.plain.varTypes Try.prog ++ Try.f23.resultTypes.toList).any (Try.prog.veiledRec ·)) = true := by kernel_rfl
theorem closed : joinedFacts Try.prog 23 Try.f23 Rows.progAllSpec Rows.progAllRow = true :=
  Facts.and_i (Facts.and_i (Facts.and_i (Facts.and_i (Facts.and_i (Facts.and_i (Facts.and_i (Facts.and_i (Facts.and_i (Facts.and_i (Facts.and_i (Facts.and_i (Facts.and_i (Facts.and_i (Facts.and_i (Facts.and_i (Facts.and_i (Facts.and_i (Facts.and_i (Facts.and_i (Facts.and_i (Facts.and_i (Facts.and_i (Facts.and_i (Facts.and_i (Facts.and_i (Facts.and_i (Facts.and_i (Facts.and_i (Facts.and_i (Facts.and_i
    k_wf Facts.laid) Facts.mapsRowed_) k_par) rfl) rfl) Facts.stops) rfl) Facts.stopKnobs) k_inp) k_unf) k_rec) k_nam) k_maps) k_ifs) (by kernel_rfl)) k_lps) k_wk) rfl) (by kernel_rfl)) (by kernel_rfl)) (by kernel_rfl)) k_pk) rfl) Facts.stopsHeard) Facts.mayEnter) k_lf) k_mk) (by kernel_rfl)) (by kernel_rfl)) k_vl) (by kernel_rfl)
theorem named : Try.prog.funcNamed Rows.progAllRow.func = some 23 := by kernel_rfl

theorem proved : Rows.ProgAllSaid :=
  OpenClaim.holds_of_wide 23 Try.f23 rfl rfl rfl rfl rfl rfl rfl ⟨rfl, rfl, rfl, rfl, rfl⟩ rfl rfl rfl rfl rfl named Try.func23 closed
    (of_decide_eq_true (by kernel_rfl)) (by unfold Func.isWrapper; first | (rw [if_pos (by decide +kernel)]; kernel_rfl) | (rw [if_neg (by decide +kernel)]; exact ⟨rfl, rfl⟩))
    (fun os started H enc _ => lifted os started H enc)
end ProgAll
#print axioms ProgAll.proved
end Go.Proofs.Ytlhappecjjbopaa
