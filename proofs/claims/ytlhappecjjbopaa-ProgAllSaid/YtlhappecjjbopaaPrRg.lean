/-
  Prog: are a band's numbers divisible; the program's reading of a band, by a contract. Conditions: symbols below 256, at most 68719476736 bytes, at most 1000 blocks.
-/
import Derived.Test.YtlhappecjjbopaaPrRf
namespace Go.Proofs.Ytlhappecjjbopaa
open Go.RowKit
set_option linter.unusedVariables false
set_option maxRecDepth 100000
/-- are a band's numbers divisible by 2 to the h? -/
def WhB (f n H : Nat) (x : List Int) : Prop := ∀ j, j < n → x.getD (zzN (f + j)) 0 % 2 ^ H = 0
def WhL (f n H : Nat) (G : List (List Int)) : Prop := ∀ x ∈ G, WhB f n H x
noncomputable def whL (f n H : Nat) (G : List (List Int)) : Bool := @decide (WhL f n H G) (Classical.propDecidable _)
theorem whL_t {f n H : Nat} {G : List (List Int)} (h : WhL f n H G) : whL f n H G = true := @decide_eq_true _ (Classical.propDecidable _) h
theorem whL_f {f n H : Nat} {G : List (List Int)} (h : ¬ WhL f n H G) : whL f n H G = false := @decide_eq_false _ (Classical.propDecidable _) h
def WhR (f n H N : Nat) (G : List (List Int)) (gb : Nat) (w0 : World) (iv_ : Value) (wr : World) : Prop :=
  ∃ i : Nat, i ≤ N ∧ iv_ = .int .i64 (i : Nat) ∧ (∀ (q : Nat) (x : List Int), q < i → G[q]? = some x → WhB f n H x) ∧ Below gb w0 wr ∧ Below w0.heap.size w0 wr
def WhQ (f n H : Nat) (x : List Int) (w5 : World) (jv : Value) (wr : World) : Prop :=
  ∃ j : Nat, j ≤ n ∧ jv = .int .i64 (j : Nat) ∧ (∀ q, q < j → x.getD (zzN (f + q)) 0 % 2 ^ H = 0) ∧ Below w5.heap.size w5 wr
set_option maxHeartbeats 16000000 in
theorem whole_any {w : World} {A : Option Addr} {n c : Nat} {G : List (List Int)} (hG : Blk w A n G) (hn : n ≤ 1000) (F T H : Nat) (l : Int) (hft : F ≤ T) (hT63 : T ≤ 63) (hH : H ≤ 10) :
    Calls Try.prog 134 #[.agg #[.int .i64 (F : Nat), .int .i64 (T : Nat), .int .i64 (H : Nat), .int .i64 l], .slice A n c] w (BoolP (whL F (T + 1 - F) H G) w) := by
  have X := Box4.new w 107 (.int .i64 (F : Nat)) (.int .i64 (T : Nat)) (.int .i64 (H : Nat)) (.int .i64 l)
  have hb0 : Below w.heap.size w (w.alloc (.cells #[.int .i64 (F : Nat), .int .i64 (T : Nat), .int .i64 (H : Nat), .int .i64 l] 107)) := (Below.refl _ _).alloc (Nat.le_refl _) _
  obtain ⟨N, hN⟩ : ∃ N, N = T + 1 - F := ⟨_, rfl⟩
  rw [← hN]
  have HN := Lib.hid hN
  have hfN : F + N ≤ 64 := by omega
  have hN1 : 1 ≤ N := by omega
  have hpH := two_int H hH
  have HGG := Lib.hid hG
  clear hG hN
  go_enter Try.func134, Try.ntmps134
  go_upto_region 1 with fail
  obtain ⟨gb, hgb⟩ : ∃ gb, gb = w.heap.size := ⟨_, rfl⟩
  generalize w.alloc (.cells #[.int .i64 (F : Nat), .int .i64 (T : Nat), .int .i64 (H : Nat), .int .i64 l] 107) = w0 at *
  rw [← hgb] at X ⊢
  have HGB := Lib.hid hgb
  have hgl0 := X.lt
  go_wp2_with fail
  go_loopw [11] (WhR F N H n G gb w0) (fun ix _ => n - (intOf ix).toNat)
  case atStart => exact ⟨0, Nat.zero_le _, rfl, fun q x hq => absurd hq (by omega), Below.refl _ _, Below.refl _ _⟩
  case round =>
    obtain ⟨i, hi, rfl, hall, hb1, hb2⟩ := hrel
    obtain ⟨wi, rfl⟩ : ∃ wi : World, wi = wr := ⟨_, rfl⟩
    have hbw : Below w.heap.size w wi := hb0.trans (hb1.mono (by omega))
    have hs2 := hb2.size
    by_cases hlt : i < n
    · have dl : decide (i < n) = true := decide_eq_true hlt
      obtain ⟨x, b1, o1, hx, hxm, hx64, hxI, rfl, hbb, hrg⟩ := (HGG.out.below hbw).at_ hlt
      have HX := Lib.hid hx
      have HXL := Lib.hid hx64
      have HPREV := Lib.hid hall
      have hal : ∀ W : World, W.alloc (.cells #[.int .i64 0, .int .i64 0, .int .i64 0, .int .i64 0, .int .i64 0, .int .i64 0, .int .i64 0, .int .i64 0, .int .i64 0, .int .i64 0, .int .i64 0, .int .i64 0, .int .i64 0, .int .i64 0, .int .i64 0, .int .i64 0, .int .i64 0, .int .i64 0, .int .i64 0, .int .i64 0, .int .i64 0, .int .i64 0, .int .i64 0, .int .i64 0, .int .i64 0, .int .i64 0, .int .i64 0, .int .i64 0, .int .i64 0, .int .i64 0, .int .i64 0, .int .i64 0, .int .i64 0, .int .i64 0, .int .i64 0, .int .i64 0, .int .i64 0, .int .i64 0, .int .i64 0, .int .i64 0, .int .i64 0, .int .i64 0, .int .i64 0, .int .i64 0, .int .i64 0, .int .i64 0, .int .i64 0, .int .i64 0, .int .i64 0, .int .i64 0, .int .i64 0, .int .i64 0, .int .i64 0, .int .i64 0, .int .i64 0, .int .i64 0, .int .i64 0, .int .i64 0, .int .i64 0, .int .i64 0, .int .i64 0, .int .i64 0, .int .i64 0, .int .i64 0] 70) = W.alloc (.cells (iv z64).toArray 70) := fun _ => rfl
      obtain ⟨XG, hbG⟩ := Bln.copy wi 70 (iv z64) (iv x) (by rw [iv_len, iv_len, hx64]; rfl)
      have hth : (wi.alloc (.cells (iv z64).toArray 70)).there wi.heap.size 0 (iv x).toArray.size := by
        have h := (Nb.new wi).there x hx64
        simpa using h
      have hone := one_iv x
      have hsz : (iv x).toArray.size = 64 := (iv_len x).trans hx64
      have HSZ := Lib.hid hsz
      have hi0' : (0 : Int) ≤ (i : Int) := by omega
      have hi1' : (i : Int) < (n : Int) := by omega
      clear hx hxm hx64 hxI hsz hbb hall hgb
      go_upto_region 4 with (first | refine wpList_load_mid rfl 70 (.tmp 13) rfl _ _ rfl (iv x) _ hrg Try.underlying70 rfl (by rw [iv_len, HXL.out]; kernel_rfl) ?_ | refine wpList_store_mid rfl 70 (.tmp 6) (.tmp 14) rfl _ _ (iv x).toArray rfl rfl hth (by rw [HSZ.out]; kernel_rfl) (all_oneCell_toArray hone) ?_)
      have hb3 := hb2.trans (hbG.mono hs2)
      have hb3' : Below gb w0 ((wi.alloc (.cells (iv z64).toArray 70)).setCells wi.heap.size 0 (iv x)) := hb1.trans (hbG.mono (by omega))
      generalize (wi.alloc (.cells (iv z64).toArray 70)).setCells wi.heap.size 0 (iv x) = w3 at *
      have hs3 := hb3.size
      have X3 := X.below hb3 hgl0
      clear hth hbG hrg hal hb1 hb2 hbw
      generalize wi.heap.size = gx at *
      have hgxl := XG.lt
      obtain ⟨_, x0, x1, x2, x3⟩ := id X3
      go_wp2_with fail
      refine (places_any F T (H : Int) l hft hT63 w3).mono ?_; rintro e w5 ⟨vz, rfl, hoz, hb5⟩
      rw [← HN.out] at hoz
      obtain ⟨gz, cz, hze, hcn, hcm, hgzl, hgz⟩ := own_pos hoz hN1
      subst hze
      have X5 := X3.below hb5 X3.lt
      have XG5 := XG.below hb5
      have hb5' := hb3.trans (hb5.mono hs3)
      have hb5'' : Below gb w0 w5 := hb3'.trans (hb5.mono (by omega))
      have hgx5 := XG5.lt
      have hgb5 := X5.lt
      clear x0 x1 x2 x3 X3 XG hb5 hb3 hb3'
      go_wp2_with fail
      go_loopw [18] (WhQ F N H x w5) (fun ix _ => N - (intOf ix).toNat)
      case atStart => exact ⟨0, Nat.zero_le _, rfl, fun q hq => absurd hq (by omega), Below.refl _ _⟩
      case round =>
        obtain ⟨j, hj, rfl, hxa, hb6⟩ := hrel
        obtain ⟨wj, rfl⟩ : ∃ wj : World, wj = wr := ⟨_, rfl⟩
        have HXA := Lib.hid hxa
        clear hxa
        by_cases hlj : j < N
        · have dj : decide (j < N) = true := decide_eq_true hlj
          have X6 := X5.below hb6 hgb5
          have XG6 := XG5.below hb6
          have y2 := X6.c2
          have hoz6 := own_keep hoz hb6
          have cz1 := World.ownsRow.cellAt hoz6 j (by omega)
          rw [show (iv (plc F N))[j]? = some (.int .i64 ((zzN (F + j) : Nat) : Int)) from by unfold iv; rw [List.getElem?_map, plc_at hfN hlj]; rfl] at cz1
          have hzb := (zzN_bd (F + j) (by omega)).1
          have cg := XG6.cell (i := zzN (F + j)) (u := .int .i64 (x.getD (zzN (F + j)) 0)) (ivs_get (by rw [HXL.out]; exact hzb))
          obtain ⟨z, hz⟩ : ∃ z, z = zzN (F + j) := ⟨_, rfl⟩
          rw [← hz] at cz1 hzb cg
          obtain ⟨vx, hvx⟩ : ∃ v, v = x.getD z 0 := ⟨_, rfl⟩
          rw [← hvx] at cg
          have hmk : bits BinOp.and IntKind.i64 vx ((2 : Int) ^ H - 1) = vx % 2 ^ H := i64_mask H (by omega) vx
          have hj0 : (0 : Int) ≤ (j : Int) := by omega
          have hj1 : (j : Int) < (N : Int) := by omega
          have hz0 : (0 : Int) ≤ (z : Int) := by omega
          have hz1 : (z : Int) < 64 := by omega
          have hw1 : IntKind.i64.wrap ((2 : Int) ^ H) = 2 ^ H := IntWalk.i64_in _ (by omega)
          have hw2 : wrap64 ((2 : Int) ^ H) = 2 ^ H := by unfold wrap64; omega
          have hw3 : IntKind.i64.wrap ((2 : Int) ^ H - 1) = 2 ^ H - 1 := IntWalk.i64_in _ (by clear hmk; generalize (2 : Int) ^ H = P at hpH ⊢; omega)
          have hw4 : wrap64 ((2 : Int) ^ H - 1) = 2 ^ H - 1 := by clear hw3 hw2 hw1 hmk; unfold wrap64; generalize (2 : Int) ^ H = P at hpH ⊢; omega
          have HZ := Lib.hid hz
          have HVX := Lib.hid hvx
          clear hoz6 hz hvx X6 XG6
          by_cases hm0 : vx % (2 : Int) ^ H = 0
          · have dm : (vx % (2 : Int) ^ H != 0) = false := by simp; exact hm0
            have HM := Lib.hid hm0
            clear hm0
            go_upto_region 7 with fail
            go_quiet (fail)
            have hb7 := below_drewN hb6 nq
            generalize wj.drewN nq = w7 at *
            go_wp2_with fail
            go_roundw
            case rel => exact ⟨j + 1, by omega, by go_num, fun q hq => (by
              by_cases h9 : q < j
              · exact HXA.out q h9
              · obtain rfl : q = j := by omega
                rw [← HZ.out, ← HVX.out]; exact HM.out), hb7⟩
            case measure => simp [intOf]; omega
          · have dm : (vx % (2 : Int) ^ H != 0) = true := by simp; exact hm0
            have HM := Lib.hid hm0
            clear hm0
            go_upto_region 7 with fail
            go_quiet (fail)
            have hb7 := below_drewN hb6 nq
            generalize wj.drewN nq = w7 at *
            go_wp2_with fail
            go_ret
            refine ⟨ret_bool (whL_f fun h9 => HM.out ?_).symm, hb0.trans ((hb5''.trans (hb7.mono (by omega))).mono (by rw [HGB.out]; exact Nat.le_refl _))⟩
            rw [HVX.out, HZ.out]
            exact h9 x (List.mem_of_getElem? HX.out) j hlj
        · have dj : decide (j < N) = false := decide_eq_false hlj
          obtain rfl : j = N := by omega
          go_wp2_with fail
          go_roundw
          case rel => exact ⟨i + 1, by omega, by go_num, fun q y hq hy => (by
            by_cases h9 : q < i
            · exact HPREV.out q y h9 hy
            · obtain rfl : q = i := by omega
              rw [HX.out] at hy
              injection hy with hy
              subst hy
              exact fun j' hj' => HXA.out j' hj'), hb5''.trans (hb6.mono (by omega)), hb5'.trans (hb6.mono (by omega))⟩
          case measure => simp [intOf]; omega
    · have dl : decide (i < n) = false := decide_eq_false hlt
      go_wp2
      go_ret
      refine ⟨ret_bool (whL_t fun x hx => ?_).symm, hbw⟩
      obtain ⟨q, hq, rfl⟩ := List.mem_iff_getElem.1 hx
      exact hall q _ (by have := HGG.out.len; omega) (List.getElem?_eq_getElem hq)
end Go.Proofs.Ytlhappecjjbopaa
