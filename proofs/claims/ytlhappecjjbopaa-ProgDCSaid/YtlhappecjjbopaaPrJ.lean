/-
  Prog: the pieces of a band of blocks (AC), and the chapter's example, by contracts. Conditions: at most 1000 blocks.
-/
import Derived.Test.YtlhappecjjbopaaPrI
import Derived.Test.YtlhappecjjbopaaBlk
namespace Go.Proofs.Ytlhappecjjbopaa
open Go.RowKit
set_option linter.unusedVariables false
set_option maxRecDepth 100000

theorem Box4.cells {w : World} {g : Nat} {a b c d : Value} (h : Box4 w g a b c d) : w.rangeAt g 0 [a, b, c, d] := fun j v hv => by
  rw [Nat.zero_add]
  have hj : j < 4 := (List.getElem?_eq_some_iff.1 hv).1
  match j, hj, hv with
  | 0, _, hv => cases hv; exact h.c0
  | 1, _, hv => cases hv; exact h.c1
  | 2, _, hv => cases hv; exact h.c2
  | 3, _, hv => cases hv; exact h.c3
/-- a band of ac's that is in form, and good blocks -/
def AcOk (f t h l : Int) (G : List (List Int)) : Prop := Gd f t h l ∧ f ≠ 0 ∧ GoodL G
def AcP (f t h l : Int) (G : List (List Int)) (w : World) (e : Ending) (w' : World) : Prop :=
  (AcOk f t h l G → ∃ v, e = .returned (.tuple #[v, .nilIface]) ∧ w'.ownsRow w.heap.size 27 4 v (acP f.toNat (t.toNat + 1 - f.toNat) h l G).length (pcRows (acP f.toNat (t.toNat + 1 - f.toNat) h l G))) ∧
  (¬ AcOk f t h l G → e = .returned (.tuple #[.slice none 0 0, errV 6])) ∧ Below w.heap.size w w'
theorem Pn.new_ (w : World) (f t h l : Int) : Pn (w.alloc (.cells #[.int .i64 f, .int .i64 t, .int .i64 h, .int .i64 l, .slice none 0 0, .int .i64 0, .slice none 0 0] 170)) w.heap.size w.heap.size f t h l (.slice none 0 0) (.slice none 0 0) ⟨[], 0, []⟩ :=
  ⟨Bln.new w _ _, World.ownsRow_nil _ _ _ _, World.ownsRow_nil _ _ _ _, fun e => by simp [Value.ownBlock] at e, fun e => by simp [Value.ownBlock] at e, fun k e => by simp [Value.ownBlock] at e⟩
theorem acL_take {f n : Nat} {h l : Int} {G : List (List Int)} {i : Nat} {x : List Int} (hx : G[i]? = some x) (s : Pen) : acL f n h l (G.take (i + 1)) s = acB f n h l (acL f n h l (G.take i) s) x := by
  have : G.take (i + 1) = G.take i ++ [x] := by rw [List.take_add_one, hx]; rfl
  rw [this, acL_snoc]
/-- the loop: the pen behind so many blocks -/
def AcR (f n t : Nat) (h l : Int) (N p : Nat) (G : List (List Int)) (w3 : World) (ix : Value) (wr : World) : Prop :=
  ∃ (i : Nat) (vo vh : Value), i ≤ N ∧ ix = .int .i64 i ∧ Pn wr p p (f : Nat) (t : Nat) h l vo vh (acL f n h l (G.take i) ⟨[], 0, []⟩) ∧ Below p w3 wr
set_option maxHeartbeats 16000000 in
theorem ac_any {w : World} {A : Option Addr} {n c : Nat} {G : List (List Int)} (hG : Blk w A n G) (hn : n ≤ 1000) (f t h l : Int) :
    Calls Try.prog 69 #[.slice A n c, .agg #[.int .i64 f, .int .i64 t, .int .i64 h, .int .i64 l]] w (AcP f t h l G w) := by
  have X := Box4.new w 107 (.int .i64 f) (.int .i64 t) (.int .i64 h) (.int .i64 l)
  have hb0 : Below w.heap.size w (w.alloc (.cells #[.int .i64 f, .int .i64 t, .int .i64 h, .int .i64 l] 107)) := (Below.refl _ _).alloc (Nat.le_refl _) _
  have HGG := Lib.hid hG
  clear hG
  go_enter Try.func69, Try.ntmps69
  go_upto_region 1 with fail
  generalize w.alloc (.cells #[.int .i64 f, .int .i64 t, .int .i64 h, .int .i64 l] 107) = w0 at *
  have hg0 := HGG.out.below hb0
  obtain ⟨_, x0, x1, x2, x3⟩ := id X
  by_cases hgd : Gd f t h l
  · have HGD := Lib.hid hgd
    go_wp2_with fail
    refine (bcheck_any f t h l .nilIface (fun hg => rfl) (fun hg => absurd hgd hg) w0).mono ?_; rintro e w1 ⟨rfl, hb1⟩
    have X1 := X.below hb1 X.lt
    have hb1' := hb0.trans (hb1.mono hb0.size)
    clear x0 x1 x2 x3 X hgd
    obtain ⟨_, x0, x1, x2, x3⟩ := id X1
    by_cases hf0 : f = 0
    · have d0 : decide (f = 0) = true := decide_eq_true hf0
      have HF0 := Lib.hid hf0
      clear hf0
      go_wp2_with fail
      refine (dc_any f t h l w1).mono ?_; rintro e w2 ⟨rfl, hb2⟩
      go_wp2
      go_ret2
      exact ⟨fun h => absurd HF0.out h.2.1, fun _ => rfl, hb1'.trans (hb2.mono hb1'.size)⟩
    · have d0 : decide (f = 0) = false := decide_eq_false hf0
      have HF0 := Lib.hid hf0
      clear hf0
      go_wp2_with fail
      refine (dc_any f t h l w1).mono ?_; rintro e w2 ⟨rfl, hb2⟩
      have X2 := X1.below hb2 X1.lt
      have hb2' := hb1'.trans (hb2.mono hb1'.size)
      have hg2 := HGG.out.below hb2'
      clear x0 x1 x2 x3 X1
      obtain ⟨_, x0, x1, x2, x3⟩ := id X2
      by_cases hgl : GoodL G
      · have HGL := Lib.hid hgl
        have dg := gL_t hgl
        go_wp2_with fail
        refine (sound_any A n c G w2 hg2 (by omega)).mono ?_; rintro e w3 ⟨rfl, hb3⟩
        rw [dg]
        have X3 := X2.below hb3 X2.lt
        have hb3' := hb2'.trans (hb3.mono hb2'.size)
        have hg3 := HGG.out.below hb3'
        clear x0 x1 x2 x3 X2 hgl dg
        obtain ⟨_, x0, x1, x2, x3⟩ := id X3
        go_upto_region 4 with fail
        have hgd2 : 1 ≤ f ∧ f ≤ t ∧ t ≤ 63 := by have := HGD.out; have := HF0.out; unfold Gd at *; omega
        obtain ⟨F, rfl⟩ := Int.eq_ofNat_of_zero_le (show 0 ≤ f by omega)
        obtain ⟨T, rfl⟩ := Int.eq_ofNat_of_zero_le (show 0 ≤ t by omega)
        have hft : F ≤ T := by omega
        have hT63 : T ≤ 63 := by omega
        obtain ⟨N, hN⟩ : ∃ N, N = T + 1 - F := ⟨_, rfl⟩
        have HN := Lib.hid hN
        have P0 := Pn.new_ w3 (F : Int) (T : Int) h l
        have hba : Below w3.heap.size w3 (w3.alloc (.cells #[.int .i64 (F : Int), .int .i64 (T : Int), .int .i64 h, .int .i64 l, .slice none 0 0, .int .i64 0, .slice none 0 0] 170)) := (Below.refl _ _).alloc (Nat.le_refl _) _
        have X4 := X3.below hba X3.lt
        have hx3 := X3.lt
        have hs3 := hb3'.size
        generalize w3.alloc (.cells #[.int .i64 (F : Int), .int .i64 (T : Int), .int .i64 h, .int .i64 l, .slice none 0 0, .int .i64 0, .slice none 0 0] 170) = w4 at *
        have hp4 := P0.lt
        have hb4' := hb3'.trans (hba.mono hs3)
        obtain ⟨p, hp⟩ : ∃ p, p = w3.heap.size := ⟨_, rfl⟩
        rw [← hp] at P0 hx3 hs3 hp4 hba ⊢
        have HPQ := Lib.hid hp
        clear hN x0 x1 x2 x3 X3 hb0 hb1 hb1' hb2 hb2' hb3 hb3' hg0 hg2 hg3 hp hba hgd2
        go_wp2
        go_loopw [27] (AcR F N T h l n p G w4) (fun ix _ => n - (intOf ix).toNat)
        case atStart => exact ⟨0, _, _, Nat.zero_le _, rfl, P0, Below.refl _ _⟩
        case round =>
          clear P0
          obtain ⟨i, vo, vh, hi, rfl, P, hb⟩ := hrel
          obtain ⟨wi, rfl⟩ : ∃ wi : World, wi = wr := ⟨_, rfl⟩
          have hbd := acL_bd F N h l (G.take i) ⟨[], 0, []⟩
          have htl : (G.take i).length ≤ i := List.length_take_le _ _
          have hN64 : N ≤ 64 := by have := HN.out; omega
          have h3n : 3 * N * (G.take i).length ≤ 192 * 1000 := by
            have h1 : 3 * N * (G.take i).length ≤ 192 * (G.take i).length := Nat.mul_le_mul_right _ (by omega)
            have h2 : 192 * (G.take i).length ≤ 192 * 1000 := Nat.mul_le_mul_left _ (by omega)
            omega
          have hl0 : (⟨[], 0, []⟩ : Pen).len = 0 := rfl
          have he0 : (⟨[], 0, []⟩ : Pen).ends = 0 := rfl
          obtain ⟨sq, hsq⟩ : ∃ sq, sq = acL F N h l (G.take i) ⟨[], 0, []⟩ := ⟨_, rfl⟩
          rw [← hsq] at P hbd
          have HSQ := Lib.hid hsq
          have hsb : sq.len ≤ 200000 ∧ sq.ends ≤ 1000 := by omega
          clear hsq hbd h3n htl
          have hpw : p ≤ wi.heap.size := by have := P.lt; omega
          by_cases hlt : i < n
          · have dl : decide (i < n) = true := decide_eq_true hlt
            have hbw := hb4'.trans (hb.mono (by omega))
            obtain ⟨x, b1, o1, hx, hxm, hx64, hxI, rfl, hb1, hrg⟩ := (HGG.out.below hbw).at_ hlt
            have hgx := HGL.out x hxm
            have HSN := Lib.hid (acL_take (f := F) (n := N) (h := h) (l := l) hx ⟨[], 0, []⟩)
            rw [← HSQ.out] at HSN
            have HXL := Lib.hid hx64
            have HGX := Lib.hid hgx
            have hal : ∀ W : World, W.alloc (.cells #[.int .i64 0, .int .i64 0, .int .i64 0, .int .i64 0, .int .i64 0, .int .i64 0, .int .i64 0, .int .i64 0, .int .i64 0, .int .i64 0, .int .i64 0, .int .i64 0, .int .i64 0, .int .i64 0, .int .i64 0, .int .i64 0, .int .i64 0, .int .i64 0, .int .i64 0, .int .i64 0, .int .i64 0, .int .i64 0, .int .i64 0, .int .i64 0, .int .i64 0, .int .i64 0, .int .i64 0, .int .i64 0, .int .i64 0, .int .i64 0, .int .i64 0, .int .i64 0, .int .i64 0, .int .i64 0, .int .i64 0, .int .i64 0, .int .i64 0, .int .i64 0, .int .i64 0, .int .i64 0, .int .i64 0, .int .i64 0, .int .i64 0, .int .i64 0, .int .i64 0, .int .i64 0, .int .i64 0, .int .i64 0, .int .i64 0, .int .i64 0, .int .i64 0, .int .i64 0, .int .i64 0, .int .i64 0, .int .i64 0, .int .i64 0, .int .i64 0, .int .i64 0, .int .i64 0, .int .i64 0, .int .i64 0, .int .i64 0, .int .i64 0, .int .i64 0] 70) = W.alloc (.cells (iv z64).toArray 70) := fun _ => rfl
            obtain ⟨XG, hbG⟩ := Bln.copy wi 70 (iv z64) (iv x) (by rw [iv_len, iv_len, hx64]; rfl)
            have hth : (wi.alloc (.cells (iv z64).toArray 70)).there wi.heap.size 0 (iv x).toArray.size := by
              have h := (Nb.new wi).there x hx64
              simpa using h
            have hone := one_iv x
            have hsz : (iv x).toArray.size = 64 := (iv_len x).trans hx64
            have HSZ := Lib.hid hsz
            have hi0' : (0 : Int) ≤ (i : Int) := by omega
            have hi1' : (i : Int) < (n : Int) := by omega
            clear hx hxm hx64 hxI hgx hsz hbw hb1
            go_upto_region 7 with (first | refine wpList_load_mid rfl 70 (.tmp 29) rfl _ _ rfl (iv x) _ hrg Try.underlying70 rfl (by rw [iv_len, HXL.out]; kernel_rfl) ?_ | refine wpList_store_mid rfl 70 (.tmp 8) (.tmp 30) rfl _ _ (iv x).toArray rfl rfl hth (by rw [HSZ.out]; kernel_rfl) (all_oneCell_toArray hone) ?_)
            have P5 := P.below hbG
            have hb5 := hb.trans (hbG.mono hpw)
            generalize (wi.alloc (.cells (iv z64).toArray 70)).setCells wi.heap.size 0 (iv x) = w5 at *
            generalize wi.heap.size = gx at *
            clear hth hbG hrg hal P
            have X5 := X4.below (hb5) hx3
            obtain ⟨_, x0, x1, x2, x3⟩ := id X5
            by_cases hh : 0 < h
            · have dh : decide (0 < h) = true := decide_eq_true hh
              have hac : acB F N h l sq x = fiB x F (T + 1 - F) l sq := by unfold acB; rw [if_pos hh, HN.out]
              have HAC := Lib.hid hac
              go_wp2_with fail
              refine (finer_any (F : Int) (T : Int) h l w5).mono ?_; rintro e w6 ⟨rfl, hb6⟩
              have P6 := P5.below hb6
              have XG6 := XG.below hb6
              have hb6' := hb5.trans (hb6.mono (by have := P5.lt; omega))
              have hrG := XG6.range 0 (iv x) (fun j v hv => by rw [Nat.zero_add]; exact hv)
              clear P5 XG hb5 hb6 x0 x1 x2 x3 X5 hac
              go_wp2_with (refine wpList_load_mid rfl 70 (.tmp 8) rfl _ _ rfl (iv x) _ hrG Try.underlying70 rfl (by rw [iv_len, HXL.out]; kernel_rfl) ?_)
              refine (fine_any P6 (by have := P6.lt; omega) (by omega) (by omega) hft hT63 x HXL.out HGX.out).mono ?_; rintro e w7 ⟨rfl, vo7, vh7, P7, hT7⟩
              rw [← HAC.out, ← HSN.out] at P7
              have hb7 := hb6'.trans (hT7.below (Nat.le_refl _) (fun k hk => (P6.out.lt k hk).1) (fun k hk => (P6.held.lt k hk).1) (by have := P6.lt; omega))
              clear hrG P6 XG6 hT7
              go_wp2
              go_roundw
              case rel => exact ⟨i + 1, vo7, vh7, by omega, by go_num, P7, hb7⟩
              case measure => simp [intOf]; omega
            · have dh : decide (0 < h) = false := decide_eq_false hh
              have hac : acB F N h l sq x = fsB x F (T + 1 - F) l sq := by unfold acB; rw [if_neg hh, HN.out]
              have HAC := Lib.hid hac
              go_wp2_with fail
              refine (finer_any (F : Int) (T : Int) h l w5).mono ?_; rintro e w6 ⟨rfl, hb6⟩
              have P6 := P5.below hb6
              have XG6 := XG.below hb6
              have hb6' := hb5.trans (hb6.mono (by have := P5.lt; omega))
              have hrG := XG6.range 0 (iv x) (fun j v hv => by rw [Nat.zero_add]; exact hv)
              clear P5 XG hb5 hb6 x0 x1 x2 x3 X5 hac
              go_wp2_with (refine wpList_load_mid rfl 70 (.tmp 8) rfl _ _ rfl (iv x) _ hrG Try.underlying70 rfl (by rw [iv_len, HXL.out]; kernel_rfl) ?_)
              refine (first_any P6 (by have := P6.lt; omega) (by omega) (by omega) hft hT63 x HXL.out HGX.out).mono ?_; rintro e w7 ⟨rfl, vo7, vh7, P7, hT7⟩
              rw [← HAC.out, ← HSN.out] at P7
              have hb7 := hb6'.trans (hT7.below (Nat.le_refl _) (fun k hk => (P6.out.lt k hk).1) (fun k hk => (P6.held.lt k hk).1) (by have := P6.lt; omega))
              clear hrG P6 XG6 hT7
              go_wp2
              go_roundw
              case rel => exact ⟨i + 1, vo7, vh7, by omega, by go_num, P7, hb7⟩
              case measure => simp [intOf]; omega
          · have dl : decide (i < n) = false := decide_eq_false hlt
            have hge : G.take i = G := List.take_of_length_le (by rw [HGG.out.len]; omega)
            rw [hge] at HSQ
            have hpo := fun k (hk : vo.ownBlock = some k) => (P.out.lt k hk).1
            have hph := fun k (hk : vh.ownBlock = some k) => (P.held.lt k hk).1
            have hfl := fl_len sq
            have hlq : sq.out.length + sq.held.length = sq.len := rfl
            clear hge
            go_wp2_with fail
            refine (flush_any P hpw (by omega) (by omega)).mono ?_; rintro e w6 ⟨rfl, vf, P6, hT6⟩
            have hb6 := hb.trans (hT6.below (Nat.le_refl _) hpo hph hpw)
            have hb6' := hb4'.trans (hb6.mono (by omega))
            have hfo := P6.out
            obtain ⟨lo, hlo⟩ : ∃ lo, lo = sq.fl.out.length := ⟨_, rfl⟩
            rw [← hlo] at hfo
            obtain ⟨Av, cv, hve, _⟩ := own_sliceN hfo
            subst hve
            have c4 := P6.blk.cell (i := 4) (u := .slice Av lo cv) rfl
            have HF := Lib.hid hfo
            have HLO := Lib.hid hlo
            clear hfo hlo P6 hT6
            go_wp2
            go_ret2
            refine ⟨fun _ => ⟨_, rfl, ?_⟩, fun h => absurd ⟨HGD.out, HF0.out, HGL.out⟩ h, hb6'⟩
            have hae : acP (F : Int).toNat ((T : Int).toNat + 1 - (F : Int).toNat) h l G = sq.fl.out := by
              unfold acP
              rw [Int.toNat_natCast, Int.toNat_natCast, ← HN.out, HSQ.out]
            rw [hae, ← HLO.out]
            exact own_baseN HF.out (fun k hk => by have := (HF.out.lt k hk).1; omega)
      · have HGL := Lib.hid hgl
        have dg := gL_f hgl
        go_wp2_with fail
        refine (sound_any A n c G w2 hg2 (by omega)).mono ?_; rintro e w3 ⟨rfl, hb3⟩
        rw [dg]
        clear hgl dg
        go_wp2
        go_ret2
        exact ⟨fun h => absurd h.2.2 HGL.out, fun _ => rfl, hb2'.trans (hb3.mono hb2'.size)⟩
  · have HGD := Lib.hid hgd
    go_wp2_with fail
    refine (bcheck_any f t h l (.iface 53 (.int .i64 6)) (fun hg => absurd hg hgd) (fun hg => rfl) w0).mono ?_; rintro e w1 ⟨rfl, hb1⟩
    clear hgd
    go_wp2
    go_ret2
    exact ⟨fun h => absurd h.1 HGD.out, fun _ => rfl, hb0.trans (hb1.mono hb0.size)⟩
end Go.Proofs.Ytlhappecjjbopaa
