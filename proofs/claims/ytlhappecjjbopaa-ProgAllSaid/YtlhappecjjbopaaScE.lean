/-
  The order of a block's places: scan's Zigzag and the document's Order, by contracts. No condition.
-/
import Derived.Test.YtlhappecjjbopaaCaZ
namespace Go.Proofs.Ytlhappecjjbopaa
open Go.RowKit
set_option linter.unusedVariables false
set_option maxRecDepth 100000

def zzL : List Int := [0, 1, 8, 16, 9, 2, 3, 10, 17, 24, 32, 25, 18, 11, 4, 5, 12, 19, 26, 33, 40, 48, 41, 34, 27, 20, 13, 6, 7, 14, 21, 28, 35, 42, 49, 56, 57, 50, 43, 36, 29, 22, 15, 23, 30, 37, 44, 51, 58, 59, 52, 45, 38, 31, 39, 46, 53, 60, 61, 54, 47, 55, 62, 63]
def z64 : List Int := List.replicate 64 0
/-- one step of the walk -/
def zstep (s : Int × Int × Bool) : Int × Int × Bool :=
  if s.2.2 && s.1 == 7 then (s.1, s.2.1 + 1, false)
  else if s.2.2 && s.2.1 == 0 then (s.1 + 1, s.2.1, false)
  else if s.2.2 then (s.1 + 1, s.2.1 - 1, s.2.2)
  else if s.2.1 == 7 then (s.1 + 1, s.2.1, true)
  else if s.1 == 0 then (s.1, s.2.1 + 1, true)
  else (s.1 - 1, s.2.1 + 1, s.2.2)
def zst : Nat → Int × Int × Bool
  | 0 => (0, 0, true)
  | i + 1 => zstep (zst i)
theorem zst_bd : ∀ i, i < 64 → 0 ≤ (zst i).1 ∧ (zst i).1 ≤ 7 ∧ 0 ≤ (zst i).2.1 ∧ (zst i).2.1 ≤ 7 ∧ (zst i).2.1 * 8 + (zst i).1 = zzL.getD i 0 := by decide +kernel
def zpart (i : Nat) : List Int := zzL.take i ++ List.replicate (64 - i) 0
theorem zpart_set : ∀ i, i < 64 → (zpart i).set i (zzL.getD i 0) = zpart (i + 1) := by decide +kernel
theorem zpart_len : ∀ i, i ≤ 64 → (zpart i).length = 64 := by decide +kernel
theorem zpart_all : zpart 64 = zzL := by decide +kernel
theorem iv_set (l : List Int) (k : Nat) (x : Int) : (iv l).set k (.int .i64 x) = iv (l.set k x) := by simp [iv]
theorem Try.info_block : (Try.prog.info? 39).map (·.size) = some 64 := by kernel_rfl

set_option maxHeartbeats 8000000 in
theorem zigzag_any (w : World) : Calls Try.prog 27 #[] w fun e w' => e = .returned (.agg (iv zzL).toArray) ∧ Below w.heap.size w w' := by
  have hal : ∀ W : World, W.alloc (.cells #[.int .i64 0, .int .i64 0, .int .i64 0, .int .i64 0, .int .i64 0, .int .i64 0, .int .i64 0, .int .i64 0, .int .i64 0, .int .i64 0, .int .i64 0, .int .i64 0, .int .i64 0, .int .i64 0, .int .i64 0, .int .i64 0, .int .i64 0, .int .i64 0, .int .i64 0, .int .i64 0, .int .i64 0, .int .i64 0, .int .i64 0, .int .i64 0, .int .i64 0, .int .i64 0, .int .i64 0, .int .i64 0, .int .i64 0, .int .i64 0, .int .i64 0, .int .i64 0, .int .i64 0, .int .i64 0, .int .i64 0, .int .i64 0, .int .i64 0, .int .i64 0, .int .i64 0, .int .i64 0, .int .i64 0, .int .i64 0, .int .i64 0, .int .i64 0, .int .i64 0, .int .i64 0, .int .i64 0, .int .i64 0, .int .i64 0, .int .i64 0, .int .i64 0, .int .i64 0, .int .i64 0, .int .i64 0, .int .i64 0, .int .i64 0, .int .i64 0, .int .i64 0, .int .i64 0, .int .i64 0, .int .i64 0, .int .i64 0, .int .i64 0, .int .i64 0] 39) = W.alloc (.cells (iv z64).toArray 39) := fun _ => rfl
  have X0 := Bln.new w 39 (iv z64)
  have hb0 : Below w.heap.size w (w.alloc (.cells (iv z64).toArray 39)) := (Below.refl _ _).alloc (Nat.le_refl _) _
  go_enter Try.func27, Try.ntmps27
  go_upto_region 1 with fail
  generalize hw0 : w.alloc (.cells (iv z64).toArray 39) = w0 at *
  have hs0 : w.heap.size < w0.heap.size := X0.lt
  have X1 := Bln.new w0 39 (iv z64)
  have hba : Below w0.heap.size w0 (w0.alloc (.cells (iv z64).toArray 39)) := (Below.refl _ _).alloc (Nat.le_refl _) _
  have Y0 := X0.below hba
  have hb1 := hb0.trans (hba.mono (by omega))
  clear hw0
  go_upto_region 2 with fail
  generalize w0.alloc (.cells (iv z64).toArray 39) = w1 at *
  generalize hgq : w0.heap.size = g at *
  have H1 : Bln w1 g 39 (iv (zpart 0)) := X1
  clear hal X1 hgq hba hb0 X0
  go_wp2
  go_loopw [2, 3, 4, 6] (fun x y u ix wr => ∃ i : Nat, i ≤ 64 ∧ ix = .int .i64 i ∧ x = .int .i64 (zst i).1 ∧ y = .int .i64 (zst i).2.1 ∧ u = .bool (zst i).2.2 ∧ Bln wr g 39 (iv (zpart i)) ∧ Bln wr w.heap.size 39 (iv z64) ∧ Below w.heap.size w wr) (fun _ _ _ ix _ => 64 - (intOf ix).toNat)
  case atStart => exact ⟨0, Nat.zero_le _, rfl, rfl, rfl, rfl, H1, Y0, hb1⟩
  case round =>
    obtain ⟨i, hi, rfl, rfl, rfl, rfl, X, Y, hb⟩ := hrel
    clear H1 Y0 hb1
    by_cases h64 : i < 64
    · have d64 : decide ((i : Int) < 64) = true := decide_eq_true (by omega)
      obtain ⟨b0, b1, b2, b3, b4⟩ := zst_bd i h64
      have hst : zst (i + 1) = zstep (zst i) := rfl
      have hset := zpart_set i h64
      have hlen := zpart_len i (by omega)
      have y0 := X.cell (i := i) (by rw [ivs_get (by omega)])
      have f0 := X.fz (i := i) (by rw [iv_len]; omega)
      have X' := X.set i (.int .i64 (zzL.getD i 0))
      rw [iv_set, hset] at X'
      have hfr : ∀ u, Fr (fun k => k = g) wr (wr.setCell ⟨g, i, none⟩ u) := fun u => (Fr.refl (fun k => k = g) wr).setCell (p := ⟨g, i, none⟩) (.inl rfl) u
      have Y' := fun u => Y.keep (hfr u) (by omega)
      have hb' := fun u => hb.setCell (p := ⟨g, i, none⟩) (show w.heap.size ≤ g by omega) u
      have hi0 : (0 : Int) ≤ (i : Int) := by omega
      have hi1 : (i : Int) < 64 := by omega
      have hxv : ∀ z : Int, z = (zst i).2.1 * 8 + (zst i).1 → Bln (wr.setCell ⟨g, i, none⟩ (.int .i64 z)) g 39 (iv (zpart (i + 1))) := fun z hz => by rw [hz, b4]; exact X'
      have HST := Lib.hid hst
      have HX' := Lib.hid X'
      have HY' := Lib.hid Y'
      have HB' := Lib.hid hb'
      clear hst hset hlen X' Y' hb' hfr
      obtain ⟨⟨x, y, up⟩, hzq⟩ : ∃ s, s = zst i := ⟨_, rfl⟩
      rw [← hzq] at b0 b1 b2 b3 b4 hxv ⊢
      have HZQ := Lib.hid hzq
      simp only at b0 b1 b2 b3 hxv ⊢
      have HXV := Lib.hid hxv
      clear hzq b4 hxv
      cases up
      · by_cases h7 : y = 7
        · have d1 : (y == 7) = true := by simp; exact h7
          have hn : zst (i + 1) = (x + 1, y, true) := by rw [HST.out, ← HZQ.out]; simp [zstep, *]
          have HN := Lib.hid hn
          clear hn
          go_wp2
          go_roundw
          case rel =>
            refine ⟨i + 1, by omega, by go_num, by rw [HN.out], by rw [HN.out], by rw [HN.out], ?_, ?_, ?_⟩
            · exact HXV.out _ (by omega)
            · exact HY'.out _
            · exact HB'.out _
          case measure => simp [intOf]; omega
        · have d1 : (y == 7) = false := by simp; exact h7
          by_cases h0 : x = 0
          · have d2 : (x == 0) = true := by simp; exact h0
            have hn : zst (i + 1) = (x, y + 1, true) := by rw [HST.out, ← HZQ.out]; simp [zstep, *]
            have HN := Lib.hid hn
            clear hn
            go_wp2
            go_roundw
            case rel =>
              refine ⟨i + 1, by omega, by go_num, by rw [HN.out], by rw [HN.out], by rw [HN.out], ?_, ?_, ?_⟩
              · exact HXV.out _ (by omega)
              · exact HY'.out _
              · exact HB'.out _
            case measure => simp [intOf]; omega
          · have d2 : (x == 0) = false := by simp; exact h0
            have hn : zst (i + 1) = (x - 1, y + 1, false) := by rw [HST.out, ← HZQ.out]; simp [zstep, *]
            have HN := Lib.hid hn
            clear hn
            go_wp2
            go_roundw
            case rel =>
              refine ⟨i + 1, by omega, by go_num, by rw [HN.out], by rw [HN.out], by rw [HN.out], ?_, ?_, ?_⟩
              · exact HXV.out _ (by omega)
              · exact HY'.out _
              · exact HB'.out _
            case measure => simp [intOf]; omega
      · by_cases h7 : x = 7
        · have d1 : (x == 7) = true := by simp; exact h7
          have hn : zst (i + 1) = (x, y + 1, false) := by rw [HST.out, ← HZQ.out]; simp [zstep, *]
          have HN := Lib.hid hn
          clear hn
          go_wp2
          go_roundw
          case rel =>
            refine ⟨i + 1, by omega, by go_num, by rw [HN.out], by rw [HN.out], by rw [HN.out], ?_, ?_, ?_⟩
            · exact HXV.out _ (by omega)
            · exact HY'.out _
            · exact HB'.out _
          case measure => simp [intOf]; omega
        · have d1 : (x == 7) = false := by simp; exact h7
          by_cases h0 : y = 0
          · have d2 : (y == 0) = true := by simp; exact h0
            have hn : zst (i + 1) = (x + 1, y, false) := by rw [HST.out, ← HZQ.out]; simp [zstep, *]
            have HN := Lib.hid hn
            clear hn
            go_wp2
            go_roundw
            case rel =>
              refine ⟨i + 1, by omega, by go_num, by rw [HN.out], by rw [HN.out], by rw [HN.out], ?_, ?_, ?_⟩
              · exact HXV.out _ (by omega)
              · exact HY'.out _
              · exact HB'.out _
            case measure => simp [intOf]; omega
          · have d2 : (y == 0) = false := by simp; exact h0
            have hn : zst (i + 1) = (x + 1, y - 1, true) := by rw [HST.out, ← HZQ.out]; simp [zstep, *]
            have HN := Lib.hid hn
            clear hn
            go_wp2
            go_roundw
            case rel =>
              refine ⟨i + 1, by omega, by go_num, by rw [HN.out], by rw [HN.out], by rw [HN.out], ?_, ?_, ?_⟩
              · exact HXV.out _ (by omega)
              · exact HY'.out _
              · exact HB'.out _
            case measure => simp [intOf]; omega
    · have hi64 : i = 64 := by omega
      have d64 : decide ((i : Int) < 64) = false := decide_eq_false (by omega)
      subst hi64
      rw [zpart_all] at X
      have hzl : (iv zzL).length = 64 := by rw [iv_len]; rfl
      obtain ⟨ZL, hZL⟩ : ∃ z, z = zzL := ⟨_, rfl⟩
      rw [← hZL] at X hzl
      have HZZ := Lib.hid hZL
      clear hZL
      have hr := X.range 0 (iv ZL) (fun j v hv => by rw [Nat.zero_add]; exact hv)
      have hsz : (iv ZL).toArray.size = 64 := hzl
      have ht := Y.there 64 (by rw [iv_len]; decide)
      rw [← hsz] at ht
      have hone := one_iv ZL
      have hY := Y.sets (iv ZL) 0
      rw [setR_all (by rw [hzl, iv_len]; rfl)] at hY
      have hbs : Below w.heap.size w (wr.setCells w.heap.size 0 (iv ZL)) := ((Fr.sets (S := fun k => False) (a := w) (.inr (Nat.le_refl _)) (iv ZL) 0 ((Fr.of_below hb)))).below (fun _ _ f => f) (Nat.le_refl _)
      have HSZ := Lib.hid hsz
      have HZL := Lib.hid hzl
      clear hsz hzl
      go_wp2_with (first | refine wpList_load_mid rfl 39 (.tmp 1) rfl _ _ rfl (iv ZL) _ hr Try.underlying39 rfl (by rw [HZL.out]; exact Try.info_block) ?_ | refine wpList_store_mid rfl 39 (.tmp 0) (.tmp 52) rfl _ _ _ rfl rfl ht (by rw [HSZ.out]; exact Try.info_block) (all_oneCell_toArray hone) ?_)
      exact bodyPost_ret (results_cell_row (P := Try.prog) rfl _ _ w.heap.size 39 (iv ZL).toArray (0, 0) _ rfl hY Try.underlying39 rfl (by rw [HSZ.out]; exact Try.info_block)) rfl ⟨by rw [HZZ.out], hbs⟩

set_option maxHeartbeats 4000000 in
theorem order_ref (w : World) : Calls Try.prog 28 #[] w fun e w' => e = .returned (.agg (iv zzL).toArray) ∧ Below w.heap.size w w' := by
  go_enter Try.func28, Try.ntmps28
  have hal : ∀ W : World, W.alloc (.cells #[.int .i64 0, .int .i64 0, .int .i64 0, .int .i64 0, .int .i64 0, .int .i64 0, .int .i64 0, .int .i64 0, .int .i64 0, .int .i64 0, .int .i64 0, .int .i64 0, .int .i64 0, .int .i64 0, .int .i64 0, .int .i64 0, .int .i64 0, .int .i64 0, .int .i64 0, .int .i64 0, .int .i64 0, .int .i64 0, .int .i64 0, .int .i64 0, .int .i64 0, .int .i64 0, .int .i64 0, .int .i64 0, .int .i64 0, .int .i64 0, .int .i64 0, .int .i64 0, .int .i64 0, .int .i64 0, .int .i64 0, .int .i64 0, .int .i64 0, .int .i64 0, .int .i64 0, .int .i64 0, .int .i64 0, .int .i64 0, .int .i64 0, .int .i64 0, .int .i64 0, .int .i64 0, .int .i64 0, .int .i64 0, .int .i64 0, .int .i64 0, .int .i64 0, .int .i64 0, .int .i64 0, .int .i64 0, .int .i64 0, .int .i64 0, .int .i64 0, .int .i64 0, .int .i64 0, .int .i64 0, .int .i64 0, .int .i64 0, .int .i64 0, .int .i64 0] 39) = W.alloc (.cells (iv z64).toArray 39) := fun _ => rfl
  have Y := Bln.new w 39 (iv z64)
  have hb : Below w.heap.size w (w.alloc (.cells (iv z64).toArray 39)) := (Below.refl _ _).alloc (Nat.le_refl _) _
  go_upto_region 1 with fail
  generalize w.alloc (.cells (iv z64).toArray 39) = wr at *
  clear hal
  have hzl : (iv zzL).length = 64 := by rw [iv_len]; rfl
  have hlit : (iv zzL).toArray = #[Value.int .i64 0, Value.int .i64 1, Value.int .i64 8, Value.int .i64 16, Value.int .i64 9, Value.int .i64 2, Value.int .i64 3, Value.int .i64 10, Value.int .i64 17, Value.int .i64 24, Value.int .i64 32, Value.int .i64 25, Value.int .i64 18, Value.int .i64 11, Value.int .i64 4, Value.int .i64 5, Value.int .i64 12, Value.int .i64 19, Value.int .i64 26, Value.int .i64 33, Value.int .i64 40, Value.int .i64 48, Value.int .i64 41, Value.int .i64 34, Value.int .i64 27, Value.int .i64 20, Value.int .i64 13, Value.int .i64 6, Value.int .i64 7, Value.int .i64 14, Value.int .i64 21, Value.int .i64 28, Value.int .i64 35, Value.int .i64 42, Value.int .i64 49, Value.int .i64 56, Value.int .i64 57, Value.int .i64 50, Value.int .i64 43, Value.int .i64 36, Value.int .i64 29, Value.int .i64 22, Value.int .i64 15, Value.int .i64 23, Value.int .i64 30, Value.int .i64 37, Value.int .i64 44, Value.int .i64 51, Value.int .i64 58, Value.int .i64 59, Value.int .i64 52, Value.int .i64 45, Value.int .i64 38, Value.int .i64 31, Value.int .i64 39, Value.int .i64 46, Value.int .i64 53, Value.int .i64 60, Value.int .i64 61, Value.int .i64 54, Value.int .i64 47, Value.int .i64 55, Value.int .i64 62, Value.int .i64 63] := rfl
  obtain ⟨ZL, hZL⟩ : ∃ z, z = zzL := ⟨_, rfl⟩
  rw [← hZL] at hzl hlit
  have hsz : (iv ZL).toArray.size = 64 := hzl
  have ht := Y.there 64 (by rw [iv_len]; decide)
  rw [← hsz] at ht
  have hone := one_iv ZL
  have hY := Y.sets (iv ZL) 0
  rw [setR_all (by rw [hzl, iv_len]; rfl)] at hY
  have hbs : Below w.heap.size w (wr.setCells w.heap.size 0 (iv ZL)) := ((Fr.sets (S := fun k => False) (a := w) (.inr (Nat.le_refl _)) (iv ZL) 0 ((Fr.of_below hb)))).below (fun _ _ f => f) (Nat.le_refl _)
  have HSZ := Lib.hid hsz
  have HZL := Lib.hid hzl
  have HZZ := Lib.hid hZL
  have HLIT := Lib.hid hlit
  clear hsz hzl hZL hlit
  go_wp2_with (refine wpList_store_mid rfl 39 (.tmp 0) (.tmp 1) rfl _ _ (iv ZL).toArray rfl (congrArg Value.agg HLIT.out.symm) ht (by rw [HSZ.out]; exact Try.info_block) (all_oneCell_toArray hone) ?_)
  exact bodyPost_ret (results_cell_row (P := Try.prog) rfl _ _ w.heap.size 39 (iv ZL).toArray (0, 0) _ rfl hY Try.underlying39 rfl (by rw [HSZ.out]; exact Try.info_block)) rfl ⟨by rw [HZZ.out], hbs⟩
end Go.Proofs.Ytlhappecjjbopaa
