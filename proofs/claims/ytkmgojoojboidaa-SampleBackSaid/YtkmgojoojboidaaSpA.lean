/-
  sample.Unpack, by contracts. No condition beyond the range that each names.
-/
import Derived.Test.YtkmgojoojboidaaSaA
import Derived.Test.YtkmgojoojboidaaBiG
import Derived.Test.YtkmgojoojboidaaInts
import Derived.Laws.OwnMore
import Derived.Laws.MakeOwn
namespace Go.Proofs.Ytkmgojoojboidaa
open Go.RowKit
set_option linter.unusedVariables false
set_option maxRecDepth 100000

theorem make_ints (C : Nat) (h : C ≤ 2000000) (W : World) : (Instr.makeSlice 43 (.int .i64 (C : Int)) (.int .i64 (C : Int))).run Try.prog W = .ok (.slice (some ⟨W.heap.size, 0, none⟩) C C) (W.alloc (.cells (iv (List.replicate C 0)).toArray 3)) := by
  obtain ⟨i0, hi, hz0, hz1, hz2⟩ := info_parts Try.info_int
  have h1 := run_make (P := Try.prog) W 43 3 i0 (.int .i64 0) Try.underlying43 hi hz0 .i64 .i64 (C : Int) (C : Int) (by omega) (by omega) (by rw [hz2]; omega) (by omega)
  rw [h1, hz1, Int.toNat_natCast, Nat.mul_one]
  have h2 : madeCells (Value.int .i64 0).cells C = (iv (List.replicate C 0)).toArray := by
    apply Array.toList_inj.1
    show (madeCells #[Value.int .i64 0] C).toList = _
    rw [toList_madeCells_one]; simp [iv]
  rw [h2]
theorem own_ints (w : World) (l : List Int) (hm : l.length ≤ 2000000) : (w.alloc (.cells (iv l).toArray 3)).ownsRow w.heap.size 3 1 (.slice (some ⟨w.heap.size, 0, none⟩) l.length l.length) l.length (iv l) := by
  have := World.ownsRow_lit (e := 3) (size := 1) w (iv l).toArray l.length (Nat.le_refl w.heap.size) (by unfold maxLen; omega) (by simp [iv])
  simpa using this

/-- the numbers of a row -/
def vals (B : List Int) (d n : Nat) : List Int := (List.range n).map fun i => part true d (nxt true B (i * d) d)
theorem vals_len (B : List Int) (d n : Nat) : (vals B d n).length = n := by simp [vals]
theorem vals_take (B : List Int) (d n k : Nat) (hk : k < n) : (vals B d n).take (k + 1) = (vals B d n).take k ++ [part true d (nxt true B (k * d) d)] := by
  rw [List.take_add_one]
  unfold vals
  rw [List.getElem?_map, List.getElem?_range hk]; rfl
/-- is a row of these numbers in form? -/
def Gu (n : Nat) (d c : Int) : Prop := Dp d ∧ (0 ≤ c ∧ c ≤ 1048576) ∧ (n : Int) = (c * d + 7) / 8
theorem take_set (ys : List Int) (k : Nat) (x : Int) (hk : k < ys.length) : (ys.set k x).take (k + 1) = ys.take k ++ [x] := by
  rw [List.take_add_one, List.getElem?_set_self hk, List.take_set_of_le (Nat.le_refl _)]; rfl
theorem Dp.bd {d : Int} (h : Dp d) : 1 ≤ d ∧ d ≤ 16 := by unfold Dp at h; omega
theorem mul_bd {c d : Int} (hc : 0 ≤ c ∧ c ≤ 1048576) (hd : 1 ≤ d ∧ d ≤ 16) : 0 ≤ c * d ∧ c * d ≤ 16777216 := by
  refine ⟨Int.mul_nonneg hc.1 (by omega), ?_⟩
  have h1 : c * d ≤ 1048576 * d := Int.mul_le_mul_of_nonneg_right hc.2 (by omega)
  omega

set_option maxHeartbeats 1000000 in
theorem unpack_bad (A : Option Addr) (n cc : Nat) (d c : Int) (w : World) (hb : ¬ Gu n d c) (hn : n ≤ 1000000) (hc : -9223372036854775808 ≤ c ∧ c ≤ 9223372036854775807) :
    Calls Try.prog 40 #[.slice A n cc, .int .i64 d, .int .i64 c] w fun e w' => e = .returned (.tuple #[.slice none 0 0, errV 6]) ∧ Below w.heap.size w w' := by
  by_cases h1 : Dp d
  · have hd := h1.bd
    by_cases h2 : c < 0
    · clear hb
      go_enter Try.func40, Try.ntmps40
      go_wp2_with (go_at_call 55; refine (deep_is d true (decide_eq_true h1) _).mono ?_; rintro e w1 ⟨rfl, hb1⟩)
      go_ret2
      exact ⟨rfl, hb1⟩
    by_cases h3 : 1048576 < c
    · clear hb
      go_enter Try.func40, Try.ntmps40
      go_wp2_with (go_at_call 55; refine (deep_is d true (decide_eq_true h1) _).mono ?_; rintro e w1 ⟨rfl, hb1⟩)
      go_ret2
      exact ⟨rfl, hb1⟩
    have hm := mul_bd (c := c) (d := d) (by omega) hd
    have h4 : (((n : Int) != (c * d + 7) / 8)) = true := by
      simp only [bne_iff_ne, ne_eq]
      intro h; exact hb ⟨h1, by omega, h⟩
    clear hb
    go_enter Try.func40, Try.ntmps40
    go_wp2_with (go_at_call 55; refine (deep_is d true (decide_eq_true h1) _).mono ?_; rintro e w1 ⟨rfl, hb1⟩)
    go_ret2
    exact ⟨rfl, hb1⟩
  · clear hb
    go_enter Try.func40, Try.ntmps40
    go_wp2_with (go_at_call 55; refine (deep_is d false (decide_eq_false h1) _).mono ?_; rintro e w1 ⟨rfl, hb1⟩)
    go_ret2
    exact ⟨rfl, hb1⟩

set_option maxHeartbeats 2000000 in
theorem unpack_any (A : Option Addr) (n cc D C : Nat) (B : List Int) (w : World) (hn : B.length = n) (hR : Rd w w.heap.size A (bv B)) (hB : Bs B) (hg : Gu n D C) :
    Calls Try.prog 40 #[.slice A n cc, .int .i64 D, .int .i64 C] w fun e w' => ∃ v, e = .returned (.tuple #[v, .nilIface]) ∧ w'.ownsRow w.heap.size 3 1 v C (iv (vals B D C)) ∧ Below w.heap.size w w' := by
  obtain ⟨i0, hi, hz0, hz1, hz2⟩ := info_parts Try.info_int
  obtain ⟨h1, h2, h3⟩ := hg
  have hd := h1.bd
  have hm := mul_bd h2 hd
  have h4 : (((n : Int) != ((C : Int) * (D : Int) + 7) / 8)) = false := by rw [h3]; simp
  have hCD : ((C * D : Nat) : Int) = (C : Int) * (D : Int) := Int.natCast_mul C D
  have h5 : C * D ≤ 8 * n := by omega
  have hnle : n ≤ 2097153 := by omega
  have hkD : ∀ k, k < C → (k + 1) * D ≤ 8 * n := fun k hk => Nat.le_trans (Nat.mul_le_mul_right D (by omega)) h5
  have HKD := Lib.hid hkD
  have HN := Lib.hid hn
  clear hn h3 hCD hkD
  go_enter Try.func40, Try.ntmps40
  go_wp2_with (go_at_call 55; refine (deep_is D true (decide_eq_true h1) _).mono ?_; rintro e w1 ⟨rfl, hb1⟩)
  refine (newReader_any A n cc true B w1 HN.out ((hR.below hb1).more hb1.size) hB (by omega)).mono ?_; rintro e w2 ⟨p, A', c', rfl, hx2, hp2, hA2, hb2⟩
  have hb2' := hb1.trans (hb2.mono hb1.size)
  have hs2 := hb2'.size
  have hmk := make_ints C (by omega)
  have ho3 := own_ints w2 (List.replicate C 0) (by rw [List.length_replicate]; omega)
  rw [List.length_replicate] at ho3
  have hb3 : Below w.heap.size w (w2.alloc (.cells (iv (List.replicate C 0)).toArray 3)) := hb2'.alloc hs2 _
  have hx3 : Re (w2.alloc (.cells (iv (List.replicate C 0)).toArray 3)) p true A' c' B 0 := hx2.below ((Below.refl _ _).alloc (Nat.le_refl _) _)
  have hpg : p < w2.heap.size := hx2.lt
  go_wp2
  clear hmk
  generalize w2.alloc (.cells (iv (List.replicate C 0)).toArray 3) = w3 at *
  generalize w2.heap.size = g at *
  have hBl : B.length ≤ 68719476736 := by rw [HN.out]; omega
  have hpw : w.heap.size ≤ p := by have := hb1.size; omega
  go_loopw [41] (fun i wr => ∃ k : Nat, k ≤ C ∧ i = .int .i64 k ∧ ∃ ys, ys.length = C ∧ Hid (ys.take k = (vals B D C).take k) ∧ wr.ownsRow g 3 1 (.slice (some ⟨g, 0, none⟩) C C) C (iv ys) ∧ Re wr p true A' c' B (k * D) ∧ Below w.heap.size w wr) (fun i _ => C - (intOf i).toNat)
  case atStart => exact ⟨0, Nat.zero_le _, rfl, _, List.length_replicate, Lib.hid rfl, ho3, by rw [Nat.zero_mul]; exact hx3, hb3⟩
  case round =>
    obtain ⟨k, hk, rfl, ys, hyl, HY, hown, hx, hb⟩ := hrel
    clear ho3 hb3 hx3 hb2' hx2 hb2
    have HYL := Lib.hid hyl
    clear hyl
    by_cases hlt : k < C
    · have hkd := HKD.out k hlt
      rw [Nat.succ_mul] at hkd
      have hfz := fun W (hW : World.ownsRow W g 3 1 (.slice (some ⟨g, 0, none⟩) C C) C (iv ys)) => hW.frozenAt k
      have hst : ∀ W x, World.ownsRow W g 3 1 (.slice (some ⟨g, 0, none⟩) C C) C (iv ys) → World.ownsRow (W.setCell ⟨g, k, none⟩ (.int .i64 x)) g 3 1 (.slice (some ⟨g, 0, none⟩) C C) C (iv (ys.set k x)) := fun W x hW => by
        have h := (hW.stored k (.int .i64 x)).1
        rwa [show (iv ys).set k (.int .i64 x) = iv (ys.set k x) by simp [iv]] at h
      have hcl : ∀ W, World.ownsRow W g 3 1 (.slice (some ⟨g, 0, none⟩) C C) C (iv ys) → ∃ u, W.cell? ⟨g, k, none⟩ = some u := fun W hW => by
        rw [hW.cellAt k (by omega), ivs_get (by rw [HYL.out]; exact hlt)]; exact ⟨_, rfl⟩
      have HST := Lib.hid hst
      have HCL := Lib.hid hcl
      have HFZ := Lib.hid hfz
      clear hst hcl hfz
      have hnp : (Value.slice (some ⟨g, 0, none⟩) C C).ownBlock ≠ some p := fun e => by
        have e' : g = p := Option.some.inj e
        omega
      go_wp2_with fail
      refine (take_any hx hBl D (by omega) (by rw [HN.out]; omega)).mono ?_; rintro e w4 ⟨rfl, hx4, hf4⟩
      have ho4 : w4.ownsRow g 3 1 (.slice (some ⟨g, 0, none⟩) C C) C (iv ys) := Fr.own hf4 hown (fun i hi e => hnp (by rw [hi, e]))
      have hb4 := hb.trans (hf4.below hpw hb.size)
      obtain ⟨u, hu⟩ := HCL.out w4 ho4
      have hfu := HFZ.out w4 ho4
      have hx4b := hx4.keep ((Fr.refl (fun b => b = g) w4).setCell (p := ⟨g, k, none⟩) (.inl rfl) (.int .i64 (part true D (nxt true B (k * D) D)))) (by omega) (fun a ha => by have := (hA2 a ha).2; omega)
      rw [show k * D + D = (k + 1) * D by rw [Nat.succ_mul]] at hx4b
      have hgw : w.heap.size ≤ g := by omega
      have hty : (ys.set k (part true D (nxt true B (k * D) D))).take (k + 1) = (vals B D C).take (k + 1) := by
        rw [take_set _ _ _ (by rw [HYL.out]; exact hlt), HY.out, vals_take B D C k hlt]
      have HTY := Lib.hid hty
      have HX4 := Lib.hid hx4b
      clear hty hx4b
      go_wp2
      go_roundw
      case rel => exact ⟨k + 1, by omega, by go_num, _, by rw [List.length_set, HYL.out], Lib.hid HTY.out, HST.out _ _ ho4, HX4.out, hb4.setCell hgw _⟩
      case measure => simp [intOf]; omega
    · go_wp2
      go_ret2
      obtain rfl : k = C := by omega
      have hyv : ys = vals B D k := by
        have h := HY.out
        rwa [List.take_of_length_le (by rw [HYL.out]; omega), List.take_of_length_le (by rw [vals_len]; omega)] at h
      exact ⟨_, rfl, by rw [← hyv]; exact own_base hown (fun i hi => by
        have e' : g = i := Option.some.inj hi
        omega), hb⟩
end Go.Proofs.Ytkmgojoojboidaa
