/-
  sample.Pack, by contracts. No condition beyond the range that each names.
-/
import Derived.Test.YtkmgojoojboidaaSaA
import Derived.Test.YtkmgojoojboidaaBiE
import Derived.Test.YtkmgojoojboidaaInts
namespace Go.Proofs.Ytkmgojoojboidaa
open Go.RowKit
set_option linter.unusedVariables false
set_option maxRecDepth 100000

/-- a number of a depth -/
def Gx (D : Nat) (x : Int) : Prop := 0 ≤ x ∧ x / 2 ^ D = 0
instance (D : Nat) (x : Int) : Decidable (Gx D x) := by unfold Gx; infer_instance
theorem Gx.lt {D : Nat} {x : Int} (h : Gx D x) : x < 2 ^ D := by
  have h1 := Int.emod_add_mul_ediv x (2 ^ D)
  have h2 := two_pos D
  have h3 := Int.emod_lt_of_pos x (show (0 : Int) < 2 ^ D by omega)
  rw [h.2] at h1; omega
/-- numbers' bits; the same, filled with 0 -/
def flt (D : Nat) (l : List Int) : List Int := l.flatMap fun x => digs true x D
theorem flt_app (D : Nat) (a b : List Int) : flt D (a ++ b) = flt D a ++ flt D b := by simp [flt]
theorem flt_one (D : Nat) (x : Int) : flt D [x] = digs true x D := by simp [flt]
theorem flt_len (D : Nat) (l : List Int) : (flt D l).length = l.length * D := by
  induction l with
  | nil => simp [flt]
  | cons x l ih =>
    rw [show x :: l = [x] ++ l from rfl, flt_app, List.length_append, ih, flt_one, digs_len, List.length_append, List.length_singleton, Nat.add_mul, Nat.one_mul]
theorem flt_01 (D : Nat) (l : List Int) : B01 (flt D l) := fun x hx => by
  obtain ⟨y, _, hy⟩ := List.mem_flatMap.1 hx
  exact digs_01 true y D x hy
theorem flt_take (D : Nat) (l : List Int) (k : Nat) (hk : k < l.length) : flt D (l.take (k + 1)) = flt D (l.take k) ++ digs true (l.getD k 0) D := by
  rw [List.take_add_one, List.getElem?_eq_getElem hk, List.getD_eq_getElem?_getD, List.getElem?_eq_getElem hk, flt_app, ← flt_one]; rfl
def fz (L : List Int) : List Int := L ++ List.replicate (pad L.length) 0
theorem fz_len (L : List Int) : (fz L).length = 8 * nby L.length := by unfold fz pad nby; simp; omega
theorem fz_full (L : List Int) : full true (fz L) = fz L := by
  have h : pad (fz L).length = 0 := by rw [fz_len]; unfold pad; omega
  unfold full; rw [h]; simp
theorem fz_01 {L : List Int} (h : B01 L) : B01 (fz L) := h.app (B01.rep _ (.inl rfl))
theorem nby_nby (n : Nat) : nby (8 * nby n) = nby n := by unfold nby; omega
theorem Dp.bd' {d : Int} (h : Dp d) : 1 ≤ d ∧ d ≤ 16 := by unfold Dp at h; omega

set_option maxHeartbeats 1000000 in
theorem pack_form (A : Option Addr) (n c : Nat) (d : Int) (w : World) (hb : ¬ (Dp d ∧ n ≤ 1048576)) : 
    Calls Try.prog 50 #[.slice A n c, .int .i64 d] w fun e w' => e = .returned (.tuple #[.slice none 0 0, errV 6]) ∧ Below w.heap.size w w' := by
  by_cases h1 : Dp d
  · have h2 : 1048576 < n := by
      rcases Nat.lt_or_ge 1048576 n with h | h
      · exact h
      · exact absurd ⟨h1, h⟩ hb
    clear hb
    go_enter Try.func50, Try.ntmps50
    go_wp2_with (go_at_call 55; refine (deep_is d true (decide_eq_true h1) _).mono ?_; rintro e w1 ⟨rfl, hb1⟩)
    go_ret2
    exact ⟨rfl, hb1⟩
  · clear hb
    go_enter Try.func50, Try.ntmps50
    go_wp2_with (go_at_call 55; refine (deep_is d false (decide_eq_false h1) _).mono ?_; rintro e w1 ⟨rfl, hb1⟩)
    go_ret2
    exact ⟨rfl, hb1⟩

/-- what Pack comes to: bytes, or an error where a number is out of range -/
def Packed (B : Nat) (n D : Nat) (l : List Int) (w : World) (e : Ending) (w' : World) : Prop :=
  ((∀ x ∈ l, Gx D x) → ∃ v, e = .returned (.tuple #[v, .nilIface]) ∧ w'.ownsRow B 5 1 v (nby (n * D)) (bv (pack true (fz (flt D l))))) ∧
  (¬ (∀ x ∈ l, Gx D x) → e = .returned (.tuple #[.slice none 0 0, errV 7])) ∧ Below B w w'

set_option maxHeartbeats 4000000 in
theorem pack_any (A : Option Addr) (n c D : Nat) (l : List Int) (w : World) (hn : l.length = n) (hR : Rd w w.heap.size A (iv l)) (hI : Is l) (hg : Dp D ∧ n ≤ 1048576) :
    Calls Try.prog 50 #[.slice A n c, .int .i64 D] w (Packed w.heap.size n D l w) := by
  obtain ⟨h1, h2⟩ := hg
  have hd := h1.bd'
  have HN := Lib.hid hn
  clear hn
  go_enter Try.func50, Try.ntmps50
  go_wp2_with (go_at_call 55; refine (deep_is D true (decide_eq_true h1) _).mono ?_; rintro e w1 ⟨rfl, hb1⟩)
  refine (newWriter_any true w1).mono ?_; rintro e w2 ⟨rfl, hx2, hb2⟩
  have hs1 := hb1.size
  have hb2' := hb1.trans (hb2.mono hs1)
  have hs2 := hx2.lt
  obtain ⟨p, hp⟩ : ∃ p, p = w1.heap.size := ⟨_, rfl⟩
  rw [← hp] at hx2 hs2 ⊢
  have hp1 : w.heap.size ≤ p := by omega
  clear hp hb2
  go_wp2
  go_loopw [23] (fun i wr => ∃ k : Nat, k ≤ n ∧ i = .int .i64 k ∧ Hid (∀ x ∈ l.take k, Gx D x) ∧ ∃ v, Wr wr p true v (flt D (l.take k)) ∧ (∀ j, v.ownBlock = some j → w.heap.size ≤ j) ∧ Below w.heap.size w wr) (fun i _ => n - (intOf i).toNat)
  case atStart => exact ⟨0, Nat.zero_le _, rfl, Lib.hid (by simp), _, hx2, fun j hj => by simp [Value.ownBlock] at hj, hb2'⟩
  case round =>
    obtain ⟨k, hk, rfl, HG, v, hx, hv, hb⟩ := hrel
    clear hx2 hb2'
    by_cases hlt : k < n
    · obtain ⟨b, off, rfl, _, hcell⟩ := (hR.below hb).at_ (k := k) (by rw [iv_len, HN.out]; exact hlt)
      have hc := hcell k _ (ivs_get (by rw [HN.out]; exact hlt))
      have hin : l.getD k 0 ∈ l := by rw [List.getD_eq_getElem?_getD, List.getElem?_eq_getElem (by rw [HN.out]; exact hlt)]; exact List.getElem_mem _
      have hxb := hI _ hin
      have hft := flt_take D l k (by rw [HN.out]; exact hlt)
      have htk : l.take (k + 1) = l.take k ++ [l.getD k 0] := by
        rw [List.take_add_one, List.getElem?_eq_getElem (by rw [HN.out]; exact hlt), List.getD_eq_getElem?_getD, List.getElem?_eq_getElem (by rw [HN.out]; exact hlt)]; rfl
      have HFT := Lib.hid hft
      have HTK := Lib.hid htk
      have HIN := Lib.hid hin
      clear hcell hft htk hin
      generalize l.getD k 0 = x at *
      have hsz := hb.size
      by_cases hg : Gx D x
      · have hf : Fit x D := ⟨by omega, hg.1, by rw [Int.toNat_natCast]; exact hg.2⟩
        have hg1 := hg.1
        have hg2 : (x / 2 ^ D != 0) = false := by simpa using hg.2
        have hg3 : (x / 2 ^ min D 64 != 0) = false := by rw [Nat.min_eq_left (by omega)]; exact hg2
        have hll : (flt D (l.take k)).length ≤ 16777216 := by
          rw [flt_len, List.length_take, HN.out]
          calc min k n * D ≤ 1048576 * 16 := Nat.mul_le_mul (by omega) (by omega)
            _ = 16777216 := rfl
        go_wp2_with (go_at_call 33; refine (put_any p true v _ x D wr hx hf (by omega) (by omega)).mono ?_; rintro e w4 ⟨rfl, v4, hx4, ht4⟩)
        go_roundw
        case rel => exact ⟨k + 1, by omega, by go_num, Lib.hid (by
          rw [HTK.out]; intro y hy
          rcases List.mem_append.1 hy with hy | hy
          · exact HG.out y hy
          · simp at hy; rw [hy]; exact hg), v4, by rw [HFT.out]; exact hx4, fun j hj => by
          rcases ht4.row j hj with h | h
          · exact hv j h
          · omega, hb.trans (ht4.below hp1 hv hsz)⟩
        case measure => simp [intOf]; omega
      · have hnall : ¬ (∀ x ∈ l, Gx D x) := fun h => hg (h x HIN.out)
        have HNA := Lib.hid hnall
        clear hnall
        by_cases hx0 : x < 0
        · clear hg
          go_wp2
          go_ret2
          exact ⟨fun h => absurd h HNA.out, fun _ => rfl, hb⟩
        · have hg2 : (x / 2 ^ D != 0) = true := by
            simp only [bne_iff_ne, ne_eq]; intro h; exact hg ⟨by omega, h⟩
          have hg3 : (x / 2 ^ min D 64 != 0) = true := by rw [Nat.min_eq_left (by omega)]; exact hg2
          clear hg
          go_wp2
          go_ret2
          exact ⟨fun h => absurd h HNA.out, fun _ => rfl, hb⟩
    · have hkn : k = n := by omega
      have hall : ∀ x ∈ l, Gx D x := by
        have h := HG.out
        rwa [List.take_of_length_le (by rw [HN.out]; omega)] at h
      rw [List.take_of_length_le (by rw [HN.out]; omega)] at hx
      have HA := Lib.hid hall
      have hLl : (flt D l).length = n * D := by rw [flt_len, HN.out]
      have hll : (flt D l).length ≤ 16777216 := by
        rw [hLl]
        calc n * D ≤ 1048576 * 16 := Nat.mul_le_mul (by omega) (by omega)
          _ = 16777216 := rfl
      have HLL := Lib.hid hLl
      have hnbl : nby (flt D l).length ≤ 2097153 := by unfold nby; omega
      clear hall hkn hLl HG
      generalize hLe : flt D l = L at *
      have HLE := Lib.hid hLe
      clear hLe
      go_wp2
      go_loopg [] (pad L.length) (fun g wr => ∃ j, j + g = pad L.length ∧ ∃ v, Wr wr p true v (L ++ List.replicate j 0) ∧ (∀ j, v.ownBlock = some j → w.heap.size ≤ j) ∧ Below w.heap.size w wr)
      case atStart => exact ⟨0, by omega, v, by simpa using hx, hv, hb⟩
      case round =>
        obtain ⟨j, hj, v', hx', hv', hb'⟩ := hrel
        clear hx hv hb
        obtain ⟨m, hm⟩ : ∃ m, m = (L ++ List.replicate j 0).length := ⟨_, rfl⟩
        have hm2 : m = L.length + j := by rw [hm]; simp
        have hjp : j ≤ pad L.length ∧ pad L.length ≤ 7 ∧ (L.length + pad L.length) % 8 = 0 := by unfold pad at *; omega
        have hj1 : j + gk ≤ pad L.length ∧ pad L.length ≤ j + gk := by omega
        have hm3 : m ≤ L.length + j ∧ L.length + j ≤ m := by omega
        have hwl := wlen_any p true v' _ _ hx'
        rw [← hm] at hwl
        have HWL := Lib.hid hwl
        have HM := Lib.hid hm
        clear hm hm2 hj hwl
        have hsz := hb'.size
        by_cases hg0 : gk = 0
        · have h8 : ((m : Int) % 8 != 0) = false := by simp; omega
          have hjl : j = pad L.length := by omega
          have hfz : L ++ List.replicate j 0 = fz L := by rw [hjl]; rfl
          rw [hfz] at hx'
          have HF := Lib.hid hfz
          have hfl := fz_len L
          have HFL := Lib.hid hfl
          have hnb : nby (fz L).length = nby (n * D) := by rw [hfl, nby_nby, HLL.out]
          have HNB := Lib.hid hnb
          have hfll : (fz L).length < 549755813888 := by rw [hfl]; omega
          clear hjl hfz hfl hnb hg0
          go_wp2_with (first
            | (go_at_call 38; refine HWL.out.mono ?_; rintro e w' ⟨rfl, rfl⟩)
            | (go_at_call 36; refine (bytes_any p true v' (fz L) _ hx' hfll).mono ?_; rintro e w5 ⟨v5, rfl, ho5, hb5⟩))
          go_ret2
          refine ⟨fun _ => ⟨v5, rfl, ?_⟩, fun h => absurd HA.out h, hb'.trans (hb5.mono hsz)⟩
          rw [HNB.out, fz_full] at ho5
          rw [HLE.out]
          exact own_base ho5 (fun i hi => Nat.le_trans hsz (ho5.lt i hi).1)
        · have h8 : ((m : Int) % 8 != 0) = true := by simp; unfold pad at *; omega
          have hsn : L ++ List.replicate (j + 1) 0 = L ++ List.replicate j 0 ++ digs true 0 1 := by
            rw [List.append_assoc, List.replicate_succ']; rfl
          have HS := Lib.hid hsn
          have hl' : (L ++ List.replicate j 0).length < 549755813888 := by rw [← HM.out]; omega
          clear hsn
          go_wp2_with (first
            | (go_at_call 38; refine HWL.out.mono ?_; rintro e w' ⟨rfl, rfl⟩)
            | (go_at_call 33; refine (put_any p true v' _ 0 1 _ hx' (by decide) (by omega) hl').mono ?_; rintro e w4 ⟨rfl, v4, hx4, ht4⟩))
          go_roundg (gk - 1)
          case measure => omega
          case rel => exact ⟨j + 1, by omega, v4, by rw [HS.out]; exact hx4, fun i hi => by
            rcases ht4.row i hi with h | h
            · exact hv' i h
            · omega, hb'.trans (ht4.below hp1 hv' hsz)⟩
end Go.Proofs.Ytkmgojoojboidaa
