/-
  ScanBack: the lengths of flat, by a contract. No condition.
-/
import Derived.Test.YtlhappecjjbopaaMake
import Derived.Test.YtlhappecjjbopaaCaQ
import Derived.Test.YtlhappecjjbopaaScU
namespace Go.Proofs.Ytlhappecjjbopaa
open Go.RowKit
set_option linter.unusedVariables false
set_option maxRecDepth 100000

/-- lengths of n symbols: d + 1, the first m of them one more -/
def flatL (n d m : Nat) : List Int := (List.range n).map fun j => if j < m then (d : Int) + 2 else (d : Int) + 1
/-- .. the first k of them laid -/
def flatK (n d m k : Nat) : List Int := (List.range n).map fun j => if j < k then (if j < m then (d : Int) + 2 else (d : Int) + 1) else 0
theorem flatK_len (n d m k : Nat) : (flatK n d m k).length = n := by simp [flatK]
theorem flatL_len (n d m : Nat) : (flatL n d m).length = n := by simp [flatL]
theorem flatK_all (n d m : Nat) : flatK n d m n = flatL n d m := by
  unfold flatK flatL
  exact List.map_congr_left fun j hj => if_pos (List.mem_range.1 hj)
theorem flatK_zero (n d m : Nat) : flatK n d m 0 = List.replicate n 0 := by
  apply List.ext_getElem
  · simp [flatK]
  · intro i h1 h2; simp [flatK]
theorem flatK_set (n d m k : Nat) : (flatK n d m k).set k (if k < m then (d : Int) + 2 else (d : Int) + 1) = flatK n d m (k + 1) := by
  apply List.ext_getElem
  · simp [flatK]
  · intro i h1 h2
    rw [List.getElem_set]
    simp only [flatK, List.getElem_map, List.getElem_range]
    by_cases hi : k = i
    · subst hi; rw [if_pos rfl, if_pos (show k < k + 1 by omega)]
    · rw [if_neg hi]
      by_cases h3 : i < k
      · rw [if_pos h3, if_pos (show i < k + 1 by omega)]
      · rw [if_neg h3, if_neg (show ¬ i < k + 1 by omega)]
theorem own_fz {w : World} {B g n k : Nat} {xs : List Value} (h : w.ownsRow B 3 1 (.slice (some ⟨g, 0, none⟩) n n) n xs) (hk : k < n) : w.frozen? ⟨g, k, none⟩ = false := by
  rcases h.2 with ⟨h1, _⟩ | ⟨g', cap, cur, hv, _, hg, hnc, _, hcs, _⟩
  · cases h1
  · injection hv with h1 _ h2
    injection h1 with h1
    injection h1 with h1
    subst h1 h2
    simp [World.frozen?, hg]
def rep0 (n : Nat) : List Int := List.replicate n 0
def FlatP (n d : Nat) (w : World) (e : Ending) (w' : World) : Prop :=
  ∃ m c, m < 7 ∧ e = .returned (.slice (some ⟨w.heap.size, 0, none⟩) n c) ∧ w'.ownsRow w.heap.size 3 1 (.slice (some ⟨w.heap.size, 0, none⟩) n c) n (iv (flatL n d m)) ∧ Below w.heap.size w w'

set_option maxHeartbeats 4000000 in
theorem flat12_any (sh : Int) (w : World) : Calls Try.prog 88 #[.int .i64 12, .int .i64 sh] w (FlatP 12 4 w) := by
  have hmk : ∀ W : World, (Instr.makeSlice 24 (.int .i64 12) (.int .i64 12)).run Try.prog W = .ok (.slice (some ⟨W.heap.size, 0, none⟩) 12 12) (W.alloc (.cells (iv (rep0 12)).toArray 3)) := fun W => make_ints 12 (by omega) W
  obtain ⟨m7, hm7⟩ : ∃ m7 : Int, m7 = 0 := ⟨_, rfl⟩
  obtain ⟨k0, hk0, hkb⟩ : ∃ k0 : Nat, wrap64 ((IntKind.u64.wrap sh).tmod 12) = (k0 : Int) ∧ k0 < 12 := by
    have h1 : 0 ≤ IntKind.u64.wrap sh := by simp only [IntKind.wrap, IntKind.signed, IntKind.bits]; exact Int.emod_nonneg _ (by decide)
    rw [Int.tmod_eq_emod_of_nonneg h1]
    have h2 := Int.emod_nonneg (IntKind.u64.wrap sh) (show (12 : Int) ≠ 0 by decide)
    have h3 := Int.emod_lt_of_pos (IntKind.u64.wrap sh) (show (0 : Int) < 12 by decide)
    generalize IntKind.u64.wrap sh % 12 = z at *
    rw [IntWalk.wrap64_in z ⟨by omega, by omega⟩]
    exact ⟨z.toNat, by omega, by omega⟩
  have ho0 := own_ints w (rep0 12) (by rw [rep0, List.length_replicate]; omega)
  rw [show (rep0 12).length = 12 by rw [rep0, List.length_replicate], show rep0 12 = flatK 12 4 (2 * k0 % 7) 0 by rw [flatK_zero]; rfl] at ho0
  have hb0 : Below w.heap.size w (w.alloc (.cells (iv (rep0 12)).toArray 3)) := (Below.refl _ _).alloc (Nat.le_refl _) _
  rw [show rep0 12 = flatK 12 4 (2 * k0 % 7) 0 by rw [flatK_zero]; rfl] at hmk hb0
  go_enter Try.func88, Try.ntmps88
  go_wp2_with fail
  generalize w.alloc (.cells (iv (flatK 12 4 (2 * k0 % 7) 0)).toArray 3) = w0 at *
  clear hmk
  go_loop [6] (fun dv => ∃ q : Nat, 1 ≤ q ∧ q ≤ 4 ∧ dv = .int .i64 q) (fun dv => 4 - (intOf dv).toNat)
  case atStart => exact ⟨1, by omega, by omega, rfl⟩
  case round =>
    obtain ⟨q, hq1, hq2, rfl⟩ := hrel
    by_cases hq : q < 4
    · have hpw : (2 : Int) ^ q < 12 := by
        have h : 2 ^ q < 12 := by
          have : 2 ^ q ≤ 2 ^ 3 := Nat.pow_le_pow_right (by omega) (by omega)
          omega
        rw [← two_cast]; omega
      have hp0 := two_pos q
      go_wp2_with fail
      go_round
      case rel => exact ⟨q + 1, by omega, by omega, by go_num⟩
      case measure => simp [intOf]; omega
    · obtain rfl : q = 4 := by omega
      go_wp2_with fail
      clear hk0
      go_loopw [26] (fun i wr => ∃ k : Nat, k ≤ 12 ∧ i = .int .i64 k ∧ wr.ownsRow w.heap.size 3 1 (.slice (some ⟨w.heap.size, 0, none⟩) 12 12) 12 (iv (flatK 12 4 (2 * k0 % 7) k)) ∧ Below w.heap.size w wr) (fun i _ => 12 - (intOf i).toNat)
      case atStart => exact ⟨0, Nat.zero_le _, rfl, ho0, hb0⟩
      case round =>
        obtain ⟨k, hk, rfl, hown, hb⟩ := hrel
        clear ho0 hb0
        by_cases hlt : k < 12
        · have hlen := flatK_len 12 4 (2 * k0 % 7) k
          have cc : wr.cell? ⟨w.heap.size, k, none⟩ = some (.int .i64 ((flatK 12 4 (2 * k0 % 7) k).getD k 0)) := by
            have h := World.ownsRow.cellAt hown k (by omega)
            rwa [ivs_get (by rw [hlen]; exact hlt)] at h
          have cf : wr.frozen? ⟨w.heap.size, k, none⟩ = false := own_fz hown hlt
          have s1 := own_set hown k 5
          have s2 := own_set s1 k 6
          rw [List.set_set] at s2
          have hks := flatK_set 12 4 (2 * k0 % 7) k
          have hk0' : (0 : Int) ≤ (k : Int) := by omega
          have hk1' : (k : Int) < 12 := by omega
          have hd2 : decide ((k : Int) < 2 * (k0 : Int) % 7) = decide (k < 2 * k0 % 7) := decide_eq_decide.2 (by omega)
          have S1 := Lib.hid s1
          have S2 := Lib.hid s2
          by_cases hm : k < 2 * k0 % 7
          · rw [if_pos hm] at hks
            have HKS := Lib.hid hks
            have dm : (k : Int) < 2 * (k0 : Int) % 7 := by omega
            clear hks hlen s1 s2 hd2 hown
            go_wp2_with fail
            go_roundw
            case rel => exact ⟨k + 1, by omega, by go_num, by rw [← HKS.out]; exact S2.out, (hb.setCell (p := ⟨w.heap.size, k, none⟩) (Nat.le_refl _) _).setCell (p := ⟨w.heap.size, k, none⟩) (Nat.le_refl _) _⟩
            case measure => simp [intOf]; omega
          · rw [if_neg hm] at hks
            have HKS := Lib.hid hks
            have dm : ¬ (k : Int) < 2 * (k0 : Int) % 7 := by omega
            clear hks hlen s1 s2 hd2 hown
            go_wp2_with fail
            go_roundw
            case rel => exact ⟨k + 1, by omega, by go_num, by rw [← HKS.out]; exact S1.out, hb.setCell (p := ⟨w.heap.size, k, none⟩) (Nat.le_refl _) _⟩
            case measure => simp [intOf]; omega
        · have hk : k = 12 := by omega
          have hm7 : 2 * k0 % 7 < 7 := by omega
          go_wp2_with fail
          go_ret
          rw [hk, flatK_all] at hown
          exact ⟨_, 12, hm7, rfl, hown, hb⟩

set_option maxHeartbeats 4000000 in
theorem flat256_any (sh : Int) (w : World) : Calls Try.prog 88 #[.int .i64 256, .int .i64 sh] w (FlatP 256 8 w) := by
  have hmk : ∀ W : World, (Instr.makeSlice 24 (.int .i64 256) (.int .i64 256)).run Try.prog W = .ok (.slice (some ⟨W.heap.size, 0, none⟩) 256 256) (W.alloc (.cells (iv (rep0 256)).toArray 3)) := fun W => make_ints 256 (by omega) W
  obtain ⟨m7, hm7⟩ : ∃ m7 : Int, m7 = 0 := ⟨_, rfl⟩
  obtain ⟨k0, hk0, hkb⟩ : ∃ k0 : Nat, wrap64 ((IntKind.u64.wrap sh).tmod 256) = (k0 : Int) ∧ k0 < 256 := by
    have h1 : 0 ≤ IntKind.u64.wrap sh := by simp only [IntKind.wrap, IntKind.signed, IntKind.bits]; exact Int.emod_nonneg _ (by decide)
    rw [Int.tmod_eq_emod_of_nonneg h1]
    have h2 := Int.emod_nonneg (IntKind.u64.wrap sh) (show (256 : Int) ≠ 0 by decide)
    have h3 := Int.emod_lt_of_pos (IntKind.u64.wrap sh) (show (0 : Int) < 256 by decide)
    generalize IntKind.u64.wrap sh % 256 = z at *
    rw [IntWalk.wrap64_in z ⟨by omega, by omega⟩]
    exact ⟨z.toNat, by omega, by omega⟩
  have ho0 := own_ints w (rep0 256) (by rw [rep0, List.length_replicate]; omega)
  rw [show (rep0 256).length = 256 by rw [rep0, List.length_replicate], show rep0 256 = flatK 256 8 (2 * k0 % 7) 0 by rw [flatK_zero]; rfl] at ho0
  have hb0 : Below w.heap.size w (w.alloc (.cells (iv (rep0 256)).toArray 3)) := (Below.refl _ _).alloc (Nat.le_refl _) _
  rw [show rep0 256 = flatK 256 8 (2 * k0 % 7) 0 by rw [flatK_zero]; rfl] at hmk hb0
  go_enter Try.func88, Try.ntmps88
  go_wp2_with fail
  generalize w.alloc (.cells (iv (flatK 256 8 (2 * k0 % 7) 0)).toArray 3) = w0 at *
  clear hmk
  go_loop [6] (fun dv => ∃ q : Nat, 1 ≤ q ∧ q ≤ 8 ∧ dv = .int .i64 q) (fun dv => 8 - (intOf dv).toNat)
  case atStart => exact ⟨1, by omega, by omega, rfl⟩
  case round =>
    obtain ⟨q, hq1, hq2, rfl⟩ := hrel
    by_cases hq : q < 8
    · have hpw : (2 : Int) ^ q < 256 := by
        have h : 2 ^ q < 256 := by
          have : 2 ^ q ≤ 2 ^ 7 := Nat.pow_le_pow_right (by omega) (by omega)
          omega
        rw [← two_cast]; omega
      have hp0 := two_pos q
      go_wp2_with fail
      go_round
      case rel => exact ⟨q + 1, by omega, by omega, by go_num⟩
      case measure => simp [intOf]; omega
    · obtain rfl : q = 8 := by omega
      go_wp2_with fail
      clear hk0
      go_loopw [26] (fun i wr => ∃ k : Nat, k ≤ 256 ∧ i = .int .i64 k ∧ wr.ownsRow w.heap.size 3 1 (.slice (some ⟨w.heap.size, 0, none⟩) 256 256) 256 (iv (flatK 256 8 (2 * k0 % 7) k)) ∧ Below w.heap.size w wr) (fun i _ => 256 - (intOf i).toNat)
      case atStart => exact ⟨0, Nat.zero_le _, rfl, ho0, hb0⟩
      case round =>
        obtain ⟨k, hk, rfl, hown, hb⟩ := hrel
        clear ho0 hb0
        by_cases hlt : k < 256
        · have hlen := flatK_len 256 8 (2 * k0 % 7) k
          have cc : wr.cell? ⟨w.heap.size, k, none⟩ = some (.int .i64 ((flatK 256 8 (2 * k0 % 7) k).getD k 0)) := by
            have h := World.ownsRow.cellAt hown k (by omega)
            rwa [ivs_get (by rw [hlen]; exact hlt)] at h
          have cf : wr.frozen? ⟨w.heap.size, k, none⟩ = false := own_fz hown hlt
          have s1 := own_set hown k 9
          have s2 := own_set s1 k 10
          rw [List.set_set] at s2
          have hks := flatK_set 256 8 (2 * k0 % 7) k
          have hk0' : (0 : Int) ≤ (k : Int) := by omega
          have hk1' : (k : Int) < 256 := by omega
          have hd2 : decide ((k : Int) < 2 * (k0 : Int) % 7) = decide (k < 2 * k0 % 7) := decide_eq_decide.2 (by omega)
          have S1 := Lib.hid s1
          have S2 := Lib.hid s2
          by_cases hm : k < 2 * k0 % 7
          · rw [if_pos hm] at hks
            have HKS := Lib.hid hks
            have dm : (k : Int) < 2 * (k0 : Int) % 7 := by omega
            clear hks hlen s1 s2 hd2 hown
            go_wp2_with fail
            go_roundw
            case rel => exact ⟨k + 1, by omega, by go_num, by rw [← HKS.out]; exact S2.out, (hb.setCell (p := ⟨w.heap.size, k, none⟩) (Nat.le_refl _) _).setCell (p := ⟨w.heap.size, k, none⟩) (Nat.le_refl _) _⟩
            case measure => simp [intOf]; omega
          · rw [if_neg hm] at hks
            have HKS := Lib.hid hks
            have dm : ¬ (k : Int) < 2 * (k0 : Int) % 7 := by omega
            clear hks hlen s1 s2 hd2 hown
            go_wp2_with fail
            go_roundw
            case rel => exact ⟨k + 1, by omega, by go_num, by rw [← HKS.out]; exact S1.out, hb.setCell (p := ⟨w.heap.size, k, none⟩) (Nat.le_refl _) _⟩
            case measure => simp [intOf]; omega
        · have hk : k = 256 := by omega
          have hm7 : 2 * k0 % 7 < 7 := by omega
          go_wp2_with fail
          go_ret
          rw [hk, flatK_all] at hown
          exact ⟨_, 256, hm7, rfl, hown, hb⟩

theorem flat_fm : (∀ m, m < 7 → Fm (flatL 12 4 m)) ∧ ∀ m, m < 7 → Fm (flatL 256 8 m) := by decide +kernel
theorem flat_pos (n d m s : Nat) (hs : s < n) : s < (flatL n d m).length ∧ 0 < (flatL n d m).getD s 0 := by
  refine ⟨by rw [flatL_len]; exact hs, ?_⟩
  rw [List.getD_eq_getElem?_getD, flatL, List.getElem?_map, List.getElem?_range hs]
  simp only [Option.map_some, Option.getD_some]
  split <;> omega
theorem flat_has {n d m : Nat} {C : List Int} (hf : Fm (flatL n d m)) (hc : Cd (flatL n d m) C) : Has (flatL n d m) (ordU (flatL n d m) 16) C n :=
  ⟨ordd_U hf hc, hf.2.1, fun s hs h0 => by obtain ⟨i, hi, _⟩ := ord_get hf.2.1 hs h0; exact ⟨i, hi⟩, fun s hs => flat_pos n d m s hs⟩
theorem flat_is {n d m : Nat} (hf : Fm (flatL n d m)) : Is (flatL n d m) := fun x hx => by have := hf.2.1 x hx; omega
end Go.Proofs.Ytlhappecjjbopaa
