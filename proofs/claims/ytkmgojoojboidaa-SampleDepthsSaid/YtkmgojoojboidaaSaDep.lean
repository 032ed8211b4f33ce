/-
  SampleDepths: which depth any numbers need is what the document says. No condition.
-/
import Derived.Test.YtkmgojoojboidaaSaB
import Derived.OneCell
namespace Go.Proofs.Ytkmgojoojboidaa
open Go.ChangeShapes Go.WideShapes Go.ChangeAt Go.WideMaps Go.WideElems Go.RowKit Go.Joins
set_option linter.unusedVariables false

/-! plain -/
def fitsAll (l : List Int) (d : Int) : Bool := l.all fun n => decide (Nar n d)
def depthOf (l : List Int) : Int := if fitsAll l 1 then 1 else if fitsAll l 2 then 2 else if fitsAll l 4 then 4 else if fitsAll l 8 then 8 else 16
theorem fits_snoc (l : List Int) (x d : Int) : fitsAll (l ++ [x]) d = (fitsAll l d && decide (Nar x d)) := by simp [fitsAll]
theorem fits_not {l : List Int} {d : Int} : (∃ x ∈ l, ¬ Nar x d) ↔ fitsAll l d = false := by
  unfold fitsAll
  rw [List.all_eq_false]
  simp

/-- the closure: is a number none of a depth's? -/
theorem wide_any (n d : Int) (g : Nat) (hn : -9223372036854775808 ≤ n ∧ n ≤ 9223372036854775807) (w : World) (hc : w.cell? ⟨g, 0, none⟩ = some (.int .i64 d)) :
    Calls Try.prog 58 #[.int .i64 n, .pointer (some ⟨g, 0, none⟩)] w fun e w' => e = .returned (.bool (!decide (Nar n d))) ∧ Below w.heap.size w w' := by
  by_cases h : Nar n d
  · rw [show (!decide (Nar n d)) = false by simp [h]]
    go_enter Try.func58, Try.ntmps58
    go_wp2_with fail
    refine (narrow_in n d h _).mono ?_; rintro e w1 ⟨rfl, hb1⟩
    go_wp2
    go_ret
    exact ⟨rfl, hb1⟩
  · rw [show (!decide (Nar n d)) = true by simp [h]]
    go_enter Try.func58, Try.ntmps58
    go_wp2_with fail
    refine (narrow_out n d h hn _).mono ?_; rintro e w1 ⟨rfl, hb1⟩
    go_wp2
    go_ret
    exact ⟨rfl, hb1⟩

set_option maxHeartbeats 400000 in
theorem indexWide_any (A : Option Addr) (n c : Nat) (l : List Int) (d : Int) (g B : Nat) (w : World) (hR : Rd w B A (iv l)) (hB : B ≤ w.heap.size) (hI : Is l) (hn : n = l.length) (hm : n ≤ 1000000) (hc : w.cell? ⟨g, 0, none⟩ = some (.int .i64 d)) (hg : g < w.heap.size) :
    Calls Try.prog 67 #[.slice A n c, .func (.func 58) #[] #[.pointer (some ⟨g, 0, none⟩)]] w fun e w' => (∃ r : Int, e = .returned (.int .i64 r) ∧ (0 ≤ r ↔ fitsAll l d = false) ∧ -1 ≤ r ∧ r ≤ n) ∧ Below w.heap.size w w' := by
  have HN := Lib.hid hn
  clear hn
  go_enter Try.func67, Try.ntmps67
  go_wp2_with fail
  go_loopw [8] (fun i wr => ∃ k : Nat, k ≤ n ∧ i = .int .i64 k ∧ fitsAll (l.take k) d = true ∧ Below w.heap.size w wr) (fun i _ => n - (intOf i).toNat)
  case atStart => exact ⟨0, Nat.zero_le _, rfl, by simp [fitsAll], Below.refl _ _⟩
  case round =>
    obtain ⟨k, hk, rfl, hfit, hb⟩ := hrel
    have HF := Lib.hid hfit
    clear hfit
    by_cases hlt : k < n
    · have hl := HN.out
      obtain ⟨b, off, rfl, hbB, hcx⟩ := hR.at_ (k := k) (by rw [iv_len]; omega)
      obtain ⟨y, hy⟩ : ∃ y, y = l.getD k 0 := ⟨_, rfl⟩
      have hcell : wr.cell? ⟨b, off + k, none⟩ = some (.int .i64 y) := (hb.cell (p := ⟨b, off + k, none⟩) (by show b < _; omega)).trans (hcx k _ (by rw [hy]; simp [iv, ← hl, hlt]))
      have hcg : wr.cell? ⟨g, 0, none⟩ = some (.int .i64 d) := (hb.cell (p := ⟨g, 0, none⟩) hg).trans hc
      have hkl : k < l.length := by omega
      have htk : l.take (k + 1) = l.take k ++ [y] := by rw [hy, List.take_succ_eq_append_getElem hkl, List.getD_eq_getElem?_getD, List.getElem?_eq_getElem hkl]; rfl
      have hmem : y ∈ l := by rw [hy, List.getD_eq_getElem?_getD, List.getElem?_eq_getElem hkl]; exact List.getElem_mem hkl
      have hyI := hI y hmem
      have HT := Lib.hid htk
      have HM := Lib.hid hmem
      clear hy hcx hl htk hmem
      go_wp2_with fail
      refine (wide_any y d g hyI _ hcg).mono ?_; rintro e w1 ⟨rfl, hb1⟩
      have hb1' := hb.trans (hb1.mono hb.size)
      by_cases hN : Nar y d
      · have hv : (!decide (Nar y d)) = false := by simp [hN]
        rw [hv]
        go_wp2
        go_roundw
        case rel => exact ⟨k + 1, by omega, by go_num, by rw [HT.out, fits_snoc, HF.out]; simpa using hN, hb1'⟩
        case measure => simp [intOf]; omega
      · have hv : (!decide (Nar y d)) = true := by simp [hN]
        rw [hv]
        go_wp2
        go_ret
        exact ⟨⟨k, rfl, ⟨fun _ => fits_not.1 ⟨y, HM.out, hN⟩, fun _ => by omega⟩, by omega, by omega⟩, hb1'⟩
    · go_wp2
      go_ret
      have hh := HF.out
      rw [List.take_of_length_le (by rw [← HN.out]; omega)] at hh
      exact ⟨⟨-1, rfl, ⟨fun h => absurd h (by omega), fun h => by rw [hh] at h; cases h⟩, by omega, by omega⟩, hb⟩

theorem containsWide_is (A : Option Addr) (n c : Nat) (l : List Int) (d : Int) (g B : Nat) (bl : Bool) (h : (!fitsAll l d) = bl) (w : World) (hR : Rd w B A (iv l)) (hB : B ≤ w.heap.size) (hI : Is l) (hn : n = l.length) (hm : n ≤ 1000000) (hc : w.cell? ⟨g, 0, none⟩ = some (.int .i64 d)) (hg : g < w.heap.size) :
    Calls Try.prog 59 #[.slice A n c, .func (.func 58) #[] #[.pointer (some ⟨g, 0, none⟩)]] w fun e w' => e = .returned (.bool bl) ∧ Below w.heap.size w w' := by
  have H := Lib.hid h
  have HN := Lib.hid hn
  clear h hn
  go_enter Try.func59, Try.ntmps59
  go_wp2_with fail
  refine (indexWide_any A n c l d g B _ hR hB hI HN.out hm hc hg).mono ?_; rintro e w' ⟨⟨r, rfl, hr, h1, h2⟩, hb⟩
  have HR := Lib.hid hr
  clear hr
  go_wp2
  go_ret
  refine ⟨ret_bool ?_, hb⟩
  rw [← H.out]
  cases hf : fitsAll l d
  · have := HR.out.2 hf
    simp [this]
  · have : ¬ (0 ≤ r) := fun h => by have := HR.out.1 h; rw [hf] at this; cases this
    simp; omega

/-- the depths in their order -/
def dd : Nat → Int
  | 0 => 1
  | 1 => 2
  | 2 => 4
  | 3 => 8
  | _ => 16
theorem dd_bd (k : Nat) : 1 ≤ dd k ∧ dd k ≤ 16 := by unfold dd; split <;> omega

set_option maxHeartbeats 1000000 in
theorem depth_any (A : Option Addr) (n c : Nat) (l : List Int) (w : World) (hR : Rd w w.heap.size A (iv l)) (hI : Is l) (hn : n = l.length) (hm : n ≤ 1000000) :
    Calls Try.prog 28 #[.slice A n c] w fun e w' => e = .returned (.int .i64 (depthOf l)) ∧ Below w.heap.size w w' := by
  have HN := Lib.hid hn
  clear hn
  have hmf : ∀ (fn : Fn) (first cap : Array Value) (w : World), (Instr.makeFunc fn first cap).run Try.prog w = .ok (.func fn first cap) w := fun _ _ _ _ => rfl
  go_enter Try.func28, Try.ntmps28
  go_wp2_with fail
  refine (depths_any _).mono ?_; rintro e w1 ⟨rfl, hw1⟩
  have hb1 : Below w.heap.size w w1 := by rw [← hw1]; exact (Below.refl _ _).alloc (Nat.le_refl _) _
  have hR1 : Rd w1 (w.heap.size + 1) (some ⟨w.heap.size, 0, none⟩) (iv [1, 2, 4, 8, 16]) := by rw [← hw1]; exact Rd.lit w 3 (iv [1, 2, 4, 8, 16])
  have hs1 : w1.heap.size = w.heap.size + 1 := by rw [← hw1]; simp
  have HS := Lib.hid hs1
  clear hw1 hs1
  go_wp2_with fail
  go_loopw [8] (fun i wr => ∃ k : Nat, k ≤ 5 ∧ i = .int .i64 k ∧ (∀ j, j < k → fitsAll l (dd j) = false) ∧ Below w.heap.size w wr ∧ Below (w.heap.size + 1) w1 wr) (fun i _ => 5 - (intOf i).toNat)
  case atStart => exact ⟨0, Nat.zero_le _, rfl, fun j hj => by omega, hb1, Below.refl _ _⟩
  case round =>
    obtain ⟨k, hk, rfl, hnot, hb, hbw⟩ := hrel
    have HX := Lib.hid hnot
    clear hnot
    by_cases hlt : k < 5
    · have hcell : wr.cell? ⟨w.heap.size, k, none⟩ = some (.int .i64 (dd k)) := by
        have h := (hR1.below hbw)
        rcases h with h | ⟨b, off, hA, hbB, hc⟩
        · simp [iv] at h
        · injection hA with hA
          injection hA with h1 h2
          subst h1 h2
          rw [← Nat.zero_add k]
          apply hc
          match k, hlt with
          | 0, _ => rfl
          | 1, _ => rfl
          | 2, _ => rfl
          | 3, _ => rfl
          | 4, _ => rfl
      have hsz : w.heap.size < wr.heap.size := by have := hbw.size; have := HS.out; omega
      have hcx : ∀ v, (wr.alloc (.cells #[v] 3)).cell? ⟨wr.heap.size, 0, none⟩ = some v := fun v => by rw [World.cell?_alloc_at _ _ _ _ rfl]; rfl
      have hRr := ((hR.below hb).more hb.size)
      have hd := dd_bd k
      generalize hdd : dd k = d at *
      have HD := Lib.hid hdd
      clear hdd
      have hcd := hcx (.int .i64 d)
      clear hcx
      go_wp2_with fail
      cases hf : fitsAll l d
      · have HF := Lib.hid hf
        clear hf
        refine (containsWide_is A n c l d _ wr.heap.size true (by rw [HF.out]; rfl) _ (hRr.below ((Below.refl _ _).alloc (Nat.le_refl _) _)) (by simp) hI HN.out hm hcd (by simp)).mono ?_; rintro e w2 ⟨rfl, hb2⟩
        have hb2' : Below w.heap.size w w2 := (hb.alloc hb.size _).trans (hb2.mono (by have := hb.size; simp; omega))
        have hbw2 : Below (w.heap.size + 1) w1 w2 := (hbw.alloc (by omega) _).trans (hb2.mono (by simp; omega))
        go_wp2
        go_roundw
        case rel =>
          refine ⟨k + 1, by omega, by go_num, fun j hj => ?_, hb2', hbw2⟩
          by_cases hjk : j < k
          · exact HX.out j hjk
          · obtain rfl : j = k := by omega
            rw [HD.out]; exact HF.out
        case measure => simp [intOf]; omega
      · have HF := Lib.hid hf
        clear hf
        refine (containsWide_is A n c l d _ wr.heap.size false (by rw [HF.out]; rfl) _ (hRr.below ((Below.refl _ _).alloc (Nat.le_refl _) _)) (by simp) hI HN.out hm hcd (by simp)).mono ?_; rintro e w2 ⟨rfl, hb2⟩
        have hb2' : Below w.heap.size w w2 := (hb.alloc hb.size _).trans (hb2.mono (by have := hb.size; simp; omega))
        have hcd2 : w2.cell? ⟨wr.heap.size, 0, none⟩ = some (.int .i64 d) := (hb2.cell (p := ⟨wr.heap.size, 0, none⟩) (by simp)).trans hcd
        go_wp2
        go_ret
        refine ⟨ret_int ?_, hb2'⟩
        have h1 := HF.out
        rw [← HD.out] at h1 ⊢
        have hx := HX.out
        clear HX HF HD hcell hcd hcd2
        unfold depthOf
        match k, hlt with
        | 0, _ => simp only [dd] at h1 ⊢; simp [h1]
        | 1, _ => have e0 := hx 0 (by omega); simp only [dd] at e0 h1 ⊢; simp [e0, h1]
        | 2, _ => have e0 := hx 0 (by omega); have e1 := hx 1 (by omega); simp only [dd] at e0 e1 h1 ⊢; simp [e0, e1, h1]
        | 3, _ => have e0 := hx 0 (by omega); have e1 := hx 1 (by omega); have e2 := hx 2 (by omega); simp only [dd] at e0 e1 e2 h1 ⊢; simp [e0, e1, e2, h1]
        | 4, _ => have e0 := hx 0 (by omega); have e1 := hx 1 (by omega); have e2 := hx 2 (by omega); have e3 := hx 3 (by omega); simp only [dd] at e0 e1 e2 e3 ⊢; simp [e0, e1, e2, e3]
    · go_wp2
      go_ret
      refine ⟨ret_int ?_, hb⟩
      have e0 := HX.out 0 (by omega); have e1 := HX.out 1 (by omega); have e2 := HX.out 2 (by omega); have e3 := HX.out 3 (by omega)
      simp only [dd] at e0 e1 e2 e3
      unfold depthOf
      simp [e0, e1, e2, e3]

/-- the law's own order of depths, and what is wanted behind the first k of them -/
def ee : Nat → Int
  | 0 => 8
  | 1 => 4
  | 2 => 2
  | _ => 1
theorem ee_bd (k : Nat) : 1 ≤ ee k ∧ ee k ≤ 8 := by unfold ee; split <;> omega
def wantT (l : List Int) : Nat → Int
  | 0 => 16
  | k + 1 => if fitsAll l (ee k) then ee k else wantT l k
theorem want_all (l : List Int) : wantT l 4 = depthOf l := by simp [wantT, depthOf, ee]

set_option maxHeartbeats 1000000 in
theorem sampleDepths_any (w : World) (A : Option Addr) (n c : Nat) (l : List Int) (hn : l.length = n) (hc : n ≤ c) (hm : c ≤ 9223372036854775807) (hR : Rd w w.heap.size A (iv l)) (hI : Is l) :
    Calls Try.prog 6 #[.slice A n c] w fun e w' => e = .returned (.bool true) ∧ Below w.heap.size w w' := by
  have HN := Lib.hid hn
  clear hn
  have hL2 := Rd.lit w 3 (iv [0, 65535])
  have hb0 : Below w.heap.size w (w.alloc (.cells (iv [0, 65535]).toArray 3)) := (Below.refl _ _).alloc (Nat.le_refl _) _
  go_enter Try.func6, Try.ntmps6
  go_wp2_with fail
  refine (depth_any _ 2 _ [0, 65535] _ (hL2.more (by simp)) (by intro x hx; simp at hx; omega) rfl (by omega)).mono ?_; rintro e w1 ⟨rfl, hb1⟩
  rw [show depthOf [0, 65535] = 1 from by decide]
  have hb1' : Below w.heap.size w w1 := hb0.trans (hb1.mono (by simp))
  clear hL2 hb0 hb1
  have hL3 := Rd.lit w1 3 (iv [257])
  have hb2 : Below w.heap.size w (w1.alloc (.cells (iv [257]).toArray 3)) := hb1'.alloc hb1'.size _
  go_wp2_with fail
  refine (depth_any _ 1 _ [257] _ (hL3.more (by simp)) (by intro x hx; simp at hx; omega) rfl (by omega)).mono ?_; rintro e w2 ⟨rfl, hb3⟩
  rw [show depthOf [257] = 8 from by decide]
  have hb3' : Below w.heap.size w w2 := hb2.trans (hb3.mono (by have := hb1'.size; simp; omega))
  clear hL3 hb2 hb3 hb1'
  have hL4 := Rd.lit w2 3 (iv [1])
  have hb4 : Below w.heap.size w (w2.alloc (.cells (iv [1]).toArray 3)) := hb3'.alloc hb3'.size _
  go_wp2_with fail
  refine (depth_any _ 1 _ [1] _ (hL4.more (by simp)) (by intro x hx; simp at hx; omega) rfl (by omega)).mono ?_; rintro e w3 ⟨rfl, hb5⟩
  rw [show depthOf [1] = 16 from by decide]
  have hb5' : Below w.heap.size w w3 := hb4.trans (hb5.mono (by have := hb3'.size; simp; omega))
  clear hL4 hb4 hb5 hb3'
  by_cases hl : 200 < n
  · go_wp2
    go_ret
    exact ⟨rfl, hb5'⟩
  have hL5 := Rd.lit w3 3 (iv [8, 4, 2, 1])
  have hs3 := hb5'.size
  go_wp2_with fail
  generalize hw4 : w3.alloc (.cells (iv [8, 4, 2, 1]).toArray 3) = w4 at *
  have hw4' : w3.alloc (.cells #[.int .i64 8, .int .i64 4, .int .i64 2, .int .i64 1] 3) = w4 := hw4
  rw [hw4']
  have hb6 : Below w.heap.size w w4 := by rw [← hw4]; exact hb5'.alloc hb5'.size _
  clear hw4 hw4'
  go_loop [3, 27] (fun v i => ∃ k : Nat, k ≤ 4 ∧ i = .int .i64 k ∧ v = .int .i64 (wantT l k)) (fun _ i => 4 - (intOf i).toNat)
  case atStart => exact ⟨0, Nat.zero_le _, rfl, rfl⟩
  case round =>
    obtain ⟨k, hk, rfl, rfl⟩ := hrel
    by_cases hlt : k < 4
    · have hcell : w4.cell? ⟨w3.heap.size, k, none⟩ = some (.int .i64 (ee k)) := by
        rcases hL5 with h | ⟨b, off, hA, hbB, hc⟩
        · simp [iv] at h
        · injection hA with hA
          injection hA with h1 h2
          subst h1 h2
          rw [← Nat.zero_add k]
          apply hc
          match k, hlt with
          | 0, _ => rfl
          | 1, _ => rfl
          | 2, _ => rfl
          | 3, _ => rfl
      have hst : wantT l (k + 1) = if fitsAll l (ee k) then ee k else wantT l k := rfl
      have hd := ee_bd k
      have HST := Lib.hid hst
      clear hst
      generalize ee k = d at *
      generalize wantT l k = v at *
      go_wp2_with fail
      go_loop [6, 33] (fun f i => ∃ j : Nat, j ≤ n ∧ i = .int .i64 j ∧ f = .bool (fitsAll (l.take j) d)) (fun _ i => n - (intOf i).toNat)
      case atStart => exact ⟨0, Nat.zero_le _, rfl, rfl⟩
      case round =>
        obtain ⟨j, hj, rfl, rfl⟩ := hrel
        by_cases hjn : j < n
        · have hl' := HN.out
          obtain ⟨b, off, rfl, hbB, hcx⟩ := hR.at_ (k := j) (by rw [iv_len]; omega)
          obtain ⟨y, hy⟩ : ∃ y, y = l.getD j 0 := ⟨_, rfl⟩
          have hcl : w4.cell? ⟨b, off + j, none⟩ = some (.int .i64 y) := (hb6.cell (p := ⟨b, off + j, none⟩) (by show b < _; omega)).trans (hcx j _ (by rw [hy]; simp [iv, hl', hjn]))
          have htk : l.take (j + 1) = l.take j ++ [y] := by rw [hy, List.take_succ_eq_append_getElem (by omega), List.getD_eq_getElem?_getD, List.getElem?_eq_getElem (by omega)]; rfl
          have hfs : fitsAll (l.take (j + 1)) d = (fitsAll (l.take j) d && decide (Nar y d)) := by rw [htk, fits_snoc]
          have HFS := Lib.hid hfs
          have hnn := @narr_nonneg y d
          have HNN := Lib.hid hnn
          clear hy hcx hl' htk hfs hnn hcell
          cases hf : fitsAll (l.take j) d
          · have HF := Lib.hid hf
            clear hf
            go_wp2
            go_round
            case rel => exact ⟨j + 1, by omega, by go_num, by rw [HFS.out, HF.out]; rfl⟩
            case measure => simp [intOf]; omega
          · have HF := Lib.hid hf
            clear hf
            go_wp2_with fail
            refine (rnarrow_any y d _).mono ?_; rintro e w' ⟨rfl, rfl⟩
            generalize hnr : narr y d = nr at *
            have HNR := Lib.hid hnr
            clear hnr
            go_wp2
            go_round
            case rel => exact ⟨j + 1, by omega, by go_num, by rw [HFS.out, HF.out, Bool.true_and]; congr 1; exact decide_eq_decide.2 HNN.out⟩
            case measure => simp [intOf]; omega
        · have hfl : fitsAll (l.take j) d = fitsAll l d := by rw [List.take_of_length_le (by rw [HN.out]; omega)]
          rw [hfl]
          clear hfl
          cases hf : fitsAll l d
          · have HF := Lib.hid hf
            clear hf
            go_wp2
            go_round
            case rel => exact ⟨k + 1, by omega, by go_num, by rw [HST.out, HF.out]; rfl⟩
            case measure => simp [intOf]; omega
          · have HF := Lib.hid hf
            clear hf
            go_wp2
            go_round
            case rel => exact ⟨k + 1, by omega, by go_num, by rw [HST.out, HF.out]; rfl⟩
            case measure => simp [intOf]; omega
    · obtain rfl : k = 4 := by omega
      rw [want_all]
      go_wp2_with fail
      refine (depth_any A n c l _ ((hR.below hb6).more hb6.size) hI HN.out.symm (by omega)).mono ?_; rintro e w5 ⟨rfl, hb7⟩
      go_wp2
      go_ret
      exact ⟨rfl, hb6.trans (hb7.mono hb6.size)⟩
namespace SampleDepths
theorem own : ownKnob Try.prog.godebug = none := by kernel_rfl
theorem laid : laidOutB Try.prog = true := by kernel_rfl

theorem contract (H : Type) (enc : TypeId × Value → H) (W : World) (base : Nat) (args : Array Value) (ds gs : List (DataW H)) (before : List MemPlace)
    (hval : ∀ (j : Nat) t v, Try.f6.params[j]? = some t → args[j]? = some v → Value.okWide Try.prog W .any base t v)
    (hW : DataW.Whole enc Try.prog Try.f6.params.toList Rows.sampleDepthsSpec.vars false W args.toList ds gs before) :
    Calls Try.prog 6 args W fun e W' => ∃ v, e = .returned v ∧ Rows.sampleDepthsSpec.post enc Try.prog Try.f6 false true false false W args v W' := by
  have hW' := hW
  obtain ⟨p, q, hA0, hV, rfl, hfz, hnd⟩ := hW
  have hA : DataW.TrodAll enc Try.prog W 0 (fun _ => true) true Try.f6.params.toList args.toList ds p := hA0
  rw [Try.params6] at hA hval
  clear hA0
  obtain ⟨v0, vs0, d0, ds0, p0, q0, hargs, rfl, rfl, h0, r0⟩ := trodAll_cons hA
  obtain ⟨rfl, rfl, rfl⟩ := trodAll_nil r0
  obtain rfl : args = #[v0] := by cases args; simp_all
  obtain ⟨rfl, rfl⟩ := trodVars_none hV
  obtain ⟨Ax0, nx0, cx0, rfl⟩ := okWide_slice Try.underlying43 (hval 0 _ _ rfl rfl)
  obtain ⟨fu0, hf0⟩ := h0
  obtain ⟨A', n', c', x0, ev0, hnx0, hcx0, hmx0, hRx0, hwx0⟩ := open_rd Try.underlying43 Try.underlying3 (by kernel_rfl) hf0
  injection ev0 with ea eb ec
  subst ea eb ec
  refine (sampleDepths_any W Ax0 nx0 cx0 x0 hnx0 hcx0 hmx0 hRx0 (wf_is hwx0)).mono fun e W' ⟨he, hb⟩ => ?_
  subst he
  exact ⟨_, rfl, post_true laid hW' rfl rfl Try.underlying4 (by kernel_rfl) rfl hb⟩

set_option maxRecDepth 100000 in
theorem lifted (os : Os) (started : os.Started) (H : Type) (enc : TypeId × Value → H) :
    ReturnsInHanded {} Try.checked os 6 .any (Rows.sampleDepthsSpec.pre6 enc Try.prog Try.f6 Rows.sampleDepthsRow.domain false) (Rows.sampleDepthsSpec.post enc Try.prog Try.f6 false true false false) := by
  refine returnsInHanded_of_change (C := Try.checked) own started (by kernel_rfl) Try.func6
    (ChangeSpec.witness6 (enc := enc) (C := Try.checked) (os := os) false ⟨#[], #[.slice none 0 0], []⟩ 8 (by kernel_rfl) (by kernel_rfl) (by kernel_rfl) (by kernel_rfl)) ?_
  intro W base args ds gs before hval hW _ _
  exact contract H enc W base args ds gs before hval hW

theorem proved : Rows.SampleDepthsSaid :=
  OpenClaim.holds_of_wide 6 Try.f6 rfl rfl rfl rfl rfl rfl rfl ⟨rfl, rfl, rfl, rfl, rfl⟩ rfl rfl rfl rfl rfl (by kernel_rfl) Try.func6 (by kernel_rfl)
    (of_decide_eq_true (by kernel_rfl)) (by unfold Func.isWrapper; first | (rw [if_pos (by decide +kernel)]; kernel_rfl) | (rw [if_neg (by decide +kernel)]; exact ⟨rfl, rfl⟩))
    (fun os started H enc _ => lifted os started H enc)
end SampleDepths
#print axioms SampleDepths.proved
end Go.Proofs.Ytkmgojoojboidaa
