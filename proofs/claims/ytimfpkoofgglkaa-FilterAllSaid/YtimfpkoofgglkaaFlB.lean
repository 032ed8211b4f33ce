/-
  Filter: the loops over a row: the program's Filter and Unfilter and the document's, by contracts. Conditions: rows of at most 100000 bytes.
-/
import Derived.Test.YtimfpkoofgglkaaFlA
namespace Go.Proofs.Ytimfpkoofgglkaa
open Go.RowKit
set_option linter.unusedVariables false

/-! plain -/
/-- what is foretold of byte i, 'out' being the row's bytes that are known -/
def foreAt (k p : Int) (out ahead : List Int) (i : Nat) : Int := fore k (atL out (i - p)) (atL ahead i) (atL ahead (i - p))
theorem foreAt_bd {k p : Int} {out ahead : List Int} (ho : Bs out) (ha : Bs ahead) (i : Nat) : 0 ≤ foreAt k p out ahead i ∧ foreAt k p out ahead i ≤ 255 :=
  fore_bd (atL_bd ho _) (atL_bd ha _) (atL_bd ha _)
/-- the first n bytes filtered -/
def filT (k p : Int) (row ahead : List Int) : Nat → List Int
  | 0 => []
  | n + 1 => filT k p row ahead n ++ [(row.getD n 0 - foreAt k p row ahead n) % 256]
def fil (k p : Int) (row ahead : List Int) : List Int := filT k p row ahead row.length
/-- the first n bytes unfiltered -/
def unfT (k p : Int) (row ahead : List Int) : Nat → List Int
  | 0 => []
  | n + 1 => unfT k p row ahead n ++ [(row.getD n 0 + foreAt k p (unfT k p row ahead n) ahead n) % 256]
def unf (k p : Int) (row ahead : List Int) : List Int := unfT k p row ahead row.length
theorem filT_len (k p : Int) (row ahead : List Int) (n : Nat) : (filT k p row ahead n).length = n := by
  induction n with
  | zero => rfl
  | succ n ih => simp [filT, ih]
theorem unfT_len (k p : Int) (row ahead : List Int) (n : Nat) : (unfT k p row ahead n).length = n := by
  induction n with
  | zero => rfl
  | succ n ih => simp [unfT, ih]
theorem filT_bs (k p : Int) (row ahead : List Int) (n : Nat) : Bs (filT k p row ahead n) := by
  induction n with
  | zero => intro x hx; simp [filT] at hx
  | succ n ih =>
    intro x hx
    simp only [filT, List.mem_append, List.mem_singleton] at hx
    rcases hx with hx | hx
    · exact ih x hx
    · subst hx; omega
theorem unfT_bs (k p : Int) (row ahead : List Int) (n : Nat) : Bs (unfT k p row ahead n) := by
  induction n with
  | zero => intro x hx; simp [unfT] at hx
  | succ n ih =>
    intro x hx
    simp only [unfT, List.mem_append, List.mem_singleton] at hx
    rcases hx with hx | hx
    · exact ih x hx
    · subst hx; omega
theorem bv_snoc (l : List Int) (x : Int) : bv (l ++ [x]) = bv l ++ [.int .u8 x] := by simp [bv]
theorem getD_bd {l : List Int} (h : Bs l) (i : Nat) : 0 ≤ l.getD i 0 ∧ l.getD i 0 ≤ 255 := by
  rw [List.getD_eq_getElem?_getD]
  rcases Nat.lt_or_ge i l.length with hi | hi
  · rw [List.getElem?_eq_getElem hi]; exact h _ (List.getElem_mem hi)
  · rw [List.getElem?_eq_none hi]; simp


theorem good_any (k p : Int) (A A2 : Option Addr) (n n2 c c2 : Nat) (hk : 0 ≤ k ∧ k ≤ 4) (hp : 1 ≤ p ∧ p ≤ 8) (hn : n2 = 0 ∨ n2 = n) (hm : n ≤ 100000) (w : World) :
    Calls Try.prog 30 #[.int .i64 k, .slice A n c, .slice A2 n2 c2, .int .i64 p] w fun e w' => e = .returned .nilIface ∧ w = w' := by
  by_cases h0 : n2 = 0
  · subst h0
    go_enter Try.func30, Try.ntmps30
    go_wp2
    go_ret
    exact ⟨rfl, rfl⟩
  · obtain rfl : n2 = n := by omega
    have h1 : decide ((n2 : Int) ≠ 0) = true := by simp; omega
    go_enter Try.func30, Try.ntmps30
    go_wp2
    all_goals go_ret
    all_goals exact ⟨rfl, rfl⟩

set_option maxHeartbeats 400000 in
theorem filter_any (k p : Int) (A A2 : Option Addr) (n n2 c c2 : Nat) (row ahead : List Int) (w : World) (hk : 0 ≤ k ∧ k ≤ 4) (hp : 1 ≤ p ∧ p ≤ 8)
    (hn : row.length = n) (hn2 : ahead.length = n2) (hR : Rd w w.heap.size A (bv row)) (hR2 : Rd w w.heap.size A2 (bv ahead)) (hB : Bs row) (hB2 : Bs ahead) (hn0 : n2 = 0 ∨ n2 = n) (hm : n ≤ 100000) :
    Calls Try.prog 13 #[.int .i64 k, .slice A n c, .slice A2 n2 c2, .int .i64 p] w fun e w' => ∃ v, e = .returned (.tuple #[v, .nilIface]) ∧
      w'.ownsRow w.heap.size 5 1 v n (bv (fil k p row ahead)) ∧ Below w.heap.size w w' := by
  obtain ⟨i0, hi, hz0, hz1, hz2⟩ := info_parts Try.info_u8
  have hm2 : n2 ≤ 100000 := by omega
  go_enter Try.func13, Try.ntmps13
  go_wp2_with fail
  refine (good_any k p A A2 n n2 c c2 hk hp hn0 hm _).mono ?_; rintro e w' ⟨rfl, rfl⟩
  go_wp2_with fail
  have hmk := fun W => run_make (P := Try.prog) W 26 5 i0 (.int .u8 0) Try.underlying26 hi hz0 .i64 .i64 0 (n : Int) (by omega) (by omega) (by rw [hz2]; omega) (by omega)
  rw [hmk]
  clear hmk
  go_wp2_with fail
  go_loopw [11, 27] (fun v i wr => ∃ j : Nat, j ≤ n ∧ i = .int .i64 j ∧ wr.ownsRow w.heap.size 5 1 v j (bv (filT k p row ahead j)) ∧ Below w.heap.size w wr) (fun _ i _ => n - (intOf i).toNat)
  case atStart => exact ⟨0, Nat.zero_le _, rfl, World.ownsRow_made w _ n (Nat.le_refl _) (by unfold maxLen; omega) (by simp [madeCells]), (Below.refl _ _).alloc (Nat.le_refl _) _⟩
  case round =>
    obtain ⟨j, hj, rfl, hown, hbel⟩ := hrel
    by_cases hlt : j < n
    · obtain ⟨b, off, rfl, hb, hc⟩ := hR.at_ (k := j) (by rw [bv_len]; omega)
      have hcell : wr.cell? ⟨b, off + j, none⟩ = some (.int .u8 (row.getD j 0)) := (hbel.cell hb).trans (hc j _ (by simp [bv, hn, hlt]))
      clear hc
      have hx := getD_bd hB j
      have hf := foreAt_bd (k := k) (p := p) hB hB2 j
      obtain ⟨x, hxe⟩ : ∃ x, x = row.getD j 0 := ⟨_, rfl⟩
      rw [← hxe] at hcell hx
      have HX := Lib.hid hxe
      clear hxe
      skip
      go_wp2_with fail
      refine (at_any _ _ _ _ _ _ _ (hR.below hbel) hn.symm (by omega) (by omega)).mono ?_; rintro e w' ⟨rfl, rfl⟩
      go_wp2_with fail
      refine (at_any _ _ _ _ _ _ _ (hR2.below hbel) hn2.symm (by omega) (by omega)).mono ?_; rintro e w' ⟨rfl, rfl⟩
      go_wp2_with fail
      refine (at_any _ _ _ _ _ _ _ (hR2.below hbel) hn2.symm (by omega) (by omega)).mono ?_; rintro e w' ⟨rfl, rfl⟩
      go_wp2_with fail
      refine (foretell_any _ _ _ _ (atL_bd hB _) (atL_bd hB2 _) (atL_bd hB2 _) _).mono ?_; rintro e w' ⟨rfl, rfl⟩
      obtain ⟨f, hF⟩ : ∃ f, fore k (atL row (↑j - p)) (atL ahead ↑j) (atL ahead (↑j - p)) = f := ⟨_, rfl⟩
      unfold foreAt at hf
      rw [hF] at hf ⊢
      have HF := Lib.hid hF
      clear hF
      go_wp2_with (at_builtin; refine wpList_app _ rfl (.tmp 32) (.tmp 50) 26 rfl Try.underlying26 hi hz0 hz1 hz2 rfl (hown.alloc _) rfl rfl (Rd.new1 _ _ _) rfl (by simp [Value.oneCell']) (by omega) (by omega) (by have := hbel.size; simp; omega) ?_; intro v' w1 hown' hg hat)
      have hb' : Below w.heap.size w w1 := below_app (hbel.alloc hbel.size _) (hown.alloc _) hg (Nat.le_refl _) (by have := hbel.size; simp; omega)
      go_roundw
      case rel =>
        refine ⟨j + 1, by omega, by go_num, ?_, hb'⟩
        rw [filT, bv_snoc, ← HX.out, foreAt, HF.out]
        exact hown'
      case measure => simp [intOf]; omega
    · go_wp2_with fail
      go_ret2
      obtain rfl : j = n := by omega
      exact ⟨_, rfl, by rw [fil, hn]; exact hown, hbel⟩

set_option maxHeartbeats 400000 in
theorem unfilter_any (k p : Int) (A A2 : Option Addr) (n n2 c c2 : Nat) (row ahead : List Int) (w : World) (hk : 0 ≤ k ∧ k ≤ 4) (hp : 1 ≤ p ∧ p ≤ 8)
    (hn : row.length = n) (hn2 : ahead.length = n2) (hR : Rd w w.heap.size A (bv row)) (hR2 : Rd w w.heap.size A2 (bv ahead)) (hB : Bs row) (hB2 : Bs ahead) (hn0 : n2 = 0 ∨ n2 = n) (hm : n ≤ 100000) :
    Calls Try.prog 14 #[.int .i64 k, .slice A n c, .slice A2 n2 c2, .int .i64 p] w fun e w' => ∃ v, e = .returned (.tuple #[v, .nilIface]) ∧
      w'.ownsRow w.heap.size 5 1 v n (bv (unf k p row ahead)) ∧ Below w.heap.size w w' := by
  obtain ⟨i0, hi, hz0, hz1, hz2⟩ := info_parts Try.info_u8
  have hm2 : n2 ≤ 100000 := by omega
  go_enter Try.func14, Try.ntmps14
  go_wp2_with fail
  refine (good_any k p A A2 n n2 c c2 hk hp hn0 hm _).mono ?_; rintro e w' ⟨rfl, rfl⟩
  go_wp2_with fail
  have hmk := fun W => run_make (P := Try.prog) W 26 5 i0 (.int .u8 0) Try.underlying26 hi hz0 .i64 .i64 0 (n : Int) (by omega) (by omega) (by rw [hz2]; omega) (by omega)
  rw [hmk]
  clear hmk
  go_wp2_with fail
  go_loopw [11, 27] (fun v i wr => ∃ j : Nat, j ≤ n ∧ i = .int .i64 j ∧ wr.ownsRow w.heap.size 5 1 v j (bv (unfT k p row ahead j)) ∧ Below w.heap.size w wr) (fun _ i _ => n - (intOf i).toNat)
  case atStart => exact ⟨0, Nat.zero_le _, rfl, World.ownsRow_made w _ n (Nat.le_refl _) (by unfold maxLen; omega) (by simp [madeCells]), (Below.refl _ _).alloc (Nat.le_refl _) _⟩
  case round =>
    obtain ⟨j, hj, rfl, hown, hbel⟩ := hrel
    by_cases hlt : j < n
    · obtain ⟨b, off, rfl, hb, hc⟩ := hR.at_ (k := j) (by rw [bv_len]; omega)
      have hcell : wr.cell? ⟨b, off + j, none⟩ = some (.int .u8 (row.getD j 0)) := (hbel.cell hb).trans (hc j _ (by simp [bv, hn, hlt]))
      clear hc
      have hx := getD_bd hB j
      have hf := foreAt_bd (k := k) (p := p) (unfT_bs k p row ahead j) hB2 j
      obtain ⟨x, hxe⟩ : ∃ x, x = row.getD j 0 := ⟨_, rfl⟩
      rw [← hxe] at hcell hx
      have HX := Lib.hid hxe
      clear hxe
      obtain ⟨A3, c3, rfl, hR3⟩ := own_slice hown
      go_wp2_with fail
      refine (at_any _ _ _ _ _ _ _ hR3 (unfT_len k p row ahead j).symm (by omega) (by rw [unfT_len]; omega)).mono ?_; rintro e w' ⟨rfl, rfl⟩
      go_wp2_with fail
      refine (at_any _ _ _ _ _ _ _ (hR2.below hbel) hn2.symm (by omega) (by omega)).mono ?_; rintro e w' ⟨rfl, rfl⟩
      go_wp2_with fail
      refine (at_any _ _ _ _ _ _ _ (hR2.below hbel) hn2.symm (by omega) (by omega)).mono ?_; rintro e w' ⟨rfl, rfl⟩
      go_wp2_with fail
      refine (foretell_any _ _ _ _ (atL_bd (unfT_bs k p row ahead j) _) (atL_bd hB2 _) (atL_bd hB2 _) _).mono ?_; rintro e w' ⟨rfl, rfl⟩
      obtain ⟨f, hF⟩ : ∃ f, fore k (atL (unfT k p row ahead j) (↑j - p)) (atL ahead ↑j) (atL ahead (↑j - p)) = f := ⟨_, rfl⟩
      unfold foreAt at hf
      rw [hF] at hf ⊢
      have HF := Lib.hid hF
      clear hF
      go_wp2_with (at_builtin; refine wpList_app _ rfl (.tmp 32) (.tmp 50) 26 rfl Try.underlying26 hi hz0 hz1 hz2 rfl (hown.alloc _) rfl rfl (Rd.new1 _ _ _) rfl (by simp [Value.oneCell']) (by omega) (by omega) (by have := hbel.size; simp; omega) ?_; intro v' w1 hown' hg hat)
      have hb' : Below w.heap.size w w1 := below_app (hbel.alloc hbel.size _) (hown.alloc _) hg (Nat.le_refl _) (by have := hbel.size; simp; omega)
      go_roundw
      case rel =>
        refine ⟨j + 1, by omega, by go_num, ?_, hb'⟩
        rw [unfT, bv_snoc, ← HX.out, foreAt, HF.out]
        exact hown'
      case measure => simp [intOf]; omega
    · go_wp2_with fail
      go_ret2
      obtain rfl : j = n := by omega
      exact ⟨_, rfl, by rw [unf, hn]; exact hown, hbel⟩

set_option maxHeartbeats 400000 in
theorem rfilter_any (k p : Int) (A A2 : Option Addr) (n n2 c c2 : Nat) (row ahead : List Int) (w : World) (hp : 1 ≤ p ∧ p ≤ 8)
    (hn : row.length = n) (hn2 : ahead.length = n2) (hR : Rd w w.heap.size A (bv row)) (hR2 : Rd w w.heap.size A2 (bv ahead)) (hB : Bs row) (hB2 : Bs ahead) (hn0 : n2 = 0 ∨ n2 = n) (hm : n ≤ 100000) :
    Calls Try.prog 19 #[.int .i64 k, .slice A n c, .slice A2 n2 c2, .int .i64 p] w fun e w' => ∃ v, e = .returned v ∧
      w'.ownsRow w.heap.size 5 1 v n (bv (fil k p row ahead)) ∧ Below w.heap.size w w' := by
  obtain ⟨i0, hi, hz0, hz1, hz2⟩ := info_parts Try.info_u8
  have hm2 : n2 ≤ 100000 := by omega
  go_enter Try.func19, Try.ntmps19
  go_wp2_with fail
  go_loopw [9, 10] (fun v i wr => ∃ j : Nat, j ≤ n ∧ i = .int .i64 j ∧ wr.ownsRow w.heap.size 5 1 v j (bv (filT k p row ahead j)) ∧ Below w.heap.size w wr) (fun _ i _ => n - (intOf i).toNat)
  case atStart => exact ⟨0, Nat.zero_le _, rfl, World.ownsRow_nil _ _ _ _, Below.refl _ _⟩
  case round =>
    obtain ⟨j, hj, rfl, hown, hbel⟩ := hrel
    by_cases hlt : j < n
    · obtain ⟨b, off, rfl, hb, hc⟩ := hR.at_ (k := j) (by rw [bv_len]; omega)
      have hcell : wr.cell? ⟨b, off + j, none⟩ = some (.int .u8 (row.getD j 0)) := (hbel.cell hb).trans (hc j _ (by simp [bv, hn, hlt]))
      clear hc
      have hx := getD_bd hB j
      have hf := foreAt_bd (k := k) (p := p) hB hB2 j
      obtain ⟨x, hxe⟩ : ∃ x, x = row.getD j 0 := ⟨_, rfl⟩
      rw [← hxe] at hcell hx
      have HX := Lib.hid hxe
      clear hxe
      skip
      go_wp2_with fail
      refine (byteAt_any _ _ _ _ _ _ _ (hR.below hbel) hB hn.symm (by omega) (by omega)).mono ?_; rintro e w' ⟨rfl, rfl⟩
      go_wp2_with fail
      refine (byteAt_any _ _ _ _ _ _ _ (hR2.below hbel) hB2 hn2.symm (by omega) (by omega)).mono ?_; rintro e w' ⟨rfl, rfl⟩
      go_wp2_with fail
      refine (byteAt_any _ _ _ _ _ _ _ (hR2.below hbel) hB2 hn2.symm (by omega) (by omega)).mono ?_; rintro e w' ⟨rfl, rfl⟩
      go_wp2_with fail
      refine (rforetell_any _ _ _ _ (atL_bd hB _) (atL_bd hB2 _) (atL_bd hB2 _) _).mono ?_; rintro e w' ⟨rfl, rfl⟩
      obtain ⟨f, hF⟩ : ∃ f, fore k (atL row (↑j - p)) (atL ahead ↑j) (atL ahead (↑j - p)) = f := ⟨_, rfl⟩
      unfold foreAt at hf
      rw [hF] at hf ⊢
      have HF := Lib.hid hF
      clear hF
      go_wp2_with (at_builtin; refine wpList_app _ rfl (.tmp 33) (.tmp 44) 26 rfl Try.underlying26 hi hz0 hz1 hz2 rfl (hown.alloc _) rfl rfl (Rd.new1 _ _ _) rfl (by simp [Value.oneCell']) (by omega) (by omega) (by have := hbel.size; simp; omega) ?_; intro v' w1 hown' hg hat)
      have hb' : Below w.heap.size w w1 := below_app (hbel.alloc hbel.size _) (hown.alloc _) hg (Nat.le_refl _) (by have := hbel.size; simp; omega)
      go_roundw
      case rel =>
        refine ⟨j + 1, by omega, by go_num, ?_, hb'⟩
        rw [filT, bv_snoc, ← HX.out, foreAt, HF.out]
        have hv : (x - f) % 256 = (x + 256 - f) % 256 := by omega
        rw [hv]; exact hown'
      case measure => simp [intOf]; omega
    · go_wp2_with fail
      go_ret
      obtain rfl : j = n := by omega
      exact ⟨_, rfl, by rw [fil, hn]; exact hown, hbel⟩

set_option maxHeartbeats 400000 in
theorem runfilter_any (k p : Int) (A A2 : Option Addr) (n n2 c c2 : Nat) (row ahead : List Int) (w : World) (hp : 1 ≤ p ∧ p ≤ 8)
    (hn : row.length = n) (hn2 : ahead.length = n2) (hR : Rd w w.heap.size A (bv row)) (hR2 : Rd w w.heap.size A2 (bv ahead)) (hB : Bs row) (hB2 : Bs ahead) (hn0 : n2 = 0 ∨ n2 = n) (hm : n ≤ 100000) :
    Calls Try.prog 20 #[.int .i64 k, .slice A n c, .slice A2 n2 c2, .int .i64 p] w fun e w' => ∃ v, e = .returned v ∧
      w'.ownsRow w.heap.size 5 1 v n (bv (unf k p row ahead)) ∧ Below w.heap.size w w' := by
  obtain ⟨i0, hi, hz0, hz1, hz2⟩ := info_parts Try.info_u8
  have hm2 : n2 ≤ 100000 := by omega
  go_enter Try.func20, Try.ntmps20
  go_wp2_with fail
  go_loopw [9, 10] (fun v i wr => ∃ j : Nat, j ≤ n ∧ i = .int .i64 j ∧ wr.ownsRow w.heap.size 5 1 v j (bv (unfT k p row ahead j)) ∧ Below w.heap.size w wr) (fun _ i _ => n - (intOf i).toNat)
  case atStart => exact ⟨0, Nat.zero_le _, rfl, World.ownsRow_nil _ _ _ _, Below.refl _ _⟩
  case round =>
    obtain ⟨j, hj, rfl, hown, hbel⟩ := hrel
    by_cases hlt : j < n
    · obtain ⟨b, off, rfl, hb, hc⟩ := hR.at_ (k := j) (by rw [bv_len]; omega)
      have hcell : wr.cell? ⟨b, off + j, none⟩ = some (.int .u8 (row.getD j 0)) := (hbel.cell hb).trans (hc j _ (by simp [bv, hn, hlt]))
      clear hc
      have hx := getD_bd hB j
      have hf := foreAt_bd (k := k) (p := p) (unfT_bs k p row ahead j) hB2 j
      obtain ⟨x, hxe⟩ : ∃ x, x = row.getD j 0 := ⟨_, rfl⟩
      rw [← hxe] at hcell hx
      have HX := Lib.hid hxe
      clear hxe
      obtain ⟨A3, c3, rfl, hR3⟩ := own_slice hown
      go_wp2_with fail
      refine (byteAt_any _ _ _ _ _ _ _ hR3 ((unfT_bs k p row ahead j)) (unfT_len k p row ahead j).symm (by omega) (by rw [unfT_len]; omega)).mono ?_; rintro e w' ⟨rfl, rfl⟩
      go_wp2_with fail
      refine (byteAt_any _ _ _ _ _ _ _ (hR2.below hbel) hB2 hn2.symm (by omega) (by omega)).mono ?_; rintro e w' ⟨rfl, rfl⟩
      go_wp2_with fail
      refine (byteAt_any _ _ _ _ _ _ _ (hR2.below hbel) hB2 hn2.symm (by omega) (by omega)).mono ?_; rintro e w' ⟨rfl, rfl⟩
      go_wp2_with fail
      refine (rforetell_any _ _ _ _ (atL_bd (unfT_bs k p row ahead j) _) (atL_bd hB2 _) (atL_bd hB2 _) _).mono ?_; rintro e w' ⟨rfl, rfl⟩
      obtain ⟨f, hF⟩ : ∃ f, fore k (atL (unfT k p row ahead j) (↑j - p)) (atL ahead ↑j) (atL ahead (↑j - p)) = f := ⟨_, rfl⟩
      unfold foreAt at hf
      rw [hF] at hf ⊢
      have HF := Lib.hid hF
      clear hF
      go_wp2_with (at_builtin; refine wpList_app _ rfl (.tmp 33) (.tmp 43) 26 rfl Try.underlying26 hi hz0 hz1 hz2 rfl (hown.alloc _) rfl rfl (Rd.new1 _ _ _) rfl (by simp [Value.oneCell']) (by omega) (by omega) (by have := hbel.size; simp; omega) ?_; intro v' w1 hown' hg hat)
      have hb' : Below w.heap.size w w1 := below_app (hbel.alloc hbel.size _) (hown.alloc _) hg (Nat.le_refl _) (by have := hbel.size; simp; omega)
      go_roundw
      case rel =>
        refine ⟨j + 1, by omega, by go_num, ?_, hb'⟩
        rw [unfT, bv_snoc, ← HX.out, foreAt, HF.out]
        exact hown'
      case measure => simp [intOf]; omega
    · go_wp2_with fail
      go_ret
      obtain rfl : j = n := by omega
      exact ⟨_, rfl, by rw [unf, hn]; exact hown, hbel⟩
end Go.Proofs.Ytimfpkoofgglkaa
