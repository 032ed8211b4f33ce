/-
  scan.Count, by contracts: how often symbols stand. Conditions: at most 100000 pieces.
-/
import Derived.Test.YtlhappecjjbopaaLib
import Derived.Test.YtlhappecjjbopaaMake
import Derived.Deep.CutRange
import Derived.RegionTactic
import Derived.ChangeAlike
namespace Go.Proofs.Ytlhappecjjbopaa
open Go.RowKit
set_option linter.unusedVariables false
set_option maxRecDepth 100000

/-- a piece as cells -/
def P4 (r : List Value) : Prop := ∃ (a : Bool) (s e b : Int), r = [.bool a, .int .i64 s, .int .i64 e, .int .i64 b] ∧ (-9223372036854775808 ≤ s ∧ s ≤ 9223372036854775807) ∧ (-9223372036854775808 ≤ e ∧ e ≤ 9223372036854775807) ∧ (-9223372036854775808 ≤ b ∧ b ≤ 9223372036854775807)
def bump (x : Bool) (r : List Value) (l : List Int) : List Int :=
  match r with
  | [.bool a, .int .i64 s, _, _] => if a = x ∧ 0 ≤ s ∧ s < 256 then l.set s.toNat (l.getD s.toNat 0 + 1) else l
  | _ => l
/-- 256 noughts -/
def Z256 : List Int := List.replicate 256 0
def cnt (x : Bool) (rows : List (List Value)) : List Int := rows.foldl (fun l r => bump x r l) Z256
theorem cnt_snoc (x : Bool) (rows : List (List Value)) (r : List Value) : cnt x (rows ++ [r]) = bump x r (cnt x rows) := by simp [cnt]
theorem bump_len (x : Bool) (r : List Value) (l : List Int) : (bump x r l).length = l.length := by
  unfold bump; split
  · split <;> simp
  · rfl
theorem cnt_ok (x : Bool) (rows : List (List Value)) : (cnt x rows).length = 256 ∧ ∀ y ∈ cnt x rows, 0 ≤ y ∧ y ≤ rows.length := by
  suffices h : ∀ rows : List (List Value), ∀ l : List Int, ∀ n : Nat, l.length = 256 → (∀ y ∈ l, 0 ≤ y ∧ y ≤ n) →
      (rows.foldl (fun l r => bump x r l) l).length = 256 ∧ ∀ y ∈ rows.foldl (fun l r => bump x r l) l, 0 ≤ y ∧ y ≤ ((n + rows.length : Nat) : Int) by
    have := h rows Z256 0 (by simp [Z256]) (fun y hy => by rw [(List.mem_replicate.1 hy).2]; omega)
    simpa [cnt] using this
  intro rows
  induction rows with
  | nil => intro l n h1 h2; exact ⟨h1, by simpa using h2⟩
  | cons r rows ih =>
    intro l n h1 h2
    have h3 : ∀ y ∈ bump x r l, 0 ≤ y ∧ y ≤ ((n + 1 : Nat) : Int) := by
      have h4 : ∀ y ∈ l, 0 ≤ y ∧ y ≤ ((n + 1 : Nat) : Int) := fun y hy => by have := h2 y hy; omega
      unfold bump; split
      · split
        · intro y hy
          rcases List.mem_or_eq_of_mem_set hy with hy | hy
          · exact h4 y hy
          · rename_i s _ _ _ hs
            have : l.getD s.toNat 0 ∈ l := by
              rw [List.getD_eq_getElem?_getD, List.getElem?_eq_getElem (by omega)]; exact List.getElem_mem _
            have := h2 _ this
            omega
        · exact h4
      · exact h4
    have := ih (bump x r l) (n + 1) (by rw [bump_len, h1]) h3
    simp only [List.foldl_cons, List.length_cons]
    rw [show n + (rows.length + 1) = n + 1 + rows.length by omega]
    exact this
theorem bump_at (x a : Bool) (s : Nat) (e b : Value) (l : List Int) (hs : s < 256) : bump x [.bool a, .int .i64 s, e, b] l = if a = x then l.set s (l.getD s 0 + 1) else l := by
  unfold bump
  simp only [Int.toNat_natCast]
  by_cases h : a = x
  · rw [if_pos ⟨h, by omega, by omega⟩, if_pos h]
  · rw [if_neg (fun h' => h h'.1), if_neg h]
theorem bump_out (x a : Bool) (s : Int) (e b : Value) (l : List Int) (hs : s < 0 ∨ 256 ≤ s) : bump x [.bool a, .int .i64 s, e, b] l = l := by
  unfold bump
  simp only
  rw [if_neg (by omega)]

/-- an own row of 256 numbers -/
def R256 (w : World) (B g : Nat) (l : List Int) : Prop := w.ownsRow B 3 1 (.slice (some ⟨g, 0, none⟩) 256 256) 256 (iv l)
theorem R256.at_ {w : World} {B g : Nat} {l : List Int} (h : R256 w B g l) (k : Nat) (hk : k < 256) : w.cell? ⟨g, k, none⟩ = some (.int .i64 (l.getD k 0)) := by
  have hl : l.length = 256 := by have := h.1; rw [iv_len] at this; omega
  rw [World.ownsRow.cellAt h k (by omega), ivs_get (by omega)]
theorem R256.set {w : World} {B g : Nat} {l : List Int} (h : R256 w B g l) (k : Nat) (x : Int) : R256 (w.setCell ⟨g, k, none⟩ (.int .i64 x)) B g (l.set k x) := by
  have h1 := (World.ownsRow.stored h k (.int .i64 x)).1
  rwa [show (iv l).set k (.int .i64 x) = iv (l.set k x) by simp [iv]] at h1
theorem R256.other {w : World} {B g g' k : Nat} {l : List Int} (h : R256 w B g l) (hne : g ≠ g') (x : Value) : R256 (w.setCell ⟨g', k, none⟩ x) B g l :=
  ownsRow_setCell_other h (a := ⟨g', k, none⟩) (fun e => hne (Option.some.inj e)) x
theorem R256.lt {w : World} {B g : Nat} {l : List Int} (h : R256 w B g l) : B ≤ g ∧ g < w.heap.size := World.ownsRow.lt h g rfl
theorem R256.keep {S : Nat → Prop} {w w' : World} {B g : Nat} {l : List Int} (h : R256 w B g l) (hf : Fr S w w') (hs : ¬ S g) : R256 w' B g l :=
  hf.own h (fun k hk => by
    have e : g = k := Option.some.inj hk
    rw [← e]; exact hs)

theorem own256 (w : World) : R256 (w.alloc (.cells (iv Z256).toArray 3)) w.heap.size w.heap.size Z256 := own_ints w Z256 (by simp [Z256])
theorem R256.base {w : World} {B B' g : Nat} {l : List Int} (h : R256 w B g l) (hB : B' ≤ g) : R256 w B' g l :=
  own_baseN h (fun k hk => by
    have e : g = k := Option.some.inj hk
    omega)
theorem R256.below {w w' : World} {B g : Nat} {l : List Int} (h : R256 w B g l) (hb : Below w.heap.size w w') : R256 w' B g l := own_keep h hb

theorem two256 (w : World) : R256 ((w.alloc (.cells (iv Z256).toArray 3)).alloc (.cells (iv Z256).toArray 3)).drew w.heap.size w.heap.size Z256 ∧
    R256 ((w.alloc (.cells (iv Z256).toArray 3)).alloc (.cells (iv Z256).toArray 3)).drew w.heap.size (w.heap.size + 1) Z256 ∧
    Below w.heap.size w ((w.alloc (.cells (iv Z256).toArray 3)).alloc (.cells (iv Z256).toArray 3)).drew := by
  have h1 := own256 w
  have h2 := own256 (w.alloc (.cells (iv Z256).toArray 3))
  have hs : (w.alloc (.cells (iv Z256).toArray 3)).heap.size = w.heap.size + 1 := by simp
  rw [hs] at h2
  refine ⟨h1.below ((Below.refl _ _).alloc (Nat.le_refl _) _).drew, (h2.base (B' := w.heap.size) (by omega)).below (Below.refl _ _).drew, (((Below.refl _ _).alloc (Nat.le_refl _) _).alloc (by simp) _).drew⟩

set_option maxHeartbeats 2000000 in
theorem count_any (A : Option Addr) (n c : Nat) (rows : List (List Value)) (w : World) (hn : rows.length = n) (hrows : ∀ r ∈ rows, r.length = 4 ∧ P4 r) (hR : Rd w w.heap.size A rows.flatten) (hm : n ≤ 100000) :
    Calls Try.prog 24 #[.slice A n c] w fun e w' => ∃ gd ga, e = .returned (.tuple #[.slice (some ⟨gd, 0, none⟩) 256 256, .slice (some ⟨ga, 0, none⟩) 256 256]) ∧
      R256 w' w.heap.size gd (cnt false rows) ∧ R256 w' w.heap.size ga (cnt true rows) ∧ Below w.heap.size w w' := by
  have HN := Lib.hid hn
  have HRW := Lib.hid hrows
  clear hn hrows
  have hmk : ∀ W : World, (Instr.makeSlice 24 (.int .i64 256) (.int .i64 256)).run Try.prog W = .ok (.slice (some ⟨W.heap.size, 0, none⟩) 256 256) (W.alloc (.cells (iv Z256).toArray 3)) := fun W => make_ints 256 (by omega) W
  go_enter Try.func24, Try.ntmps24
  go_upto_region 1 with fail
  go_cut [4, 5] from 8 to 9 (fun vd va wx => ∃ gd ga, vd = .slice (some ⟨gd, 0, none⟩) 256 256 ∧ va = .slice (some ⟨ga, 0, none⟩) 256 256 ∧ gd ≠ ga ∧ R256 wx w.heap.size gd Z256 ∧ R256 wx w.heap.size ga Z256 ∧ Below w.heap.size w wx)
  case first =>
    have hz := two256 w
    have HZ := Lib.hid hz
    clear hz
    go_region
    all_goals go_wp2_with fail
    all_goals go_meet
    all_goals first
      | exact ⟨_, _, rfl, rfl, by omega, HZ.out.1, HZ.out.2.1, HZ.out.2.2⟩
      | exact ⟨_, _, rfl, rfl, by omega, HZ.out.2.1, HZ.out.1, HZ.out.2.2⟩
  case rest =>
    obtain ⟨gd, ga, rfl, rfl, hne, hrd, hra, hbc⟩ := hcut
    clear hmk
    go_wp2
    go_loopw [12] (fun i wr => ∃ k : Nat, k ≤ n ∧ i = .int .i64 k ∧ R256 wr w.heap.size gd (cnt false (rows.take k)) ∧ R256 wr w.heap.size ga (cnt true (rows.take k)) ∧ Below w.heap.size w wr) (fun i _ => n - (intOf i).toNat)
    case atStart => exact ⟨0, Nat.zero_le _, rfl, hrd, hra, hbc⟩
    case round =>
      obtain ⟨k, hk, rfl, hd, ha, hb⟩ := hrel
      clear hrd hra hbc
      by_cases hlt : k < n
      · obtain ⟨r, hr⟩ : ∃ r, rows[k]? = some r := ⟨rows[k]'(by rw [HN.out]; exact hlt), List.getElem?_eq_getElem _⟩
        obtain ⟨hr4, a, s, e, b, rfl, hs, he, hbb⟩ := HRW.out r (List.mem_of_getElem? hr)
        have htk : rows.take (k + 1) = rows.take k ++ [[.bool a, .int .i64 s, .int .i64 e, .int .i64 b]] := by rw [List.take_add_one, hr]; rfl
        have hfl := flatten_get rows (fun r hr => (HRW.out r hr).1) k
        have f0 := hfl 0 _ _ hr rfl
        have f1 := hfl 1 _ _ hr rfl
        have f2 := hfl 2 _ _ hr rfl
        have f3 := hfl 3 _ _ hr rfl
        obtain ⟨bk, off, rfl, hbl, hcell⟩ := (hR.below hb).at_ (k := k * 4 + 0) (List.getElem?_eq_some_iff.1 f0).1
        have c0 := hcell _ _ f0
        have c1 := hcell _ _ f1
        have c2 := hcell _ _ f2
        have c3 := hcell _ _ f3
        have HTK := Lib.hid htk
        clear hcell f0 f1 f2 f3 hfl hr hr4 htk
        simp only [Nat.add_zero] at c0
        rw [← Nat.add_assoc] at c1 c2 c3
        have hsz := hb.size
        have hd' : R256 (wr.alloc (.cells #[.bool a, .int .i64 s, .int .i64 e, .int .i64 b] 27)) w.heap.size gd (cnt false (rows.take k)) := hd.below ((Below.refl _ _).alloc (Nat.le_refl _) _)
        have ha' : R256 (wr.alloc (.cells #[.bool a, .int .i64 s, .int .i64 e, .int .i64 b] 27)) w.heap.size ga (cnt true (rows.take k)) := ha.below ((Below.refl _ _).alloc (Nat.le_refl _) _)
        have hb' : Below w.heap.size w (wr.alloc (.cells #[.bool a, .int .i64 s, .int .i64 e, .int .i64 b] 27)) := hb.alloc hsz _
        by_cases hout : s < 0 ∨ 256 ≤ s
        · rcases hout with h0 | h0
          all_goals
            have h1 : cnt false (rows.take (k + 1)) = cnt false (rows.take k) := by rw [HTK.out, cnt_snoc, bump_out _ _ _ _ _ _ (by omega)]
            have h2 : cnt true (rows.take (k + 1)) = cnt true (rows.take k) := by rw [HTK.out, cnt_snoc, bump_out _ _ _ _ _ _ (by omega)]
            have H1 := Lib.hid h1
            have H2 := Lib.hid h2
            clear h1 h2
            go_wp2
            go_roundw
            case rel => exact ⟨k + 1, by omega, by go_num, by rw [H1.out]; exact hd', by rw [H2.out]; exact ha', hb'⟩
            case measure => simp [intOf]; omega
        · obtain ⟨S, rfl⟩ := Int.eq_ofNat_of_zero_le (show 0 ≤ s by omega)
          have hS : S < 256 := by omega
          have hnd : w.heap.size ≤ gd := hd'.lt.1
          have hna : w.heap.size ≤ ga := ha'.lt.1
          cases a
          · obtain ⟨ol, obd⟩ := cnt_ok false (rows.take k)
            have hx := obd ((cnt false (rows.take k)).getD S 0) (by rw [List.getD_eq_getElem?_getD, List.getElem?_eq_getElem (by omega)]; exact List.getElem_mem _)
            have hxl : (rows.take k).length ≤ 100000 := by rw [List.length_take]; omega
            have hcx := hd'.at_ S hS
            have hfx := World.ownsRow.frozenAt hd' S
            have h1 : cnt false (rows.take (k + 1)) = (cnt false (rows.take k)).set S ((cnt false (rows.take k)).getD S 0 + 1) := by rw [HTK.out, cnt_snoc, bump_at _ _ _ _ _ _ hS, if_pos rfl]
            have h2 : cnt true (rows.take (k + 1)) = cnt true (rows.take k) := by rw [HTK.out, cnt_snoc, bump_at _ _ _ _ _ _ hS, if_neg (by decide)]
            have H1 := Lib.hid h1
            have H2 := Lib.hid h2
            have HD := Lib.hid (hd'.set S ((cnt false (rows.take k)).getD S 0 + 1))
            have HA := Lib.hid (ha'.other (k := S) (Ne.symm hne) (.int .i64 ((cnt false (rows.take k)).getD S 0 + 1)))
            clear h1 h2 ol obd hd ha hd' ha'
            generalize (cnt false (rows.take k)).getD S 0 = x at *
            go_wp2
            go_roundw
            case rel => exact ⟨k + 1, by omega, by go_num, by rw [H1.out]; exact HD.out, by rw [H2.out]; exact HA.out, hb'.setCell hnd _⟩
            case measure => simp [intOf]; omega
          · obtain ⟨ol, obd⟩ := cnt_ok true (rows.take k)
            have hx := obd ((cnt true (rows.take k)).getD S 0) (by rw [List.getD_eq_getElem?_getD, List.getElem?_eq_getElem (by omega)]; exact List.getElem_mem _)
            have hxl : (rows.take k).length ≤ 100000 := by rw [List.length_take]; omega
            have hcx := ha'.at_ S hS
            have hfx := World.ownsRow.frozenAt ha' S
            have h1 : cnt true (rows.take (k + 1)) = (cnt true (rows.take k)).set S ((cnt true (rows.take k)).getD S 0 + 1) := by rw [HTK.out, cnt_snoc, bump_at _ _ _ _ _ _ hS, if_pos rfl]
            have h2 : cnt false (rows.take (k + 1)) = cnt false (rows.take k) := by rw [HTK.out, cnt_snoc, bump_at _ _ _ _ _ _ hS, if_neg (by decide)]
            have H1 := Lib.hid h1
            have H2 := Lib.hid h2
            have HD := Lib.hid (ha'.set S ((cnt true (rows.take k)).getD S 0 + 1))
            have HA := Lib.hid (hd'.other (k := S) hne (.int .i64 ((cnt true (rows.take k)).getD S 0 + 1)))
            clear h1 h2 ol obd hd ha hd' ha'
            generalize (cnt true (rows.take k)).getD S 0 = x at *
            go_wp2
            go_roundw
            case rel => exact ⟨k + 1, by omega, by go_num, by rw [H2.out]; exact HA.out, by rw [H1.out]; exact HD.out, hb'.setCell hna _⟩
            case measure => simp [intOf]; omega
      · go_wp2
        go_ret2
        obtain rfl : k = n := by omega
        rw [List.take_of_length_le (by rw [HN.out]; omega)] at hd ha
        exact ⟨gd, ga, rfl, hd, ha, hb⟩
end Go.Proofs.Ytlhappecjjbopaa
