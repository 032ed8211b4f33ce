/-
  canon's book: Read, by a contract. Conditions: at most 2^36 bytes.
  The document's Read, by a contract. Conditions: at most 600 codes.
  What a book reads is what the document's codes read: reads, by a contract. Conditions: at most 1000 bytes.
  canon's Book.Write, by a contract. Conditions: fewer than 2^38 bits.
-/
import Derived.Test.YtlhappecjjbopaaCaQ
import Derived.Test.YtlhappecjjbopaaBiG
namespace Go.Proofs.Ytlhappecjjbopaa
open Go.RowKit
set_option linter.unusedVariables false
set_option maxRecDepth 100000

/-- a book that was whole when the heap had B blocks; what lies below has not turned since -/
def BkS (w : World) (B p : Nat) (ls : List Int) (O : List Nat) (C : List Int) : Prop := ∃ w0, Bk w0 p ls O C ∧ w0.heap.size = B ∧ Below B w0 w
section
variable {w w' : World} {B p : Nat} {ls : List Int} {O : List Nat} {C : List Int}
theorem BkS.get (h : BkS w B p ls O C) : Bk w p ls O C := by
  obtain ⟨w0, h0, rfl, hb⟩ := h
  exact h0.below hb
theorem BkS.keep (h : BkS w B p ls O C) (hb : Below B w w') : BkS w' B p ls O C := by
  obtain ⟨w0, h0, hB, h2⟩ := h
  exact ⟨w0, h0, hB, h2.trans hb⟩
theorem BkS.of (h : Bk w p ls O C) : BkS w w.heap.size p ls O C := ⟨w, h, rfl, Below.refl _ _⟩
theorem BkS.size (h : BkS w B p ls O C) : B ≤ w.heap.size := by
  obtain ⟨w0, _, rfl, hb⟩ := h
  exact hb.size
theorem BkS.plt (h : BkS w B p ls O C) : p < B := by
  obtain ⟨w0, h0, rfl, _⟩ := h
  exact h0.plt
end
/-- an error by its number; 0: none -/
def errE (n : Int) : Value := if n = 0 then .nilIface else errV n
theorem part_one (h : Bool) (b : Int) : part h 1 [b] = b := by cases h <;> simp [part, hv, lv]
theorem nxt_one (h : Bool) (B : List Int) (m k : Nat) (hk : m + k < 8 * B.length) : nxt h B (m + k) 1 = [((bitsOf h B).drop m).getD k 0] := by
  have hl : k < ((bitsOf h B).drop m).length := by rw [List.length_drop, bitsOf_len]; omega
  have h1 := drop_get ((bitsOf h B).drop m) k hl
  rw [List.drop_drop] at h1
  unfold nxt
  rw [h1]; rfl

def ReadP (ls : List Int) (O : List Nat) (rp : Nat) (h : Bool) (A : Option Addr) (c : Nat) (Bs : List Int) (m : Nat) (w : World) (e : Ending) (w' : World) : Prop :=
  ∃ sym n err, RdS (sy O) (sz ls O) ((bitsOf h Bs).drop m) sym n err ∧ e = .returned (.tuple #[.int .i64 sym, errE err]) ∧ Re w' rp h A c Bs (m + n) ∧ Fp rp w w'

def Inv (Z : List Int) (ls : List Int) (O : List Nat) (rp : Nat) (h : Bool) (A : Option Addr) (c : Nat) (Bs : List Int) (m : Nat) (w : World) (o q i : Value) (wr : World) : Prop :=
  ∃ n : Nat, 1 ≤ n ∧ n ≤ 17 ∧ i = .int .i64 n ∧ Re wr rp h A c Bs (m + (n - 1)) ∧ Fp rp w wr ∧
    ((n ≤ 16 ∧ Cont Z ((bitsOf h Bs).drop m) (n - 1) ∧ o = .int .i64 (hv (((bitsOf h Bs).drop m).take (n - 1))) ∧ q = .int .i64 ((gt_ ls O (n - 1)).length : Nat)) ∨
     (2 ≤ n ∧ q = .int .i64 0 ∧ RdS (sy O) Z ((bitsOf h Bs).drop m) 0 (n - 1) 2))

set_option maxHeartbeats 4000000 in
theorem read_any {ls : List Int} {O : List Nat} {C : List Int} {w : World} {B p rp : Nat} {h : Bool} {A : Option Addr} {c m : Nat} {Bs : List Int} (hK : BkS w B p ls O C) (ho : Ordd ls O C) (hBr : B ≤ rp) (x : Re w rp h A c Bs m) (hm : Bs.length ≤ 68719476736) :
    Calls Try.prog 63 #[.pointer (some ⟨p, 0, none⟩), .pointer (some ⟨rp, 0, none⟩)] w (ReadP ls O rp h A c Bs m w) := by
  by_cases hO : O = []
  · subst hO
    refine (read_none _ p ls C w hK.get).mono ?_
    rintro e w' ⟨rfl, hb⟩
    exact ⟨0, 0, 2, .inl ⟨rfl, rfl, rfl, rfl⟩, rfl, x.below hb, Fp.of_below hb⟩
  obtain ⟨L, hL⟩ : ∃ L, O.length = L + 1 := ⟨O.length - 1, by have := List.length_pos_iff.2 hO; omega⟩
  obtain ⟨s, hs⟩ : ∃ s, O[L]? = some s := ⟨O[L]'(by omega), List.getElem?_eq_getElem _⟩
  have hsm := ho.mem s (List.mem_of_getElem? hs)
  obtain ⟨l, hl⟩ := Int.eq_ofNat_of_zero_le (show 0 ≤ ls.getD s 0 by omega)
  have hZ : sz ls O ≠ [] := fun e => hO (by have := congrArg List.length e; rw [sz_len] at this; exact List.eq_nil_of_length_eq_zero this)
  obtain ⟨b, hb⟩ : ∃ b, b = (bitsOf h Bs).drop m := ⟨_, rfl⟩
  have hb01 : B01 b := by rw [hb]; exact (bitsOf_01 h Bs).drop m
  have hbl : b.length = 8 * Bs.length - m := by rw [hb, List.length_drop, bitsOf_len]
  have hle := x.le
  obtain ⟨A0, c0, y0, _⟩ := hK.get.ord
  have HHL := Lib.hid hL
  have HS := Lib.hid hs
  have HL := Lib.hid hl
  have HB := Lib.hid hb
  have HBL := Lib.hid hbl
  have HO := Lib.hid ho
  have hl16 : 1 ≤ l ∧ l ≤ 16 := by omega
  have hO512 := ho.len
  have hL512 : L ≤ 512 := by omega
  have HZ := Lib.hid hZ
  have hsl := hsm.1
  clear hO hL hs hl hb hbl hsm ho hZ
  go_enter Try.func63, Try.ntmps63
  go_upto_region 3 with fail
  go_quiet (fail)
  go_wp2
  go_loopw [6, 7, 8] (Inv (sz ls O) ls O rp h A c Bs m w) (fun _ _ i _ => 20 - (intOf i).toNat)
  case atStart => exact ⟨1, by omega, by omega, rfl, ⟨x.blk, x.rd, x.ne, x.bs, x.le⟩, (Fp.refl rp w).drewN _, .inl ⟨by omega, Cont.zero _ _, rfl, by rw [open_zero (fun s hs => (HO.out.mem s hs).2.1)]⟩⟩
  case round =>
    obtain ⟨n, hn1, hn17, rfl, hx, hf, ⟨hn16, hC, rfl, rfl⟩ | ⟨hn2, rfl, hR⟩⟩ := hrel
    · obtain ⟨k, hk⟩ : ∃ k, n = k + 1 := ⟨n - 1, by omega⟩
      have hk1 : n - 1 = k := by omega
      rw [hk1] at hx hC
      rw [hk1]
      rw [← HB.out] at hC
      rw [← HB.out]
      have hgl : 0 < (gt_ ls O k).length ∧ k + 1 ≤ l := by
        rcases Nat.eq_zero_or_pos k with h0 | h0
        · subst h0
          rw [open_zero (fun s hs => (HO.out.mem s hs).2.1), HHL.out]; omega
        · obtain ⟨_, _, i, hi⟩ := hC k h0 (Nat.le_refl _)
          have h1 := HO.out.gt_pos hi
          have h2 := HO.out.last HHL.out HS.out hi
          have h3 : (b.take k).length = k := by
            rw [List.length_take]
            have := (hC k h0 (Nat.le_refl _)).1
            omega
          rw [h3] at h1 h2
          rw [HL.out] at h2
          exact ⟨h1, by omega⟩
      obtain ⟨hgp, hnl⟩ := hgl
      have hgm : (gt_ ls O k).length ≤ O.length := List.length_filter_le _ _
      have HC := Lib.hid hC
      have HK1 := Lib.hid hk1
      have HK0 := Lib.hid hk
      have hkn : k < n := by omega
      have hnk : n ≤ k + 1 := by omega
      clear hC hk1 hk
      have hcd := hv_take16 hb01 (k := k) (by omega)
      by_cases hend : k < b.length
      · obtain ⟨y, hy⟩ : ∃ y, y = b.getD k 0 := ⟨_, rfl⟩
        have hy01 : y = 0 ∨ y = 1 := by rw [hy]; exact getD_01 hb01 k
        have HY := Lib.hid hy
        have hor : bits BinOp.or IntKind.i64 (hv (b.take k) * 2) y = 2 * hv (b.take k) + y := by rw [← or_next hcd hy01, Int.mul_comm]
        have hnext := hv_next hend
        rw [← hy] at hnext
        have HN := Lib.hid hnext
        clear hnext hy
        have hncb : 0 ≤ 2 * hv (b.take k) + y ∧ 2 * hv (b.take k) + y ≤ 200000 := by omega
        generalize hv (b.take k) = cd at *
        generalize hnc : 2 * cd + y = nc at *
        have HNC := Lib.hid hnc
        have hgs := open_step ls k O
        have hkk := HK0.out
        rw [← hkk] at hgs
        generalize hgg : (gt_ ls O k).length = g at *
        have HG := Lib.hid hgg
        have HGS := Lib.hid hgs
        have hlm : (pj ls O n).length ≤ g ∧ g ≤ 512 := by omega
        clear hgg hnc hgs hkk
        have hbt : (b.take n).length = n := by rw [List.length_take]; omega
        have hrow := fun (x : Int) (hx : ∀ s, (pj ls O n)[0]? = some s → x = C.getD s 0) => row_hit HO.out.srt HO.out.zs (n := n) (by omega) (hb01.take n) hbt (HO.out.first hx)
        rw [show hv (b.take n) = nc by rw [HK0.out, HN.out]] at hrow
        have HROW := Lib.hid hrow
        have HBT := Lib.hid hbt
        clear hrow hbt
        go_wp2_with fail
        refine (take_any hx hm 1 (by omega) (by rw [HBL.out] at hend; omega)).mono ?_; rintro e w1 ⟨rfl, hx1, hf1⟩
        rw [nxt_one _ _ _ _ (by rw [HBL.out] at hend; omega), part_one, ← HB.out, ← HY.out]
        have hK1 := hK.keep ((hf.trans hf1).below hBr hK.size)
        obtain ⟨x0, A1, c1, r0, r1, hRr, hx0⟩ := hK1.get.row n (by omega)
        have hro := HROW.out x0 hx0
        obtain ⟨at_, hat⟩ : ∃ a, wrap64 (nc - x0) = a := ⟨_, rfl⟩
        have hatv : 0 < (pj ls O n).length → at_ = nc - x0 := fun hlt => by
          obtain ⟨s0, hs0⟩ : ∃ s0, (pj ls O n)[0]? = some s0 := ⟨(pj ls O n)[0]'hlt, List.getElem?_eq_getElem _⟩
          have h1 := hx0 s0 hs0
          have h2 := HO.out.bd s0
          rw [← hat]
          exact IntWalk.wrap64_in _ ⟨by omega, by omega⟩
        have HX0 := Lib.hid hx0
        have HAT := Lib.hid hatv
        have HRO := Lib.hid hro
        clear hx0 hatv hro
        have hba : Below w1.heap.size w1 (w1.alloc (.cells #[.int .i64 x0, .slice A1 (pj ls O n).length c1] 155)) := (Below.refl _ _).alloc (Nat.le_refl _) _
        have hx2 := hx1.below hba
        have hf2 := (hf.trans hf1).trans (Fp.of_below hba)
        have hK2 := hK1.keep (hba.mono hK1.size)
        have hx3 : Re (w1.alloc (.cells #[.int .i64 x0, .slice A1 (pj ls O n).length c1] 155)) rp h A c Bs (m + (n + 1 - 1)) := by
          rw [show m + (n + 1 - 1) = m + k + 1 by omega]; exact hx2
        clear hx2 hba
        have hpl := Lib.hid (rfl : (pj ls O n).length = (pj ls O n).length)
        by_cases hhit : 0 ≤ at_ ∧ at_ < (pj ls O n).length
        · have d1 : decide (0 ≤ at_) = true := decide_eq_true hhit.1
          have d2 : decide (at_ < ((pj ls O n).length : Int)) = true := decide_eq_true hhit.2
          obtain ⟨t, rfl⟩ := Int.eq_ofNat_of_zero_le hhit.1
          have htl : t < (pj ls O n).length := by omega
          obtain ⟨st, hst⟩ : ∃ st, (pj ls O n)[t]? = some st := ⟨(pj ls O n)[t]'htl, List.getElem?_eq_getElem _⟩
          obtain ⟨b1, o1, rfl, hb1, hc1⟩ := hRr.at_ (k := t) (by rw [nv_len]; exact htl)
          have hcs := hc1 t _ (nv_get hst)
          have HST := Lib.hid hst
          clear hhit hst hc1
          go_wp2
          go_ret2
          have h1 := HRO.out.1 t st (by have := HAT.out (by omega); omega) HST.out
          exact ⟨(st : Int), n, 0, by rw [← HB.out]; exact .inr ⟨HZ.out, k, HC.out, .inr ⟨hend, .inl ⟨_, by rw [← HK0.out]; exact h1.1, (sy_at h1.2).symm, HK0.out, rfl⟩⟩⟩, rfl, hx3, hf2⟩
        · have hno : (decide (0 ≤ at_) = false) ∨ (decide (0 ≤ at_) = true ∧ decide (at_ < ((pj ls O n).length : Int)) = false) := by
            by_cases h0 : 0 ≤ at_
            · exact .inr ⟨decide_eq_true h0, decide_eq_false (fun h1 => hhit ⟨h0, h1⟩)⟩
            · exact .inl (decide_eq_false h0)
          have hnh : ∀ i, ¬ Hit (sz ls O) i (b.take n) := fun i hi => by
            obtain ⟨t, h1, h2⟩ := HRO.out.2 i hi
            have := HAT.out (by omega)
            exact hhit (by omega)
          have HNH := Lib.hid hnh
          clear hnh hhit
          have hbe := fun hnl : n ≤ l => HO.out.beyond HHL.out HS.out HL.out (hb01.take n) (by rw [HBT.out]; exact hnl) (by have := HC.out.no (show ∀ i, ¬ Hit (sz ls O) i (b.take (k + 1)) by rw [← HK0.out]; exact HNH.out); rw [← HK0.out] at this; exact this)
          rw [HBT.out, show hv (b.take n) = nc by rw [HK0.out, HN.out]] at hbe
          have HBE := Lib.hid (hbe (by omega))
          clear hbe
          by_cases h16 : n < 16
          · rcases hno with d1 | ⟨d1, d2⟩
            all_goals
              go_wp2_with fail
              refine (beyond_any p ls O C L s l n (C.getD s 0) nc _ hK2.get HS.out HHL.out (by omega) hsl HL.out HO.out.cln rfl (by omega) (by omega) (HO.out.bd s)).mono ?_; rintro e w2 ⟨rfl, j, j2, rfl⟩
              have hbe := HBE.out
              by_cases hby : C.getD s 0 / 2 ^ (l - n) < nc
              · have hnp := hbe.1 hby
                have HNP := Lib.hid hnp
                rw [decide_eq_true hby]
                clear hbe hnp hby
                go_wp2
                go_ret2
                exact ⟨0, n, 2, by rw [← HB.out]; exact .inr ⟨HZ.out, k, HC.out, .inr ⟨hend, .inr ⟨by rw [← HK0.out]; exact HNH.out, fun i hi => HNP.out ⟨i, by rw [HK0.out]; exact hi⟩, rfl, HK0.out, rfl⟩⟩⟩, rfl, hx3.drewN _, hf2.drewN _⟩
              · have hnp : ∃ i, Pre (sz ls O) i (b.take n) := Classical.byContradiction (fun h1 => hby (hbe.2 h1))
                have HNP := Lib.hid hnp
                rw [decide_eq_false hby]
                clear hbe hnp hby
                go_wp2
                go_roundw
                case rel =>
                  refine ⟨n + 1, by omega, by omega, by go_num, hx3.drewN _, hf2.drewN _, .inl ⟨by omega, ?_, ?_, ?_⟩⟩
                  · rw [← HB.out, show n + 1 - 1 = k + 1 by omega]
                    exact HC.out.succ hend (by rw [← HK0.out]; exact HNH.out) (by rw [← HK0.out]; exact HNP.out)
                  · rw [← HB.out, show n + 1 - 1 = n by omega, HK0.out, HN.out]
                  · rw [show n + 1 - 1 = n by omega, HGS.out]; go_num
                case measure => simp [intOf]; omega
          · rcases hno with d1 | ⟨d1, d2⟩
            all_goals
              go_wp2
              go_roundw
              case rel =>
                have hn16' : n = 16 := by omega
                refine ⟨n + 1, by omega, by omega, by go_num, hx3, hf2, .inr ⟨by omega, ?_, ?_⟩⟩
                · have h1 := HGS.out
                  have h2 := congrArg List.length HO.out.gt16
                  rw [hn16'] at h1
                  rw [h2, List.length_nil] at h1
                  rw [h1, hn16']
                  congr 1; omega
                · rw [← HB.out, show n + 1 - 1 = n by omega]
                  exact .inr ⟨HZ.out, k, HC.out, .inr ⟨hend, .inr ⟨by rw [← HK0.out]; exact HNH.out, fun i => HO.out.none16 (by rw [List.length_take]; omega), rfl, HK0.out, rfl⟩⟩⟩
              case measure => simp [intOf]; omega
      · clear hcd
        go_wp2_with fail
        refine (take_end hx hm 1 (by omega) (by rw [HBL.out] at hend; omega)).mono ?_; rintro e w1 ⟨rfl, hb1⟩
        unfold errV
        go_wp2
        go_ret2
        have hke : k = b.length := by
          rcases Nat.eq_zero_or_pos k with h0 | h0
          · omega
          · have := (HC.out k h0 (Nat.le_refl _)).1; omega
        exact ⟨0, k, 8, by rw [← HB.out]; exact .inr ⟨HZ.out, k, HC.out, .inl ⟨hke, rfl, rfl, rfl⟩⟩, rfl, hx.below hb1, hf.trans (Fp.of_below hb1)⟩
    · have HR := Lib.hid hR
      clear hR
      go_wp2
      go_ret2
      exact ⟨0, _, 2, HR.out, rfl, hx, hf⟩
end Go.Proofs.Ytlhappecjjbopaa
namespace Go.Proofs.Ytlhappecjjbopaa
open Go.RowKit
set_option linter.unusedVariables false
set_option maxRecDepth 100000

/-- codes that were whole when the heap had K blocks -/
def Cs (w : World) (K : Nat) (A : Option Addr) (syms Z : List Int) : Prop := ∃ w0 rows, Rd w0 w0.heap.size A rows.flatten ∧ Cl w0 0 none rows (codesOf syms Z) ∧ w0.heap.size = K ∧ Below K w0 w
section
variable {w w' : World} {K : Nat} {A : Option Addr} {syms Z : List Int}
theorem Cs.keep (h : Cs w K A syms Z) (hb : Below K w w') : Cs w' K A syms Z := by
  obtain ⟨w0, rows, h1, h2, h3, h4⟩ := h
  exact ⟨w0, rows, h1, h2, h3, h4.trans hb⟩
theorem Cs.size (h : Cs w K A syms Z) : K ≤ w.heap.size := by
  obtain ⟨w0, rows, h1, h2, rfl, h4⟩ := h
  exact h4.size
theorem Cs.get (h : Cs w K A syms Z) : ∃ rows, Rd w w.heap.size A rows.flatten ∧ Cl w 0 none rows (codesOf syms Z) := by
  obtain ⟨w0, rows, h1, h2, rfl, h4⟩ := h
  exact ⟨rows, (h1.below h4).more h4.size, h2.below h4⟩
theorem Cs.of {B : Nat} {X : Option Nat} {rows : List (List Value)} (h : Rd w w.heap.size A rows.flatten) (hc : Cl w B X rows (codesOf syms Z)) : Cs w w.heap.size A syms Z :=
  ⟨w, rows, h, (hc.base (Nat.zero_le _)).x (fun b hb => by cases hb), rfl, Below.refl _ _⟩
end
theorem Cl.cells {w : World} {B : Nat} {X : Option Nat} {rows : List (List Value)} {codes : List (Int × List Int)} (h : Cl w B X rows codes) {A : Option Addr} (hR : Rd w w.heap.size A rows.flatten) {i : Nat} {s : Int} {bits : List Int} (hc : codes[i]? = some (s, bits)) :
    ∃ b off a c, A = some ⟨b, off, none⟩ ∧ w.cell? ⟨b, off + i * 2, none⟩ = some (.int .i64 s) ∧ w.cell? ⟨b, off + i * 2 + 1, none⟩ = some (.slice (some a) bits.length c) ∧ Rd w w.heap.size (some a) (iv bits) := by
  obtain ⟨a, c, h1, h2, _⟩ := h.at_ i s bits hc
  have f0 := flatten_get rows h.two i 0 _ (.int .i64 s) h1 rfl
  have f1 := flatten_get rows h.two i 1 _ (.slice (some a) bits.length c) h1 rfl
  obtain ⟨b, off, hA, _, hc⟩ := hR.at_ (List.getElem?_eq_some_iff.1 f0).1
  exact ⟨b, off, a, c, hA, hc _ _ f0, by rw [Nat.add_assoc]; exact hc _ _ f1, h2⟩

def RefP (syms Z l : List Int) (w : World) (e : Ending) (w' : World) : Prop := ∃ sym n err, RdS syms Z l sym n err ∧ e = .returned (.tuple #[.int .i64 sym, .int .i64 (n : Nat), .int .i64 err]) ∧ Below w.heap.size w w'

theorem take_eq_snoc {a b : List Int} {q : Nat} (ha : q < a.length) (hb : q < b.length) : a.take (q + 1) = b.take (q + 1) ↔ a.take q = b.take q ∧ a.getD q 0 = b.getD q 0 := by
  rw [take_get a q ha, take_get b q hb]
  constructor
  · intro h
    have := List.append_inj h (by simp; omega)
    exact ⟨this.1, by simpa using this.2⟩
  · rintro ⟨h1, h2⟩; rw [h1, h2]

set_option maxHeartbeats 4000000 in
theorem refread_any (A A2 : Option Addr) (n c n2 c2 K : Nat) (syms Z l : List Int) (w : World) (hn : Z.length = n) (hn2 : l.length = n2) (hS : Cs w K A syms Z) (hR2 : Rd w w.heap.size A2 (iv l)) (hz : Zs Z) (hl : B01 l) (hm : n ≤ 100000) (hm2 : n2 ≤ 1099511627776) :
    Calls Try.prog 108 #[.slice A n c, .slice A2 n2 c2] w (RefP syms Z l w) := by
  have HN := Lib.hid hn
  have HN2 := Lib.hid hn2
  have HZ := Lib.hid hz
  by_cases h0 : n = 0
  · subst h0
    have hz0 : Z = [] := List.eq_nil_of_length_eq_zero hn
    have HZ0 := Lib.hid hz0
    clear hn hn2 hz hz0
    go_enter Try.func108, Try.ntmps108
    go_wp2
    exact bodyPost_ret (v := .tuple #[.int .i64 0, .int .i64 0, .int .i64 2]) (by simp [results, Try.results108, go_sem]) rfl ⟨0, 0, 2, .inl ⟨HZ0.out, rfl, rfl, rfl⟩, rfl, Below.refl _ _⟩
  have hzne : Z ≠ [] := fun e => h0 (by rw [← hn, e]; rfl)
  have HZN := Lib.hid hzne
  have hd0 : ((n : Int) == 0) = false := by simp; exact h0
  have hn0 : 0 < n := by omega
  clear hn hn2 hz hzne h0
  go_enter Try.func108, Try.ntmps108
  go_wp2
  go_loopw [7] (fun i wr => ∃ m : Nat, 1 ≤ m ∧ m ≤ 17 ∧ i = .int .i64 m ∧ Cont Z l (m - 1) ∧ Below w.heap.size w wr) (fun i _ => 20 - (intOf i).toNat)
  case atStart => exact ⟨1, by omega, by omega, rfl, Cont.zero _ _, Below.refl _ _⟩
  case round =>
    obtain ⟨m, hm1, hm17, rfl, hC, hb⟩ := hrel
    obtain ⟨wo, rfl⟩ : ∃ wo : World, wo = wr := ⟨_, rfl⟩
    have HC := Lib.hid hC
    clear hC
    by_cases h16 : m ≤ 16
    · have hdm : decide ((m : Int) ≤ 16) = true := decide_eq_true (by omega)
      by_cases hend : m ≤ n2
      · have hde : decide (n2 < m) = false := decide_eq_false (by omega)
        go_wp2
        go_loopw [8, 9] (fun g i wr => ∃ (bg : Bool) (j : Nat), j ≤ n ∧ i = .int .i64 j ∧ g = .bool bg ∧ (bg = true ↔ ∃ t, t < j ∧ Pre Z t (l.take m)) ∧ (∀ t, t < j → ¬ Hit Z t (l.take m)) ∧ Below w.heap.size w wr) (fun _ i _ => n - (intOf i).toNat)
        case atStart => exact ⟨false, 0, Nat.zero_le _, rfl, rfl, ⟨fun h => by (cases h), fun ⟨t, h, _⟩ => by omega⟩, fun t h => by omega, hb⟩
        case round =>
          obtain ⟨bg, j, hj, rfl, rfl, hbg, hno, hb⟩ := hrel
          obtain ⟨wi, rfl⟩ : ∃ wi : World, wi = wr := ⟨_, rfl⟩
          have HBG := Lib.hid hbg
          have HNO := Lib.hid hno
          clear hbg hno
          by_cases hlt : j < n
          · obtain ⟨rows, hRr, hCl⟩ := (hS.keep (hb.mono hS.size)).get
            have hjZ : j < Z.length := by rw [HN.out]; exact hlt
            obtain ⟨b1, o1, a1, c1, rfl, k0, k1, hRb⟩ := hCl.cells hRr (codesOf_at syms Z j hjZ)
            have HJZ := Lib.hid hjZ
            have h01 := cb_01 Z j
            have hl16 := len16 HZ.out hjZ
            generalize hbt : cb Z j = bt at *
            generalize hbl : bt.length = bl at *
            have HBT := Lib.hid hbt
            have HBL := Lib.hid hbl
            have hj0 : (0 : Int) ≤ (j : Int) := by omega
            have hj1 : (j : Int) < (n : Int) := by omega
            clear hbt hbl hCl hRr hjZ
            go_wp2
            go_loopw [11, 12] (fun sv i wr => ∃ (sm : Bool) (q : Nat), q ≤ m ∧ q ≤ bl ∧ i = .int .i64 q ∧ sv = .bool sm ∧ (sm = true ↔ bt.take q = l.take q) ∧ Below wi.heap.size wi wr) (fun _ i _ => m - (intOf i).toNat)
            case atStart => exact ⟨true, 0, Nat.zero_le _, Nat.zero_le _, rfl, rfl, ⟨fun _ => rfl, fun _ => rfl⟩, Below.refl _ _⟩
            case round =>
              obtain ⟨sm, q, hq, hqb, rfl, rfl, hsm, hbi⟩ := hrel
              obtain ⟨wj, rfl⟩ : ∃ wj : World, wj = wr := ⟨_, rfl⟩
              have HSM := Lib.hid hsm
              clear hsm
              have hbo := hb.trans (hbi.mono hb.size)
              have k0' := (hbi.cell (p := ⟨b1, o1 + j * 2, none⟩) (World.block_lt_of_cell? wi _ k0)).trans k0
              have k1' := (hbi.cell (p := ⟨b1, o1 + j * 2 + 1, none⟩) (World.block_lt_of_cell? wi _ k1)).trans k1
              by_cases hg : q < m ∧ q < bl
              · obtain ⟨hg1, hg2⟩ := hg
                obtain ⟨bb, ob, hae, _, hcb⟩ := (hRb.below hbi).at_ (k := q) (by rw [iv_len, HBL.out]; exact hg2)
                injection hae with hae
                subst hae
                have e1 := hcb q _ (iv_get (by rw [HBL.out]; exact hg2))
                obtain ⟨bl2, ol2, rfl, _, hcl⟩ := (hR2.below hbo).at_ (k := q) (by rw [iv_len, HN2.out]; omega)
                have e2 := hcl q _ (iv_get (by rw [HN2.out]; omega))
                have hst := take_eq_snoc (a := bt) (b := l) (q := q) (by rw [HBL.out]; exact hg2) (by rw [HN2.out]; omega)
                have HST := Lib.hid hst
                have hq0 : (0 : Int) ≤ (q : Int) := by omega
                have hq1 : (q : Int) < (bl : Int) := by omega
                have hq2 : (q : Int) < (n2 : Int) := by omega
                clear hcb hcl hst
                generalize bt.getD q 0 = u1 at *
                generalize l.getD q 0 = u2 at *
                cases sm
                · go_wp2
                  go_quiet (fail)
                  go_wp2
                  go_roundw
                  case rel => exact ⟨false, q + 1, by omega, by omega, by go_num, rfl, ⟨fun h => by (cases h), fun h => by have := HSM.out.2 (HST.out.1 h).1; (cases this)⟩, below_drewN hbi _⟩
                  case measure => simp [intOf]; omega
                · go_wp2
                  go_quiet (fail)
                  go_wp2
                  go_roundw
                  case rel => exact ⟨u1 == u2, q + 1, by omega, by omega, by go_num, rfl, ⟨fun h => HST.out.2 ⟨HSM.out.1 (by simp), by simpa using h⟩, fun h => by simpa using (HST.out.1 h).2⟩, below_drewN hbi _⟩
                  case measure => simp [intOf]; omega
              · have hpre : Pre Z j (l.take m) ↔ m < bl ∧ sm = true := by
                  have hlm : (l.take m).length = m := by rw [List.length_take, HN2.out]; omega
                  unfold Pre
                  rw [HBT.out, HBL.out, hlm, HSM.out]
                  constructor
                  · rintro ⟨_, h1, h2⟩
                    refine ⟨h1, ?_⟩
                    rw [show q = m by omega]; exact h2
                  · rintro ⟨h1, h2⟩
                    rw [show q = m by omega] at h2
                    exact ⟨HJZ.out, h1, h2⟩
                have hhit : Hit Z j (l.take m) ↔ bl = m ∧ sm = true := by
                  have hlm : (l.take m).length = m := by rw [List.length_take, HN2.out]; omega
                  unfold Hit
                  rw [HBT.out, HSM.out]
                  constructor
                  · rintro ⟨_, h2⟩
                    have h3 := congrArg List.length h2
                    rw [HBL.out, hlm] at h3
                    refine ⟨h3, ?_⟩
                    rw [show q = m by omega]
                    rw [h2, List.take_take, Nat.min_self]
                  · rintro ⟨h1, h2⟩
                    rw [show q = m by omega] at h2
                    refine ⟨HJZ.out, ?_⟩
                    rw [← h2, List.take_of_length_le (by rw [HBL.out]; omega)]
                have HPR := Lib.hid hpre
                have HHI := Lib.hid hhit
                have hnext : sm = false ∨ bl ≠ m → ∀ t, t < j + 1 → ¬ Hit Z t (l.take m) := fun h t ht hi => by
                  rcases Nat.lt_or_ge t j with h1 | h1
                  · exact HNO.out t h1 hi
                  · obtain rfl : t = j := by omega
                    obtain ⟨h2, h3⟩ := HHI.out.1 hi
                    rcases h with h4 | h4
                    · rw [h3] at h4; cases h4
                    · exact h4 h2
                have hbgn : ∀ b2 : Bool, (b2 = true ↔ bg = true ∨ (m < bl ∧ sm = true)) → (b2 = true ↔ ∃ t, t < j + 1 ∧ Pre Z t (l.take m)) := fun b2 h => by
                  rw [h, HBG.out, ← HPR.out]
                  constructor
                  · rintro (⟨t, h1, h2⟩ | h1)
                    · exact ⟨t, by omega, h2⟩
                    · exact ⟨j, by omega, h1⟩
                  · rintro ⟨t, h1, h2⟩
                    rcases Nat.lt_or_ge t j with h3 | h3
                    · exact .inl ⟨t, h3, h2⟩
                    · obtain rfl : t = j := by omega
                      exact .inr h2
                have HNX := Lib.hid hnext
                have HBN := Lib.hid hbgn
                clear hpre hhit hnext hbgn
                have dq : (decide (q < m) = false) ∨ (decide (q < m) = true ∧ decide (q < bl) = false) := by
                  by_cases h1 : q < m
                  · exact .inr ⟨decide_eq_true h1, decide_eq_false (fun h2 => hg ⟨h1, h2⟩)⟩
                  · exact .inl (decide_eq_false h1)
                clear hg
                rcases Nat.lt_trichotomy bl m with ht | ht | ht
                · have d1 : ((bl : Int) == (m : Int)) = false := by simp; omega
                  have d2 : decide (m < bl) = false := decide_eq_false (by omega)
                  rcases dq with d3 | ⟨d3, d4⟩
                  all_goals
                    cases sm
                    all_goals
                      cases bg
                      all_goals
                        go_wp2
                        go_roundw
                        case rel => exact ⟨_, j + 1, by omega, by go_num, rfl, HBN.out _ (by simp; try omega), HNX.out (.inr (by omega)), hbo⟩
                        case measure => simp [intOf]; omega
                · have ht1 : bl ≤ m := by omega
                  have ht2 : m ≤ bl := by omega
                  clear ht
                  have d1 : ((bl : Int) == (m : Int)) = true := by simp; omega
                  have d2 : decide (m < bl) = false := decide_eq_false (by omega)
                  have hqm : ¬ q < m := by
                    rcases dq with h | ⟨_, h⟩
                    · exact of_decide_eq_false h
                    · have := of_decide_eq_false h; omega
                  have d3 : decide (q < m) = false := decide_eq_false hqm
                  clear dq hqm
                  cases sm
                  · cases bg
                    all_goals
                      go_wp2
                      go_roundw
                      case rel => exact ⟨_, j + 1, by omega, by go_num, rfl, HBN.out _ (by simp; try omega), HNX.out (.inl rfl), hbo⟩
                      case measure => simp [intOf]; omega
                  · have hit := HHI.out.2 ⟨by omega, by simp⟩
                    have HIT := Lib.hid hit
                    clear hit
                    go_wp2
                    refine bodyPost_ret (v := .tuple #[.int .i64 (syms.getD j 0), .int .i64 (m : Nat), .int .i64 0]) (by simp [results, Try.results108, go_sem]) rfl ⟨_, m, 0, .inr ⟨HZN.out, m - 1, HC.out, .inr ⟨by rw [HN2.out]; omega, .inl ⟨j, ?_, rfl, by omega, rfl⟩⟩⟩, rfl, hbo⟩
                    rw [show m - 1 + 1 = m by omega]; exact HIT.out
                · have d1 : ((bl : Int) == (m : Int)) = false := by simp; omega
                  have d2 : decide (m < bl) = true := decide_eq_true (by omega)
                  rcases dq with d3 | ⟨d3, d4⟩
                  all_goals
                    cases sm
                    all_goals
                      cases bg
                      all_goals
                        go_wp2
                        go_roundw
                        case rel => exact ⟨_, j + 1, by omega, by go_num, rfl, HBN.out _ (by simp; try omega), HNX.out (.inr (by omega)), hbo⟩
                        case measure => simp [intOf]; omega
          · cases bg
            · go_wp2
              refine bodyPost_ret (v := .tuple #[.int .i64 0, .int .i64 (m : Nat), .int .i64 2]) (by simp [results, Try.results108, go_sem]) rfl ⟨0, m, 2, .inr ⟨HZN.out, m - 1, HC.out, .inr ⟨by rw [HN2.out]; omega, .inr ⟨?_, ?_, rfl, by omega, rfl⟩⟩⟩, rfl, hb⟩
              · intro i hi
                have := hi.1
                rw [HN.out] at this
                rw [show m - 1 + 1 = m by omega] at hi
                exact HNO.out i (by omega) hi
              · intro i hi
                have := hi.1
                rw [HN.out] at this
                rw [show m - 1 + 1 = m by omega] at hi
                have h1 := HBG.out.2 ⟨i, by omega, hi⟩
                cases h1
            · go_wp2
              go_roundw
              case rel =>
                refine ⟨m + 1, by omega, by omega, by go_num, ?_, hb⟩
                rw [show m + 1 - 1 = m - 1 + 1 by omega]
                refine HC.out.succ (by rw [HN2.out]; omega) (fun i hi => ?_) ?_
                · have := hi.1
                  rw [HN.out] at this
                  rw [show m - 1 + 1 = m by omega] at hi
                  exact HNO.out i (by omega) hi
                · obtain ⟨t, _, ht⟩ := HBG.out.1 rfl
                  rw [show m - 1 + 1 = m by omega]
                  exact ⟨t, ht⟩
              case measure => simp [intOf]; omega
      · have hk : m - 1 = l.length := by
          rw [HN2.out]
          rcases Nat.eq_zero_or_pos (m - 1) with h0 | h0
          · omega
          · have := (HC.out (m - 1) h0 (Nat.le_refl _)).1
            rw [HN2.out] at this; omega
        have hk2 : m - 1 = n2 := by rw [hk, HN2.out]
        have HK := Lib.hid hk
        have HK2 := Lib.hid hk2
        clear hk hk2
        go_wp2
        refine bodyPost_ret (v := .tuple #[.int .i64 0, .int .i64 (n2 : Nat), .int .i64 8]) (by simp [results, Try.results108, go_sem]) rfl ⟨0, n2, 8, .inr ⟨HZN.out, m - 1, HC.out, .inl ⟨HK.out, rfl, HK2.out.symm, rfl⟩⟩, rfl, hb⟩
    · exfalso
      obtain ⟨_, _, i, hi⟩ := HC.out (m - 1) (by omega) (Nat.le_refl _)
      have h1 := len16 HZ.out hi.1
      have h2 := hi.2.1
      have h3 := (HC.out (m - 1) (by omega) (Nat.le_refl _)).1
      rw [List.length_take] at h2
      omega
end Go.Proofs.Ytlhappecjjbopaa
namespace Go.Proofs.Ytlhappecjjbopaa
open Go.RowKit
set_option linter.unusedVariables false
set_option maxRecDepth 100000

theorem Rd.drop {w : World} {B : Nat} {A : Option Addr} {xs : List Value} (h : Rd w B A xs) {b o : Nat} (hA : A = some ⟨b, o, none⟩) (k : Nat) : Rd w B (some ⟨b, o + k, none⟩) (xs.drop k) := by
  rcases h with h | ⟨b', o', hA', hb, hc⟩
  · subst h; exact .inl (by simp)
  · rw [hA] at hA'
    injection hA' with h1
    injection h1 with h1 h2
    subst h1 h2
    refine .inr ⟨b, o + k, rfl, hb, fun j u hu => ?_⟩
    rw [List.getElem?_drop] at hu
    have := hc _ _ hu
    rwa [show o + (k + j) = o + k + j by omega] at this
theorem iv_drop (l : List Int) (k : Nat) : iv (l.drop k) = (iv l).drop k := by simp [iv]
theorem num_E (n : Int) (hn : 0 ≤ n ∧ n ≤ 8) (w : World) : Calls Try.prog 87 #[errE n] w fun e w' => e = .returned (.int .i64 n) ∧ w = w' := by
  unfold errE
  split
  · rename_i h; subst h; exact num_nil w
  · exact num_err n (by omega) w
theorem RdS.bd {syms Z l : List Int} {s : Int} {n : Nat} {e : Int} (h : RdS syms Z l s n e) : n ≤ l.length ∧ (0 ≤ e ∧ e ≤ 8) ∧ (e = 0 ∨ e = 2 ∨ e = 8) := by
  rcases h with ⟨h0, h1, h2, h3⟩ | ⟨h0, k, hc, ⟨h1, h2, h3, h4⟩ | ⟨h1, ⟨i, hi, h2, h3, h4⟩ | ⟨_, _, h2, h3, h4⟩⟩⟩
  all_goals (subst_vars; omega)
/-- the list of bits that are left, as a slice -/
structure Lf (w : World) (rp : Nat) (L : List Int) (v : Value) : Prop where
  val : ∃ A c, v = .slice A L.length c ∧ L.length ≤ c ∧ c ≤ 9223372036854775807 ∧ Rd w w.heap.size A (iv L) ∧ ∀ a, A = some a → a.block ≠ rp
theorem Lf.fp {w w' : World} {rp : Nat} {L : List Int} {v : Value} (h : Lf w rp L v) (hf : Fp rp w w') : Lf w' rp L v := by
  obtain ⟨A, c, h1, h2, h3, h4, h5⟩ := h.val
  exact ⟨A, c, h1, h2, h3, (Fr.rd hf h4 (Nat.le_refl _) h5).more (Fr.size hf), h5⟩

theorem add_block (a : Addr) (k : Nat) : (a.add k).block = a.block := by unfold Addr.add; split <;> rfl
theorem Lf.cut {w : World} {rp : Nat} {L : List Int} {A : Option Addr} {c : Nat} (hc : L.length ≤ c) (hm : c ≤ 9223372036854775807) (hR : Rd w w.heap.size A (iv L)) (hne : ∀ a, A = some a → a.block ≠ rp) (k : Nat) (hk : k ≤ L.length) :
    Lf w rp (L.drop k) (.slice (if c = k then A else Option.map (fun x => x.add k) A) (L.length - k) (c - k)) := by
  refine ⟨_, _, by rw [List.length_drop], by rw [List.length_drop]; omega, by omega, ?_, ?_⟩
  · split
    · refine .inl ?_
      rw [List.drop_of_length_le (by omega)]; rfl
    · rcases A with _ | a
      · rcases hR with h | ⟨b, o, hA, _⟩
        · refine .inl ?_
          rw [iv_drop, h, List.drop_nil]
        · cases hA
      · have hR0 := hR
        rcases hR with h | ⟨b, o, hA, _⟩
        · refine .inl ?_
          rw [iv_drop, h, List.drop_nil]
        · injection hA with hA
          subst hA
          rw [iv_drop]
          show Rd _ _ (some ((⟨b, o, none⟩ : Addr).add k)) _
          rw [add_flat]
          exact hR0.drop rfl k
  · intro a ha
    split at ha
    · exact hne a ha
    · rcases A with _ | a0
      · cases ha
      · injection ha with ha
        rw [← ha]
        show (a0.add k).block ≠ rp
        rw [add_block]
        exact hne a0 rfl

def ReadsP (w : World) (e : Ending) (w' : World) : Prop := e = .returned (.bool true) ∧ Below w.heap.size w w'

def InvR (rp : Nat) (h : Bool) (Ar : Option Addr) (cr : Nat) (bs : List Int) (T : Nat) (w2 : World) (lv i : Value) (wr : World) : Prop :=
  ∃ j m : Nat, j ≤ T ∧ i = .int .i64 j ∧ m ≤ 8 * bs.length ∧ Re wr rp h Ar cr bs m ∧ Lf wr rp ((bitsOf h bs).drop m) lv ∧ Fp rp w2 wr
set_option maxHeartbeats 4000000 in
theorem reads_any {ls : List Int} {O : List Nat} {C : List Int} {w : World} {B K p n c n2 c2 : Nat} {A A2 : Option Addr} {h : Bool} {bs : List Int} (times : Int) (hK : BkS w B p ls O C) (ho : Ordd ls O C) (hS : Cs w K A (sy O) (sz ls O)) (hn : O.length = n)
    (hn2 : bs.length = n2) (hR2 : Rd w w.heap.size A2 (bv bs)) (hbs : Bs bs) (hm2 : n2 ≤ 1000) :
    Calls Try.prog 60 #[.pointer (some ⟨p, 0, none⟩), .slice A n c, .slice A2 n2 c2, .bool h, .int .i64 times] w (ReadsP w) := by
  have HN := Lib.hid hn
  have HN2 := Lib.hid hn2
  have HO := Lib.hid ho
  have hO512 := ho.len
  rw [hn] at hO512
  clear hn hn2 ho
  go_enter Try.func60, Try.ntmps60
  go_wp2_with fail
  refine (newReader_any A2 n2 c2 h bs w HN2.out hR2 hbs (by omega)).mono ?_; rintro e w1 ⟨rp, Ar, cr, rfl, hx1, hrp, hAr, hb1⟩
  have hs1 := hb1.size
  have hrl := hx1.lt
  go_wp2_with fail
  refine (rbits_any A2 n2 c2 bs h w1 HN2.out ((hR2.below hb1).more hs1) hbs (by omega)).mono ?_; rintro e w2 ⟨v, rfl, hov, hb2⟩
  have hL0 : Lf w2 rp ((bitsOf h bs).drop 0) v := by
    obtain ⟨Av, cv, hv, hcv, hmv, hRv⟩ := own_sliceN hov
    rw [List.drop_zero]
    refine ⟨Av, cv, by rw [bitsOf_len, HN2.out]; exact hv, by rw [bitsOf_len, HN2.out]; exact hcv, hmv, hRv, fun a ha e => ?_⟩
    have := hov.lt a.block (by rw [hv, ha]; rfl)
    omega
  have hx2 := hx1.below hb2
  have hbw2 := hb1.trans (hb2.mono hs1)
  clear hov hb1 hb2 hR2 hx1
  have hs2 := hbw2.size
  go_wp2
  obtain ⟨T, hT, hT20⟩ : ∃ T : Nat, wrap64 (1 + wrap64 ((IntKind.u64.wrap times).tmod 20)) = (T : Int) ∧ T ≤ 20 := by
    have h1 : 0 ≤ IntKind.u64.wrap times := by simp only [IntKind.wrap, IntKind.signed, IntKind.bits]; exact Int.emod_nonneg _ (by decide)
    rw [Int.tmod_eq_emod_of_nonneg h1]
    have h2 := Int.emod_nonneg (IntKind.u64.wrap times) (show (20 : Int) ≠ 0 by decide)
    have h3 := Int.emod_lt_of_pos (IntKind.u64.wrap times) (show (0 : Int) < 20 by decide)
    generalize IntKind.u64.wrap times % 20 = z at *
    rw [IntWalk.wrap64_in z ⟨by omega, by omega⟩, IntWalk.wrap64_in (1 + z) ⟨by omega, by omega⟩]
    exact ⟨(1 + z).toNat, by omega, by omega⟩
  rw [hT]
  clear hT
  have hbl : (bitsOf h bs).length = 8 * n2 := by rw [bitsOf_len, HN2.out]
  have HBL := Lib.hid hbl
  clear hbl
  go_loopw [12, 29] (InvR rp h Ar cr bs T w2) (fun _ i _ => T - (intOf i).toNat)
  case atStart => exact ⟨0, 0, by omega, rfl, by omega, hx2, hL0, Fp.refl _ _⟩
  case round =>
    obtain ⟨j, m, hj, rfl, hmb, hx, hL, hf⟩ := hrel
    rw [HN2.out] at hmb
    clear hx2 hL0
    by_cases hlt : j < T
    · have hbw := hbw2.trans (hf.below hrp (Nat.le_trans hbw2.size (Nat.le_refl _)))
      have hKr := hK.keep (hbw.mono hK.size)
      go_wp2_with fail
      refine (read_any hKr HO.out (Nat.le_trans hK.size hrp) hx (by rw [HN2.out]; omega)).mono ?_; rintro e w3 ⟨sym, k, err, hR, rfl, hx3, hf3⟩
      have HR := Lib.hid hR
      have hkl := hR.bd
      rw [List.length_drop, HBL.out] at hkl
      clear hR
      obtain ⟨hk1, herr, herr2⟩ := hkl
      have hf3' := hf.trans hf3
      have hL3 := hL.fp hf3
      obtain ⟨A3, c3, rfl, hc3, hm3, hR3, hne3⟩ := hL3.val
      have hbw3 := hbw2.trans (hf3'.below hrp hbw2.size)
      have hl3 : ((bitsOf h bs).drop m).length = 8 * n2 - m := by rw [List.length_drop, HBL.out]
      rw [hl3] at hc3 ⊢
      have HL3 := Lib.hid hl3
      clear hx hL hl3 hL3
      go_wp2_with fail
      refine (refread_any A A3 n c (8 * n2 - m) c3 K (sy O) (sz ls O) ((bitsOf h bs).drop m) w3 (by rw [sz_len]; exact HN.out) HL3.out (hS.keep (hbw3.mono hS.size)) hR3 HO.out.zs ((bitsOf_01 h bs).drop m) (by omega) (by omega)).mono ?_; rintro e w4 ⟨sym', k', err', hR', rfl, hb4⟩
      obtain ⟨rfl, rfl, rfl⟩ := RdS.uniq HO.out.zs ((bitsOf_01 h bs).drop m) HR.out hR'
      clear hR'
      have hx4 := hx3.below hb4
      have hf4 := hf3'.trans (Fp.of_below hb4)
      have hR4 := (hR3.below hb4).more hb4.size
      have hN := fun W => num_E err (by omega) W
      have hLf := fun W (x : Re W rp h Ar cr bs (m + k)) => left_any x (by rw [HN2.out]; omega)
      rw [HN2.out] at hLf
      clear hx3 hR3 hf3 hf3'
      go_wp2_with (first | (go_at_call 87; refine (hN _).mono ?_; rintro e w' ⟨rfl, rfl⟩) | (go_at_call 109; refine (hLf _ hx4).mono ?_; rintro e w5 ⟨rfl, hb5⟩))
      go_roundw
      case rel =>
        have hx5 := hx4.below hb5
        have hcut := Lf.cut (k := k) (by rw [HL3.out]; exact hc3) hm3 ((hR4.below hb5).more hb5.size) hne3 (by rw [HL3.out]; exact hk1)
        rw [HL3.out, List.drop_drop] at hcut
        exact ⟨j + 1, m + k, by omega, by go_num, by rw [HN2.out]; omega, hx5, hcut, hf4.trans (Fp.of_below hb5)⟩
      case measure => simp [intOf]; omega
    · go_wp2
      go_ret
      exact ⟨rfl, hbw2.trans (hf.below hrp hbw2.size)⟩
end Go.Proofs.Ytlhappecjjbopaa
namespace Go.Proofs.Ytlhappecjjbopaa
open Go.RowKit
set_option linter.unusedVariables false
set_option maxRecDepth 100000

theorem digs_one (h : Bool) {z : Int} (hz : z = 0 ∨ z = 1) : digs h z 1 = [z] := by
  rcases hz with rfl | rfl <;> cases h <;> decide
theorem fit_one {z : Int} (hz : z = 0 ∨ z = 1) : Fit z ((1 : Nat) : Int) := by
  rcases hz with rfl | rfl <;> exact ⟨by decide, by decide, by decide⟩
theorem digs_take {c : Int} {l j : Nat} (hj : j < l) : (digs true c l).take (l - j) = (digs true c l).take (l - (j + 1)) ++ [c / 2 ^ j % 2] := by
  have h1 := digs_at true l c (l - (j + 1)) (by omega)
  rw [show l - j = l - (j + 1) + 1 by omega, List.take_add_one, h1]
  have : pk true (l - (j + 1)) l = j := by unfold pk; simp; omega
  rw [this]; rfl

set_option maxHeartbeats 4000000 in
theorem write_any {ls : List Int} {O : List Nat} {C : List Int} {w : World} {B p wp : Nat} {h : Bool} {v : Value} {L : List Int} {s i : Nat} (hK : BkS w B p ls O C) (ho : Ordd ls O C) (hV : Vl ls) (hBw : B ≤ wp) (hvB : ∀ k, v.ownBlock = some k → B ≤ k) (x : Wr w wp h v L) (hi : O[i]? = some s) (hL : L.length < 274877906944) :
    Calls Try.prog 65 #[.pointer (some ⟨p, 0, none⟩), .pointer (some ⟨wp, 0, none⟩), .int .i64 (s : Int)] w fun e w' => e = .returned .nilIface ∧ ∃ v', Wr w' wp h v' (L ++ cb (sz ls O) i) ∧ Turn wp w v w' v' := by
  have hm := ho.mem s (List.mem_of_getElem? hi)
  obtain ⟨l, hl⟩ := Int.eq_ofNat_of_zero_le (show 0 ≤ ls.getD s 0 by omega)
  have hl16 : 1 ≤ l ∧ l ≤ 16 := by omega
  have hh : decide (hasL ls (s : Int)) = true := decide_eq_true ⟨by omega, by have := hm.1; omega, by rw [Int.toNat_natCast]; omega⟩
  have hD : cb (sz ls O) i = digs true (C.getD s 0) l := by
    have h1 := ho.lenZ hi
    have h2 := digs_hv (cb_01 (sz ls O) i)
    rw [← ho.cod i s hi] at h2
    rw [← h2]
    congr 1
    omega
  have hsl := hm.1
  obtain ⟨A0, c0, y0, hR0⟩ := hK.get.len
  obtain ⟨b0, o0, rfl, _, hc0⟩ := hR0.at_ (k := s) (by rw [iv_len]; exact hsl)
  have e0 := hc0 s _ (ivs_get hsl)
  rw [hl] at e0
  have hcl := ho.cln
  have hcb := ho.bd s
  rw [hD]
  have HH := Lib.hid hh
  have HCL := Lib.hid hcl
  have HIV := Lib.hid hV
  have hs0 : (0 : Int) ≤ (s : Int) := by omega
  have hs1 : (s : Int) < (ls.length : Int) := by omega
  clear hh hD hc0 hR0 hcl hm ho hi hl hV
  generalize hcv : C.getD s 0 = cv at *
  have HCV := Lib.hid hcv
  clear hcv
  go_enter Try.func65, Try.ntmps65
  go_wp2_with fail
  refine (has_any p ls O C (s : Int) w hK.get HIV.out).mono ?_; rintro e w1 ⟨rfl, rfl⟩
  rw [HH.out]
  go_wp2
  go_loopw [7] (fun iv wr => ∃ q : Nat, q ≤ l ∧ iv = .int .i64 ((q : Int) - 1) ∧ ∃ v', Wr wr wp h v' (L ++ (digs true cv l).take (l - q)) ∧ Turn wp w1 v wr v') (fun i _ => (intOf i + 1).toNat)
  case atStart => exact ⟨l, Nat.le_refl _, rfl, v, by simpa using x, Turn.refl _ _ _⟩
  case round =>
    obtain ⟨q, hq, rfl, v', hx, hT⟩ := hrel
    rcases Nat.eq_zero_or_pos q with h0 | h0
    · subst h0
      rw [Nat.sub_zero, List.take_of_length_le (by rw [digs_len]; exact Nat.le_refl _)] at hx
      have HX := Lib.hid hx
      clear hx
      simp only [Int.natCast_zero, Int.zero_sub]
      go_wp2
      go_ret
      exact ⟨rfl, v', HX.out, hT⟩
    · obtain ⟨j, rfl⟩ : ∃ j, q = j + 1 := ⟨q - 1, by omega⟩
      rw [show ((j + 1 : Nat) : Int) - 1 = (j : Int) by omega]
      have htk := digs_take (c := cv) (l := l) (j := j) (by omega)
      have hz : bits BinOp.and IntKind.i64 (cv / 2 ^ j) 1 = cv / 2 ^ j % 2 := i64_bit _
      have hz01 : cv / 2 ^ j % 2 = 0 ∨ cv / 2 ^ j % 2 = 1 := by omega
      generalize cv / 2 ^ j % 2 = z at *
      have HTK := Lib.hid htk
      have hll : (L ++ (digs true cv l).take (l - (j + 1))).length ≤ L.length + 16 := by
        rw [List.length_append, List.length_take, digs_len]; omega
      have hbl := hT.below (B := B) hBw hvB hK.size
      obtain ⟨A1, c1, y1, hR1⟩ := (hK.keep hbl).get.cod
      obtain ⟨b1, o1, rfl, _, hc1⟩ := hR1.at_ (k := s) (by rw [iv_len, HCL.out]; exact hsl)
      have e1 := hc1 s _ (ivs_get (by rw [HCL.out]; exact hsl))
      rw [HCV.out] at e1
      have hjl : j < l := by omega
      clear htk hc1 hR1
      generalize (digs true cv l).take (l - (j + 1)) = D0 at *
      go_wp2_with fail
      refine (put_any wp h v' (L ++ D0) z 1 _ hx (fit_one hz01) (by omega) (by omega)).mono ?_; rintro e w2 ⟨rfl, v2, hx2, hT2⟩
      rw [digs_one h hz01] at hx2
      go_wp2
      go_roundw
      case rel => exact ⟨j, by omega, by go_num, v2, by rw [HTK.out, ← List.append_assoc]; exact hx2, hT.trans hT2⟩
      case measure => simp [intOf]
end Go.Proofs.Ytlhappecjjbopaa
