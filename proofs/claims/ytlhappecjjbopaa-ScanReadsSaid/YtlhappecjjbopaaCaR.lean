/-
  canon's book: Read, by a contract. Conditions: at most 2^36 bytes.
-/
import Derived.Test.YtlhappecjjbopaaCaQ
import Derived.Test.YtlhappecjjbopaaBiG
namespace Go.Proofs.Ytlhappecjjbopaa
open Go.RowKit
set_option linter.unusedVariables false
set_option maxRecDepth 100000

/-- a book that was whole when the heap had B blocks; what lies below has not turned since -/
def BkS (w : World) (B p : Nat) (ls : List Int) (O : List Nat) (C : List Int) : Prop := ∃ w0, Bk w0 p ls O C ∧ w0.heap.size = B ∧ Below B w0 w
section
variable {w w' : World} {B p : Nat} {ls : List Int} {O : List Nat} {C : List Int}
theorem BkS.get (h : BkS w B p ls O C) : Bk w p ls O C := by
  obtain ⟨w0, h0, rfl, hb⟩ := h
  exact h0.below hb
theorem BkS.keep (h : BkS w B p ls O C) (hb : Below B w w') : BkS w' B p ls O C := by
  obtain ⟨w0, h0, hB, h2⟩ := h
  exact ⟨w0, h0, hB, h2.trans hb⟩
theorem BkS.of (h : Bk w p ls O C) : BkS w w.heap.size p ls O C := ⟨w, h, rfl, Below.refl _ _⟩
theorem BkS.size (h : BkS w B p ls O C) : B ≤ w.heap.size := by
  obtain ⟨w0, _, rfl, hb⟩ := h
  exact hb.size
theorem BkS.plt (h : BkS w B p ls O C) : p < B := by
  obtain ⟨w0, h0, rfl, _⟩ := h
  exact h0.plt
end
/-- an error by its number; 0: none -/
def errE (n : Int) : Value := if n = 0 then .nilIface else errV n
theorem part_one (h : Bool) (b : Int) : part h 1 [b] = b := by cases h <;> simp [part, hv, lv]
theorem nxt_one (h : Bool) (B : List Int) (m k : Nat) (hk : m + k < 8 * B.length) : nxt h B (m + k) 1 = [((bitsOf h B).drop m).getD k 0] := by
  have hl : k < ((bitsOf h B).drop m).length := by rw [List.length_drop, bitsOf_len]; omega
  have h1 := drop_get ((bitsOf h B).drop m) k hl
  rw [List.drop_drop] at h1
  unfold nxt
  rw [h1]; rfl

def ReadP (ls : List Int) (O : List Nat) (rp : Nat) (h : Bool) (A : Option Addr) (c : Nat) (Bs : List Int) (m : Nat) (w : World) (e : Ending) (w' : World) : Prop :=
  ∃ sym n err, RdS (sy O) (sz ls O) ((bitsOf h Bs).drop m) sym n err ∧ e = .returned (.tuple #[.int .i64 sym, errE err]) ∧ Re w' rp h A c Bs (m + n) ∧ Fp rp w w'

def Inv (Z : List Int) (ls : List Int) (O : List Nat) (rp : Nat) (h : Bool) (A : Option Addr) (c : Nat) (Bs : List Int) (m : Nat) (w : World) (o q i : Value) (wr : World) : Prop :=
  ∃ n : Nat, 1 ≤ n ∧ n ≤ 17 ∧ i = .int .i64 n ∧ Re wr rp h A c Bs (m + (n - 1)) ∧ Fp rp w wr ∧
    ((n ≤ 16 ∧ Cont Z ((bitsOf h Bs).drop m) (n - 1) ∧ o = .int .i64 (hv (((bitsOf h Bs).drop m).take (n - 1))) ∧ q = .int .i64 ((gt_ ls O (n - 1)).length : Nat)) ∨
     (2 ≤ n ∧ q = .int .i64 0 ∧ RdS (sy O) Z ((bitsOf h Bs).drop m) 0 (n - 1) 2))

set_option maxHeartbeats 4000000 in
theorem read_any {ls : List Int} {O : List Nat} {C : List Int} {w : World} {B p rp : Nat} {h : Bool} {A : Option Addr} {c m : Nat} {Bs : List Int} (hK : BkS w B p ls O C) (ho : Ordd ls O C) (hBr : B ≤ rp) (x : Re w rp h A c Bs m) (hm : Bs.length ≤ 68719476736) :
    Calls Try.prog 63 #[.pointer (some ⟨p, 0, none⟩), .pointer (some ⟨rp, 0, none⟩)] w (ReadP ls O rp h A c Bs m w) := by
  by_cases hO : O = []
  · subst hO
    refine (read_none _ p ls C w hK.get).mono ?_
    rintro e w' ⟨rfl, hb⟩
    exact ⟨0, 0, 2, .inl ⟨rfl, rfl, rfl, rfl⟩, rfl, x.below hb, Fp.of_below hb⟩
  obtain ⟨L, hL⟩ : ∃ L, O.length = L + 1 := ⟨O.length - 1, by have := List.length_pos_iff.2 hO; omega⟩
  obtain ⟨s, hs⟩ : ∃ s, O[L]? = some s := ⟨O[L]'(by omega), List.getElem?_eq_getElem _⟩
  have hsm := ho.mem s (List.mem_of_getElem? hs)
  obtain ⟨l, hl⟩ := Int.eq_ofNat_of_zero_le (show 0 ≤ ls.getD s 0 by omega)
  have hZ : sz ls O ≠ [] := fun e => hO (by have := congrArg List.length e; rw [sz_len] at this; exact List.eq_nil_of_length_eq_zero this)
  obtain ⟨b, hb⟩ : ∃ b, b = (bitsOf h Bs).drop m := ⟨_, rfl⟩
  have hb01 : B01 b := by rw [hb]; exact (bitsOf_01 h Bs).drop m
  have hbl : b.length = 8 * Bs.length - m := by rw [hb, List.length_drop, bitsOf_len]
  have hle := x.le
  obtain ⟨A0, c0, y0, _⟩ := hK.get.ord
  have HHL := Lib.hid hL
  have HS := Lib.hid hs
  have HL := Lib.hid hl
  have HB := Lib.hid hb
  have HBL := Lib.hid hbl
  have HO := Lib.hid ho
  have hl16 : 1 ≤ l ∧ l ≤ 16 := by omega
  have hO512 := ho.len
  have hL512 : L ≤ 512 := by omega
  have HZ := Lib.hid hZ
  have hsl := hsm.1
  clear hO hL hs hl hb hbl hsm ho hZ
  go_enter Try.func63, Try.ntmps63
  go_upto_region 3 with fail
  go_quiet (fail)
  go_wp2
  go_loopw [6, 7, 8] (Inv (sz ls O) ls O rp h A c Bs m w) (fun _ _ i _ => 20 - (intOf i).toNat)
  case atStart => exact ⟨1, by omega, by omega, rfl, ⟨x.blk, x.rd, x.ne, x.bs, x.le⟩, (Fp.refl rp w).drewN _, .inl ⟨by omega, Cont.zero _ _, rfl, by rw [open_zero (fun s hs => (HO.out.mem s hs).2.1)]⟩⟩
  case round =>
    obtain ⟨n, hn1, hn17, rfl, hx, hf, ⟨hn16, hC, rfl, rfl⟩ | ⟨hn2, rfl, hR⟩⟩ := hrel
    · obtain ⟨k, hk⟩ : ∃ k, n = k + 1 := ⟨n - 1, by omega⟩
      have hk1 : n - 1 = k := by omega
      rw [hk1] at hx hC
      rw [hk1]
      rw [← HB.out] at hC
      rw [← HB.out]
      have hgl : 0 < (gt_ ls O k).length ∧ k + 1 ≤ l := by
        rcases Nat.eq_zero_or_pos k with h0 | h0
        · subst h0
          rw [open_zero (fun s hs => (HO.out.mem s hs).2.1), HHL.out]; omega
        · obtain ⟨_, _, i, hi⟩ := hC k h0 (Nat.le_refl _)
          have h1 := HO.out.gt_pos hi
          have h2 := HO.out.last HHL.out HS.out hi
          have h3 : (b.take k).length = k := by
            rw [List.length_take]
            have := (hC k h0 (Nat.le_refl _)).1
            omega
          rw [h3] at h1 h2
          rw [HL.out] at h2
          exact ⟨h1, by omega⟩
      obtain ⟨hgp, hnl⟩ := hgl
      have hgm : (gt_ ls O k).length ≤ O.length := List.length_filter_le _ _
      have HC := Lib.hid hC
      have HK1 := Lib.hid hk1
      have HK0 := Lib.hid hk
      have hkn : k < n := by omega
      have hnk : n ≤ k + 1 := by omega
      clear hC hk1 hk
      have hcd := hv_take16 hb01 (k := k) (by omega)
      by_cases hend : k < b.length
      · obtain ⟨y, hy⟩ : ∃ y, y = b.getD k 0 := ⟨_, rfl⟩
        have hy01 : y = 0 ∨ y = 1 := by rw [hy]; exact getD_01 hb01 k
        have HY := Lib.hid hy
        have hor : bits BinOp.or IntKind.i64 (hv (b.take k) * 2) y = 2 * hv (b.take k) + y := by rw [← or_next hcd hy01, Int.mul_comm]
        have hnext := hv_next hend
        rw [← hy] at hnext
        have HN := Lib.hid hnext
        clear hnext hy
        have hncb : 0 ≤ 2 * hv (b.take k) + y ∧ 2 * hv (b.take k) + y ≤ 200000 := by omega
        generalize hv (b.take k) = cd at *
        generalize hnc : 2 * cd + y = nc at *
        have HNC := Lib.hid hnc
        have hgs := open_step ls k O
        have hkk := HK0.out
        rw [← hkk] at hgs
        generalize hgg : (gt_ ls O k).length = g at *
        have HG := Lib.hid hgg
        have HGS := Lib.hid hgs
        have hlm : (pj ls O n).length ≤ g ∧ g ≤ 512 := by omega
        clear hgg hnc hgs hkk
        have hbt : (b.take n).length = n := by rw [List.length_take]; omega
        have hrow := fun (x : Int) (hx : ∀ s, (pj ls O n)[0]? = some s → x = C.getD s 0) => row_hit HO.out.srt HO.out.zs (n := n) (by omega) (hb01.take n) hbt (HO.out.first hx)
        rw [show hv (b.take n) = nc by rw [HK0.out, HN.out]] at hrow
        have HROW := Lib.hid hrow
        have HBT := Lib.hid hbt
        clear hrow hbt
        go_wp2_with fail
        refine (take_any hx hm 1 (by omega) (by rw [HBL.out] at hend; omega)).mono ?_; rintro e w1 ⟨rfl, hx1, hf1⟩
        rw [nxt_one _ _ _ _ (by rw [HBL.out] at hend; omega), part_one, ← HB.out, ← HY.out]
        have hK1 := hK.keep ((hf.trans hf1).below hBr hK.size)
        obtain ⟨x0, A1, c1, r0, r1, hRr, hx0⟩ := hK1.get.row n (by omega)
        have hro := HROW.out x0 hx0
        obtain ⟨at_, hat⟩ : ∃ a, wrap64 (nc - x0) = a := ⟨_, rfl⟩
        have hatv : 0 < (pj ls O n).length → at_ = nc - x0 := fun hlt => by
          obtain ⟨s0, hs0⟩ : ∃ s0, (pj ls O n)[0]? = some s0 := ⟨(pj ls O n)[0]'hlt, List.getElem?_eq_getElem _⟩
          have h1 := hx0 s0 hs0
          have h2 := HO.out.bd s0
          rw [← hat]
          exact IntWalk.wrap64_in _ ⟨by omega, by omega⟩
        have HX0 := Lib.hid hx0
        have HAT := Lib.hid hatv
        have HRO := Lib.hid hro
        clear hx0 hatv hro
        have hba : Below w1.heap.size w1 (w1.alloc (.cells #[.int .i64 x0, .slice A1 (pj ls O n).length c1] 155)) := (Below.refl _ _).alloc (Nat.le_refl _) _
        have hx2 := hx1.below hba
        have hf2 := (hf.trans hf1).trans (Fp.of_below hba)
        have hK2 := hK1.keep (hba.mono hK1.size)
        have hx3 : Re (w1.alloc (.cells #[.int .i64 x0, .slice A1 (pj ls O n).length c1] 155)) rp h A c Bs (m + (n + 1 - 1)) := by
          rw [show m + (n + 1 - 1) = m + k + 1 by omega]; exact hx2
        clear hx2 hba
        have hpl := Lib.hid (rfl : (pj ls O n).length = (pj ls O n).length)
        by_cases hhit : 0 ≤ at_ ∧ at_ < (pj ls O n).length
        · have d1 : decide (0 ≤ at_) = true := decide_eq_true hhit.1
          have d2 : decide (at_ < ((pj ls O n).length : Int)) = true := decide_eq_true hhit.2
          obtain ⟨t, rfl⟩ := Int.eq_ofNat_of_zero_le hhit.1
          have htl : t < (pj ls O n).length := by omega
          obtain ⟨st, hst⟩ : ∃ st, (pj ls O n)[t]? = some st := ⟨(pj ls O n)[t]'htl, List.getElem?_eq_getElem _⟩
          obtain ⟨b1, o1, rfl, hb1, hc1⟩ := hRr.at_ (k := t) (by rw [nv_len]; exact htl)
          have hcs := hc1 t _ (nv_get hst)
          have HST := Lib.hid hst
          clear hhit hst hc1
          go_wp2
          go_ret2
          have h1 := HRO.out.1 t st (by have := HAT.out (by omega); omega) HST.out
          exact ⟨(st : Int), n, 0, by rw [← HB.out]; exact .inr ⟨HZ.out, k, HC.out, .inr ⟨hend, .inl ⟨_, by rw [← HK0.out]; exact h1.1, (sy_at h1.2).symm, HK0.out, rfl⟩⟩⟩, rfl, hx3, hf2⟩
        · have hno : (decide (0 ≤ at_) = false) ∨ (decide (0 ≤ at_) = true ∧ decide (at_ < ((pj ls O n).length : Int)) = false) := by
            by_cases h0 : 0 ≤ at_
            · exact .inr ⟨decide_eq_true h0, decide_eq_false (fun h1 => hhit ⟨h0, h1⟩)⟩
            · exact .inl (decide_eq_false h0)
          have hnh : ∀ i, ¬ Hit (sz ls O) i (b.take n) := fun i hi => by
            obtain ⟨t, h1, h2⟩ := HRO.out.2 i hi
            have := HAT.out (by omega)
            exact hhit (by omega)
          have HNH := Lib.hid hnh
          clear hnh hhit
          have hbe := fun hnl : n ≤ l => HO.out.beyond HHL.out HS.out HL.out (hb01.take n) (by rw [HBT.out]; exact hnl) (by have := HC.out.no (show ∀ i, ¬ Hit (sz ls O) i (b.take (k + 1)) by rw [← HK0.out]; exact HNH.out); rw [← HK0.out] at this; exact this)
          rw [HBT.out, show hv (b.take n) = nc by rw [HK0.out, HN.out]] at hbe
          have HBE := Lib.hid (hbe (by omega))
          clear hbe
          by_cases h16 : n < 16
          · rcases hno with d1 | ⟨d1, d2⟩
            all_goals
              go_wp2_with fail
              refine (beyond_any p ls O C L s l n (C.getD s 0) nc _ hK2.get HS.out HHL.out (by omega) hsl HL.out HO.out.cln rfl (by omega) (by omega) (HO.out.bd s)).mono ?_; rintro e w2 ⟨rfl, j, j2, rfl⟩
              have hbe := HBE.out
              by_cases hby : C.getD s 0 / 2 ^ (l - n) < nc
              · have hnp := hbe.1 hby
                have HNP := Lib.hid hnp
                rw [decide_eq_true hby]
                clear hbe hnp hby
                go_wp2
                go_ret2
                exact ⟨0, n, 2, by rw [← HB.out]; exact .inr ⟨HZ.out, k, HC.out, .inr ⟨hend, .inr ⟨by rw [← HK0.out]; exact HNH.out, fun i hi => HNP.out ⟨i, by rw [HK0.out]; exact hi⟩, rfl, HK0.out, rfl⟩⟩⟩, rfl, hx3.drewN _, hf2.drewN _⟩
              · have hnp : ∃ i, Pre (sz ls O) i (b.take n) := Classical.byContradiction (fun h1 => hby (hbe.2 h1))
                have HNP := Lib.hid hnp
                rw [decide_eq_false hby]
                clear hbe hnp hby
                go_wp2
                go_roundw
                case rel =>
                  refine ⟨n + 1, by omega, by omega, by go_num, hx3.drewN _, hf2.drewN _, .inl ⟨by omega, ?_, ?_, ?_⟩⟩
                  · rw [← HB.out, show n + 1 - 1 = k + 1 by omega]
                    exact HC.out.succ hend (by rw [← HK0.out]; exact HNH.out) (by rw [← HK0.out]; exact HNP.out)
                  · rw [← HB.out, show n + 1 - 1 = n by omega, HK0.out, HN.out]
                  · rw [show n + 1 - 1 = n by omega, HGS.out]; go_num
                case measure => simp [intOf]; omega
          · rcases hno with d1 | ⟨d1, d2⟩
            all_goals
              go_wp2
              go_roundw
              case rel =>
                have hn16' : n = 16 := by omega
                refine ⟨n + 1, by omega, by omega, by go_num, hx3, hf2, .inr ⟨by omega, ?_, ?_⟩⟩
                · have h1 := HGS.out
                  have h2 := congrArg List.length HO.out.gt16
                  rw [hn16'] at h1
                  rw [h2, List.length_nil] at h1
                  rw [h1, hn16']
                  congr 1; omega
                · rw [← HB.out, show n + 1 - 1 = n by omega]
                  exact .inr ⟨HZ.out, k, HC.out, .inr ⟨hend, .inr ⟨by rw [← HK0.out]; exact HNH.out, fun i => HO.out.none16 (by rw [List.length_take]; omega), rfl, HK0.out, rfl⟩⟩⟩
              case measure => simp [intOf]; omega
      · clear hcd
        go_wp2_with fail
        refine (take_end hx hm 1 (by omega) (by rw [HBL.out] at hend; omega)).mono ?_; rintro e w1 ⟨rfl, hb1⟩
        unfold errV
        go_wp2
        go_ret2
        have hke : k = b.length := by
          rcases Nat.eq_zero_or_pos k with h0 | h0
          · omega
          · have := (HC.out k h0 (Nat.le_refl _)).1; omega
        exact ⟨0, k, 8, by rw [← HB.out]; exact .inr ⟨HZ.out, k, HC.out, .inl ⟨hke, rfl, rfl, rfl⟩⟩, rfl, hx.below hb1, hf.trans (Fp.of_below hb1)⟩
    · have HR := Lib.hid hR
      clear hR
      go_wp2
      go_ret2
      exact ⟨0, _, 2, HR.out, rfl, hx, hf⟩
end Go.Proofs.Ytlhappecjjbopaa
