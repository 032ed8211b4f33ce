/-
  bits.Writer: Bytes; slices.Clone of bytes. Conditions: fewer than 2^39 bits.
-/
import Derived.Test.YtlhappecjjbopaaBiD
import Derived.Deep.RegionHeld3
namespace Go.Proofs.Ytlhappecjjbopaa
open Go.RowKit
set_option linter.unusedVariables false
set_option maxRecDepth 100000

set_option maxHeartbeats 400000 in
theorem clone_any (A : Option Addr) (n c : Nat) (l : List Int) (w : World) (hn : l.length = n) (hR : Rd w w.heap.size A (bv l)) (hm : n ≤ 1099511627776) :
    Calls Try.prog 110 #[.slice A n c] w fun e w' => ∃ v, e = .returned v ∧ w'.ownsRow w.heap.size 5 1 v n (bv l) ∧ Below w.heap.size w w' := by
  obtain ⟨i0, hi, hz0, hz1, hz2⟩ := info_parts Try.info_u8
  have HN := Lib.hid hn
  clear hn
  rcases A with _ | ad
  · have h0 : n = 0 := by
      rcases hR with h | ⟨b, off, hA, _⟩
      · have := congrArg List.length h
        rw [bv_len, HN.out] at this; simpa using this
      · cases hA
    obtain rfl : l = [] := List.eq_nil_of_length_eq_zero (by rw [HN.out, h0])
    subst h0
    have hnil := fun W : World => Lib.run_eql_slice_nil (P := Try.prog) W 79 5 none 0 c 0 0 Try.underlying79
    go_enter Try.func110, Try.ntmps110
    go_wp2
    go_ret
    exact ⟨_, rfl, World.ownsRow_nil _ _ _ _, Below.refl _ _⟩
  · have hb0 : Below w.heap.size w (w.alloc (.cells #[] 5)) := (Below.refl _ _).alloc (Nat.le_refl _) _
    have hown0 : (w.alloc (.cells #[] 5)).ownsRow w.heap.size 5 1 (.slice (some ⟨w.heap.size, 0, none⟩) 0 0) 0 [] :=
      World.ownsRow_made w #[] 0 (Nat.le_refl _) (by unfold maxLen; omega) (by simp)
    have hR0 := hR.below hb0
    have hnil := fun W : World => Lib.run_eql_slice_nil (P := Try.prog) W 79 5 (some ad) n c 0 0 Try.underlying79
    go_enter Try.func110, Try.ntmps110
    go_wp2_with (at_builtin; refine wpList_app2 _ rfl (.tmp 5) (.tmp 6) 79 rfl Try.underlying79 hi hz0 hz1 hz2 rfl hown0 rfl rfl hR0 (by rw [bv_len, HN.out]) (one_bv l) (by omega) (by omega) hb0.size ?_; intro v1 w1 hown1 hg1; have hb1 : Below w.heap.size w w1 := below_app2 hb0 hown0 hg1 (Nat.le_refl _) hb0.size; simp only [Nat.zero_add, List.nil_append] at hown1)
    go_ret
    exact ⟨_, rfl, hown1, hb1⟩

theorem Bl3.drew {w : World} {p : Nat} {a b c : Value} {t : TypeId} (h : Bl3 w p t a b c) : Bl3 w.drew p t a b c := h
theorem Bl3.below {w w' : World} {p B : Nat} {a b c : Value} {t : TypeId} (h : Bl3 w p t a b c) (hb : Below B w w') (hp : p < B) : Bl3 w' p t a b c := (hb.block p hp).trans h

theorem Wr.rd {w : World} {p : Nat} {h : Bool} {v : Value} {L : List Int} (x : Wr w p h v L) : ∃ A c, v = .slice A (nby L.length) c ∧ Rd w w.heap.size A (bv (pack h L)) := own_slice x.own

set_option maxHeartbeats 8000000 in
theorem bytes_any (p : Nat) (h : Bool) (v : Value) (L : List Int) (w : World) (x : Wr w p h v L) (hL : L.length < 549755813888) :
    Calls Try.prog 67 #[.pointer (some ⟨p, 0, none⟩)] w fun e w' => ∃ v', e = .returned v' ∧ w'.ownsRow w.heap.size 5 1 v' (nby L.length) (bv (pack h (full h L))) ∧ Below w.heap.size w w' := by
  obtain ⟨A, cv, rfl, hR⟩ := x.rd
  have X := x.blk
  have hB := x.b01
  have c0 := X.c0
  have c1 := X.c1
  have c2 := X.c2
  have hlt := X.lt
  have hpl := pack_len h L
  have HPL := Lib.hid hpl
  clear hpl
  have hnb : nby L.length ≤ 1099511627776 := by unfold nby; omega
  generalize hNB : nby L.length = nb at *
  have HNB := Lib.hid hNB
  clear hNB
  obtain ⟨m, hm⟩ : ∃ m, m = L.length := ⟨_, rfl⟩
  rw [← hm] at c2 hL X
  have HM := Lib.hid hm
  clear hm x
  go_enter Try.func67, Try.ntmps67
  go_upto_region 3 with fail
  go_cut [3] from 3 to 22 (fun vp wx => ∃ p2 v2, vp = .pointer (some ⟨p2, 0, none⟩) ∧ Bl3 wx p2 165 (.bool h) v2 (.int .i64 m) ∧ wx.ownsRow w.heap.size 5 1 v2 nb (bv (pack h L)) ∧ v2.ownBlock ≠ some p2 ∧ w.heap.size ≤ p2 ∧ Below w.heap.size w wx)
  case first =>
    have Xa := X.alloc (.cells #[.bool false, .slice none 0 0, .int .i64 0] 165)
    have hba : Below w.heap.size w (w.alloc (.cells #[.bool false, .slice none 0 0, .int .i64 0] 165)) := (Below.refl _ _).alloc (Nat.le_refl _) _
    have hRa := (hR.below hba).more hba.size
    have e0 := World.new_ne w ⟨p, 0, none⟩ c0
    have e1 := World.new_ne w ⟨p, 1, none⟩ c1
    have e2 := World.new_ne w ⟨p, 2, none⟩ c2
    have hRd : Rd w.drew w.drew.heap.size A (bv (pack h L)) := hR
    have hRad : Rd (w.alloc (.cells #[.bool false, .slice none 0 0, .int .i64 0] 165)).drew (w.alloc (.cells #[.bool false, .slice none 0 0, .int .i64 0] 165)).drew.heap.size A (bv (pack h L)) := hRa
    clear hRa
    have Na := Bl3.new w 165 (.bool false) (.slice none 0 0) (.int .i64 0)
    go_region_held3 (fun w' => w'.cell? ⟨p, 0, none⟩ = some (.bool h) ∧ w'.cell? ⟨p, 1, none⟩ = some (.slice A nb cv) ∧ w'.cell? ⟨p, 2, none⟩ = some (.int .i64 m))
      (first
        | exact ⟨Xa.c0, Xa.c1, Xa.c2⟩
        | go_keep
        | exact ⟨by assumption, by assumption, by assumption⟩
        | exact ⟨Bl3.c0 (Bl3.alloc (by assumption) _), Bl3.c1 (Bl3.alloc (by assumption) _), Bl3.c2 (Bl3.alloc (by assumption) _)⟩)
      (first
        | (go_at_call 110; (with_reducible refine (clone_any A nb cv (pack h L) w.drew HPL.out hRd hnb).mono ?_); rintro e w1 ⟨v1, rfl, ho1, hb1⟩; obtain ⟨A1, c1', rfl, hR1⟩ := own_slice ho1; have Xw := X.drew.below hb1 X.drew.lt; have y0 := Xw.c0; have y1 := Xw.c1; have y2 := Xw.c2)
        | (go_at_call 110; (with_reducible refine (clone_any A nb cv (pack h L) (w.alloc (.cells #[.bool false, .slice none 0 0, .int .i64 0] 165)).drew HPL.out hRad hnb).mono ?_); rintro e w1 ⟨v1, rfl, ho1, hb1⟩; obtain ⟨A1, c1', rfl, hR1⟩ := own_slice ho1; have Xw := Xa.drew.below hb1 Xa.drew.lt; have y0 := Xw.c0; have y1 := Xw.c1; have y2 := Xw.c2; have Nw := Na.drew.below hb1 Na.drew.lt; have n0 := Nw.c0; have n1 := Nw.c1; have n2 := Nw.c2; have g0 := Nw.f 0 (by omega); have g1 := Nw.f 1 (by omega); have g2 := Nw.f 2 (by omega)))
    all_goals go_wp2_with fail
    all_goals go_meet
    · have hbw : Below w.heap.size w w1 := ⟨hb1.os, hb1.tape, hb1.output, hb1.size, hb1.block⟩
      exact ⟨w1.heap.size, _, rfl, Bl3.new _ _ _ _ _, ho1.alloc _, fun e => by have := (ho1.lt _ e).2; omega, hbw.size, hbw.alloc hbw.size _⟩
    · have hsz : (w.alloc (.cells #[.bool false, .slice none 0 0, .int .i64 0] 165)).drew.heap.size = w.heap.size + 1 := by simp [World.drew]
      rw [hsz] at hb1 ho1
      have hbw : Below w.heap.size w w1 := ⟨hb1.os, hb1.tape, hb1.output, by have := hb1.size; omega, fun k hk => (hb1.block k (by omega)).trans (Below.heap_alloc w _ k hk)⟩
      have hq : ∀ k, (Value.slice A1 nb c1').ownBlock = some k → w.heap.size + 1 ≤ k := fun k hk => (ho1.lt k hk).1
      have hn : (Value.slice A1 nb c1').ownBlock ≠ some w.heap.size := fun e => by have := hq _ e; omega
      refine ⟨w.heap.size, _, rfl, ((Nw.set0 _).set1 _).set2 _, own_base (ownsRow_setCell_other (ownsRow_setCell_other (ownsRow_setCell_other ho1 (a := ⟨w.heap.size, 0, none⟩) hn _) (a := ⟨w.heap.size, 1, none⟩) hn _) (a := ⟨w.heap.size, 2, none⟩) hn _) (fun k hk => by have := hq k hk; omega), hn, Nat.le_refl _, ((hbw.setCell (Nat.le_refl _) _).setCell (Nat.le_refl _) _).setCell (Nat.le_refl _) _⟩
  case rest =>
    obtain ⟨p2, v2, rfl, X2, ho2, hne2, hp2, hb2⟩ := hcut
    have hv2 := fun k hk => (ho2.lt k hk).1
    have hW : Wr wc p2 h v2 L := ⟨by rw [← HM.out]; exact X2, by rw [HNB.out]; exact own_base ho2 (fun k hk => Nat.zero_le _), hne2, hB⟩
    have hL' : L.length < 549755813888 := by rw [← HM.out]; exact hL
    have HW := Lib.hid hW
    have HL := Lib.hid hL'
    clear hW hL' X2 ho2 hne2 c0 c1 c2 X
    go_wp2_with (go_at_call 114; refine (align_any p2 h v2 L wc HW.out HL.out).mono ?_; rintro e w3 ⟨rfl, v3, hW3, hT3⟩; have y1 := hW3.blk.c1)
    go_ret
    have hnf : nby (full h L).length = nb := by rw [full_len, ← HNB.out]; unfold nby; omega
    have ho3 := hW3.own
    rw [hnf] at ho3
    have hb3 := hb2.size
    refine ⟨v3, rfl, own_base ho3 (fun k hk => ?_), hb2.trans (hT3.below hp2 hv2 hb3)⟩
    rcases hT3.row k hk with h1 | h1
    · exact hv2 k h1
    · omega
end Go.Proofs.Ytlhappecjjbopaa
