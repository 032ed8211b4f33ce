/-
  bits.Writer: Bytes; slices.Clone of bytes. Conditions: fewer than 2^39 bits.
  bits.Reader: NewReader, At, Left, Align, by contracts. Conditions: at most 2^36 bytes.
  bits.Reader: Take, by contracts. Conditions: at most 2^36 bytes.
-/
import Derived.Test.YtlhappecjjbopaaBiD
import Derived.Deep.RegionHeld3
namespace Go.Proofs.Ytlhappecjjbopaa
open Go.RowKit
set_option linter.unusedVariables false
set_option maxRecDepth 100000

set_option maxHeartbeats 400000 in
theorem clone_any (A : Option Addr) (n c : Nat) (l : List Int) (w : World) (hn : l.length = n) (hR : Rd w w.heap.size A (bv l)) (hm : n ≤ 1099511627776) :
    Calls Try.prog 110 #[.slice A n c] w fun e w' => ∃ v, e = .returned v ∧ w'.ownsRow w.heap.size 5 1 v n (bv l) ∧ Below w.heap.size w w' := by
  obtain ⟨i0, hi, hz0, hz1, hz2⟩ := info_parts Try.info_u8
  have HN := Lib.hid hn
  clear hn
  rcases A with _ | ad
  · have h0 : n = 0 := by
      rcases hR with h | ⟨b, off, hA, _⟩
      · have := congrArg List.length h
        rw [bv_len, HN.out] at this; simpa using this
      · cases hA
    obtain rfl : l = [] := List.eq_nil_of_length_eq_zero (by rw [HN.out, h0])
    subst h0
    have hnil := fun W : World => Lib.run_eql_slice_nil (P := Try.prog) W 79 5 none 0 c 0 0 Try.underlying79
    go_enter Try.func110, Try.ntmps110
    go_wp2
    go_ret
    exact ⟨_, rfl, World.ownsRow_nil _ _ _ _, Below.refl _ _⟩
  · have hb0 : Below w.heap.size w (w.alloc (.cells #[] 5)) := (Below.refl _ _).alloc (Nat.le_refl _) _
    have hown0 : (w.alloc (.cells #[] 5)).ownsRow w.heap.size 5 1 (.slice (some ⟨w.heap.size, 0, none⟩) 0 0) 0 [] :=
      World.ownsRow_made w #[] 0 (Nat.le_refl _) (by unfold maxLen; omega) (by simp)
    have hR0 := hR.below hb0
    have hnil := fun W : World => Lib.run_eql_slice_nil (P := Try.prog) W 79 5 (some ad) n c 0 0 Try.underlying79
    go_enter Try.func110, Try.ntmps110
    go_wp2_with (at_builtin; refine wpList_app2 _ rfl (.tmp 5) (.tmp 6) 79 rfl Try.underlying79 hi hz0 hz1 hz2 rfl hown0 rfl rfl hR0 (by rw [bv_len, HN.out]) (one_bv l) (by omega) (by omega) hb0.size ?_; intro v1 w1 hown1 hg1; have hb1 : Below w.heap.size w w1 := below_app2 hb0 hown0 hg1 (Nat.le_refl _) hb0.size; simp only [Nat.zero_add, List.nil_append] at hown1)
    go_ret
    exact ⟨_, rfl, hown1, hb1⟩

theorem Bl3.drew {w : World} {p : Nat} {a b c : Value} {t : TypeId} (h : Bl3 w p t a b c) : Bl3 w.drew p t a b c := h
theorem Bl3.below {w w' : World} {p B : Nat} {a b c : Value} {t : TypeId} (h : Bl3 w p t a b c) (hb : Below B w w') (hp : p < B) : Bl3 w' p t a b c := (hb.block p hp).trans h

theorem Wr.rd {w : World} {p : Nat} {h : Bool} {v : Value} {L : List Int} (x : Wr w p h v L) : ∃ A c, v = .slice A (nby L.length) c ∧ Rd w w.heap.size A (bv (pack h L)) := own_slice x.own

set_option maxHeartbeats 8000000 in
theorem bytes_any (p : Nat) (h : Bool) (v : Value) (L : List Int) (w : World) (x : Wr w p h v L) (hL : L.length < 549755813888) :
    Calls Try.prog 67 #[.pointer (some ⟨p, 0, none⟩)] w fun e w' => ∃ v', e = .returned v' ∧ w'.ownsRow w.heap.size 5 1 v' (nby L.length) (bv (pack h (full h L))) ∧ Below w.heap.size w w' := by
  obtain ⟨A, cv, rfl, hR⟩ := x.rd
  have X := x.blk
  have hB := x.b01
  have c0 := X.c0
  have c1 := X.c1
  have c2 := X.c2
  have hlt := X.lt
  have hpl := pack_len h L
  have HPL := Lib.hid hpl
  clear hpl
  have hnb : nby L.length ≤ 1099511627776 := by unfold nby; omega
  generalize hNB : nby L.length = nb at *
  have HNB := Lib.hid hNB
  clear hNB
  obtain ⟨m, hm⟩ : ∃ m, m = L.length := ⟨_, rfl⟩
  rw [← hm] at c2 hL X
  have HM := Lib.hid hm
  clear hm x
  go_enter Try.func67, Try.ntmps67
  go_upto_region 3 with fail
  go_cut [3] from 3 to 22 (fun vp wx => ∃ p2 v2, vp = .pointer (some ⟨p2, 0, none⟩) ∧ Bl3 wx p2 165 (.bool h) v2 (.int .i64 m) ∧ wx.ownsRow w.heap.size 5 1 v2 nb (bv (pack h L)) ∧ v2.ownBlock ≠ some p2 ∧ w.heap.size ≤ p2 ∧ Below w.heap.size w wx)
  case first =>
    have Xa := X.alloc (.cells #[.bool false, .slice none 0 0, .int .i64 0] 165)
    have hba : Below w.heap.size w (w.alloc (.cells #[.bool false, .slice none 0 0, .int .i64 0] 165)) := (Below.refl _ _).alloc (Nat.le_refl _) _
    have hRa := (hR.below hba).more hba.size
    have e0 := World.new_ne w ⟨p, 0, none⟩ c0
    have e1 := World.new_ne w ⟨p, 1, none⟩ c1
    have e2 := World.new_ne w ⟨p, 2, none⟩ c2
    have hRd : Rd w.drew w.drew.heap.size A (bv (pack h L)) := hR
    have hRad : Rd (w.alloc (.cells #[.bool false, .slice none 0 0, .int .i64 0] 165)).drew (w.alloc (.cells #[.bool false, .slice none 0 0, .int .i64 0] 165)).drew.heap.size A (bv (pack h L)) := hRa
    clear hRa
    have Na := Bl3.new w 165 (.bool false) (.slice none 0 0) (.int .i64 0)
    go_region_held3 (fun w' => w'.cell? ⟨p, 0, none⟩ = some (.bool h) ∧ w'.cell? ⟨p, 1, none⟩ = some (.slice A nb cv) ∧ w'.cell? ⟨p, 2, none⟩ = some (.int .i64 m))
      (first
        | exact ⟨Xa.c0, Xa.c1, Xa.c2⟩
        | go_keep
        | exact ⟨by assumption, by assumption, by assumption⟩
        | exact ⟨Bl3.c0 (Bl3.alloc (by assumption) _), Bl3.c1 (Bl3.alloc (by assumption) _), Bl3.c2 (Bl3.alloc (by assumption) _)⟩)
      (first
        | (go_at_call 110; (with_reducible refine (clone_any A nb cv (pack h L) w.drew HPL.out hRd hnb).mono ?_); rintro e w1 ⟨v1, rfl, ho1, hb1⟩; obtain ⟨A1, c1', rfl, hR1⟩ := own_slice ho1; have Xw := X.drew.below hb1 X.drew.lt; have y0 := Xw.c0; have y1 := Xw.c1; have y2 := Xw.c2)
        | (go_at_call 110; (with_reducible refine (clone_any A nb cv (pack h L) (w.alloc (.cells #[.bool false, .slice none 0 0, .int .i64 0] 165)).drew HPL.out hRad hnb).mono ?_); rintro e w1 ⟨v1, rfl, ho1, hb1⟩; obtain ⟨A1, c1', rfl, hR1⟩ := own_slice ho1; have Xw := Xa.drew.below hb1 Xa.drew.lt; have y0 := Xw.c0; have y1 := Xw.c1; have y2 := Xw.c2; have Nw := Na.drew.below hb1 Na.drew.lt; have n0 := Nw.c0; have n1 := Nw.c1; have n2 := Nw.c2; have g0 := Nw.f 0 (by omega); have g1 := Nw.f 1 (by omega); have g2 := Nw.f 2 (by omega)))
    all_goals go_wp2_with fail
    all_goals go_meet
    · have hbw : Below w.heap.size w w1 := ⟨hb1.os, hb1.tape, hb1.output, hb1.size, hb1.block⟩
      exact ⟨w1.heap.size, _, rfl, Bl3.new _ _ _ _ _, ho1.alloc _, fun e => by have := (ho1.lt _ e).2; omega, hbw.size, hbw.alloc hbw.size _⟩
    · have hsz : (w.alloc (.cells #[.bool false, .slice none 0 0, .int .i64 0] 165)).drew.heap.size = w.heap.size + 1 := by simp [World.drew]
      rw [hsz] at hb1 ho1
      have hbw : Below w.heap.size w w1 := ⟨hb1.os, hb1.tape, hb1.output, by have := hb1.size; omega, fun k hk => (hb1.block k (by omega)).trans (Below.heap_alloc w _ k hk)⟩
      have hq : ∀ k, (Value.slice A1 nb c1').ownBlock = some k → w.heap.size + 1 ≤ k := fun k hk => (ho1.lt k hk).1
      have hn : (Value.slice A1 nb c1').ownBlock ≠ some w.heap.size := fun e => by have := hq _ e; omega
      refine ⟨w.heap.size, _, rfl, ((Nw.set0 _).set1 _).set2 _, own_base (ownsRow_setCell_other (ownsRow_setCell_other (ownsRow_setCell_other ho1 (a := ⟨w.heap.size, 0, none⟩) hn _) (a := ⟨w.heap.size, 1, none⟩) hn _) (a := ⟨w.heap.size, 2, none⟩) hn _) (fun k hk => by have := hq k hk; omega), hn, Nat.le_refl _, ((hbw.setCell (Nat.le_refl _) _).setCell (Nat.le_refl _) _).setCell (Nat.le_refl _) _⟩
  case rest =>
    obtain ⟨p2, v2, rfl, X2, ho2, hne2, hp2, hb2⟩ := hcut
    have hv2 := fun k hk => (ho2.lt k hk).1
    have hW : Wr wc p2 h v2 L := ⟨by rw [← HM.out]; exact X2, by rw [HNB.out]; exact own_base ho2 (fun k hk => Nat.zero_le _), hne2, hB⟩
    have hL' : L.length < 549755813888 := by rw [← HM.out]; exact hL
    have HW := Lib.hid hW
    have HL := Lib.hid hL'
    clear hW hL' X2 ho2 hne2 c0 c1 c2 X
    go_wp2_with (go_at_call 114; refine (align_any p2 h v2 L wc HW.out HL.out).mono ?_; rintro e w3 ⟨rfl, v3, hW3, hT3⟩; have y1 := hW3.blk.c1)
    go_ret
    have hnf : nby (full h L).length = nb := by rw [full_len, ← HNB.out]; unfold nby; omega
    have ho3 := hW3.own
    rw [hnf] at ho3
    have hb3 := hb2.size
    refine ⟨v3, rfl, own_base ho3 (fun k hk => ?_), hb2.trans (hT3.below hp2 hv2 hb3)⟩
    rcases hT3.row k hk with h1 | h1
    · exact hv2 k h1
    · omega
end Go.Proofs.Ytlhappecjjbopaa
namespace Go.Proofs.Ytlhappecjjbopaa
open Go.RowKit
set_option linter.unusedVariables false
set_option maxRecDepth 100000

/-- a reader at block p: its bytes, and how many bits were read -/
structure Re (w : World) (p : Nat) (h : Bool) (A : Option Addr) (c : Nat) (B : List Int) (m : Nat) : Prop where
  blk : Bl3 w p 163 (.bool h) (.slice A B.length c) (.int .i64 (m : Nat))
  rd : Rd w w.heap.size A (bv B)
  ne : ∀ a, A = some a → a.block ≠ p
  bs : Bs B
  le : m ≤ 8 * B.length
theorem Re.keep {w w' : World} {p : Nat} {h : Bool} {A : Option Addr} {c m : Nat} {B : List Int} {S : Nat → Prop} (x : Re w p h A c B m) (hf : Fr S w w') (hp : ¬ S p) (hA : ∀ a, A = some a → ¬ S a.block) : Re w' p h A c B m :=
  ⟨x.blk.keep hf hp, (hf.rd x.rd (Nat.le_refl _) hA).more hf.size, x.ne, x.bs, x.le⟩
theorem Re.below {w w' : World} {p : Nat} {h : Bool} {A : Option Addr} {c m : Nat} {B : List Int} (x : Re w p h A c B m) (hb : Below w.heap.size w w') : Re w' p h A c B m :=
  ⟨x.blk.below hb x.blk.lt, (x.rd.below hb).more hb.size, x.ne, x.bs, x.le⟩
theorem Re.lt {w : World} {p : Nat} {h : Bool} {A : Option Addr} {c m : Nat} {B : List Int} (x : Re w p h A c B m) : p < w.heap.size := x.blk.lt

set_option maxHeartbeats 400000 in
theorem newReader_any (A : Option Addr) (n c : Nat) (h : Bool) (l : List Int) (w : World) (hn : l.length = n) (hR : Rd w w.heap.size A (bv l)) (hB : Bs l) (hm : n ≤ 68719476736) :
    Calls Try.prog 61 #[.slice A n c, .bool h] w fun e w' => ∃ p A' c', e = .returned (.pointer (some ⟨p, 0, none⟩)) ∧ Re w' p h A' c' l 0 ∧ w.heap.size ≤ p ∧ (∀ a, A' = some a → w.heap.size ≤ a.block ∧ a.block < p) ∧ Below w.heap.size w w' := by
  have HN := Lib.hid hn
  clear hn
  go_enter Try.func61, Try.ntmps61
  go_wp2_with (go_at_call 110; refine (clone_any A n c l _ HN.out hR (by omega)).mono ?_; rintro e w1 ⟨v1, rfl, ho1, hb1⟩; obtain ⟨A1, c1', rfl, hR1⟩ := own_slice ho1)
  go_ret
  have hlt := ho1.lt
  have hform : ∀ a, A1 = some a → w.heap.size ≤ a.block ∧ a.block < w1.heap.size := fun a ha => hlt a.block (by rw [ha]; rfl)
  refine ⟨w1.heap.size, A1, c1', rfl, ⟨?_, ?_, ?_, hB, by omega⟩, hb1.size, hform, hb1.alloc hb1.size _⟩
  · rw [HN.out]; exact Bl3.new _ _ _ _ _
  · exact (hR1.below ((Below.refl _ _).alloc (Nat.le_refl _) _)).more (by simp)
  · intro a ha
    have := (hform a ha).2
    omega

theorem at_nil (w : World) : Calls Try.prog 64 #[.pointer none] w fun e w' => e = .returned (.int .i64 0) ∧ w = w' := by
  go_enter Try.func64, Try.ntmps64
  go_wp2
  go_ret
  exact ⟨rfl, rfl⟩
theorem left_nil (w : World) : Calls Try.prog 109 #[.pointer none] w fun e w' => e = .returned (.int .i64 0) ∧ w = w' := by
  go_enter Try.func109, Try.ntmps109
  go_wp2
  go_ret
  exact ⟨rfl, rfl⟩
theorem at_any {w : World} {p : Nat} {h : Bool} {A : Option Addr} {c m : Nat} {B : List Int} (x : Re w p h A c B m) : Calls Try.prog 64 #[.pointer (some ⟨p, 0, none⟩)] w fun e w' => e = .returned (.int .i64 (m : Nat)) ∧ w = w' := by
  have c2 := x.blk.c2
  clear x
  go_enter Try.func64, Try.ntmps64
  go_wp2
  go_ret
  exact ⟨rfl, rfl⟩
theorem left_any {w : World} {p : Nat} {h : Bool} {A : Option Addr} {c m : Nat} {B : List Int} (x : Re w p h A c B m) (hm : B.length ≤ 68719476736) : Calls Try.prog 109 #[.pointer (some ⟨p, 0, none⟩)] w fun e w' => e = .returned (.int .i64 ((8 * B.length - m : Nat) : Int)) ∧ Below w.heap.size w w' := by
  have c1 := x.blk.c1
  have c2 := x.blk.c2
  have hle := x.le
  clear x
  obtain ⟨k, hk⟩ : ∃ k, k = B.length := ⟨_, rfl⟩
  rw [← hk] at c1 hle hm ⊢
  clear hk
  have h1 : IntKind.i64.wrap (8 * (k : Int)) = 8 * (k : Int) := IntWalk.i64_in _ (by omega)
  have h2 : IntKind.i64.wrap (8 * (k : Int) - (m : Int)) = 8 * (k : Int) - (m : Int) := IntWalk.i64_in _ (by omega)
  have hfin : 8 * (k : Int) - (m : Int) = ((8 * k - m : Nat) : Int) := by omega
  have HF := Lib.hid hfin
  clear hfin
  go_enter Try.func109, Try.ntmps109
  go_wp2
  go_quiet (fail)
  go_wp2
  go_ret
  exact ⟨ret_int HF.out, below_drewN (Below.refl _ _) _⟩

/-- what reading may touch -/
def Fp (p : Nat) (w w' : World) : Prop := Fr (fun k => k = p) w w'
theorem Fp.refl (p : Nat) (w : World) : Fp p w w := Fr.refl _ _
theorem Fp.trans {p : Nat} {a b c : World} (h : Fp p a b) (k : Fp p b c) : Fp p a c := Fr.trans h k
theorem Fp.of_below {p : Nat} {w w' : World} (h : Below w.heap.size w w') : Fp p w w' := Fr.of_below h
theorem Fp.below {p B : Nat} {w w' : World} (h : Fp p w w') (hp : B ≤ p) (hB : B ≤ w.heap.size) : Below B w w' := Fr.below h (fun k hk e => by omega) hB

theorem Re.step {w : World} {p : Nat} {h : Bool} {A : Option Addr} {c m : Nat} {B : List Int} (x : Re w p h A c B m) (k : Nat) (hk : k ≤ 8 * B.length) : Re (w.setCell ⟨p, 2, none⟩ (.int .i64 (k : Nat))) p h A c B k ∧ Fp p w (w.setCell ⟨p, 2, none⟩ (.int .i64 (k : Nat))) := by
  have hf : Fp p w (w.setCell ⟨p, 2, none⟩ (.int .i64 (k : Nat))) := (Fr.refl (fun k => k = p) w).setCell (p := ⟨p, 2, none⟩) (.inl rfl) _
  exact ⟨⟨x.blk.set2 _, (Fr.rd hf x.rd (Nat.le_refl _) (fun a ha => x.ne a ha)).more (Fr.size hf), x.ne, x.bs, hk⟩, hf⟩

end Go.Proofs.Ytlhappecjjbopaa
namespace Go.Proofs.Ytlhappecjjbopaa
open Go.RowKit
set_option linter.unusedVariables false
set_option maxRecDepth 100000

theorem take_range (v : Option Addr) (n : Int) (hb : ¬ (0 ≤ n ∧ n ≤ 32)) (w : World) : Calls Try.prog 111 #[.pointer v, .int .i64 n] w fun e w' => e = .returned (.tuple #[.int .i64 0, errV 7]) ∧ w = w' := by
  go_enter Try.func111, Try.ntmps111
  go_wp2_with (go_at_call 141; refine (counted_any _ false (by simpa using hb) _).mono ?_; rintro e w' ⟨rfl, rfl⟩)
  go_ret2
  exact ⟨rfl, rfl⟩
theorem take_nil (n : Int) (hb : 0 ≤ n ∧ n ≤ 32) (w : World) : Calls Try.prog 111 #[.pointer none, .int .i64 n] w fun e w' => e = .returned (.tuple #[.int .i64 0, errV 8]) ∧ w = w' := by
  go_enter Try.func111, Try.ntmps111
  go_wp2_with (go_at_call 141; refine (counted_any _ true (by simpa using hb) _).mono ?_; rintro e w' ⟨rfl, rfl⟩)
  go_ret2
  exact ⟨rfl, rfl⟩
theorem take_end {w : World} {p : Nat} {h : Bool} {A : Option Addr} {c m : Nat} {B : List Int} (x : Re w p h A c B m) (hm : B.length ≤ 68719476736) (n : Nat) (hn : n ≤ 32) (hl : 8 * B.length - m < n) :
    Calls Try.prog 111 #[.pointer (some ⟨p, 0, none⟩), .int .i64 n] w fun e w' => e = .returned (.tuple #[.int .i64 0, errV 8]) ∧ Below w.heap.size w w' := by
  go_enter Try.func111, Try.ntmps111
  go_wp2_with (first
    | (go_at_call 141; refine (counted_any _ true (by simp; omega) _).mono ?_; rintro e w' ⟨rfl, rfl⟩)
    | (go_at_call 109; refine (left_any x hm).mono ?_; rintro e w1 ⟨rfl, hb1⟩))
  go_ret2
  exact ⟨rfl, hb1⟩

/-- the next bits of a reader -/
def nxt (h : Bool) (B : List Int) (m n : Nat) : List Int := ((bitsOf h B).drop m).take n
theorem nxt_len (h : Bool) (B : List Int) (m n : Nat) (hn : m + n ≤ 8 * B.length) : (nxt h B m n).length = n := by unfold nxt; rw [List.length_take, List.length_drop, bitsOf_len]; omega
theorem nxt_01 (h : Bool) (B : List Int) (m n : Nat) : B01 (nxt h B m n) := ((bitsOf_01 h B).drop m).take n
theorem nxt_snoc (h : Bool) (B : List Int) (m k : Nat) (hk : m + k < 8 * B.length) : nxt h B m (k + 1) = nxt h B m k ++ [B.getD ((m + k) / 8) 0 / 2 ^ pk h ((m + k) % 8) 8 % 2] := by
  unfold nxt
  rw [List.take_add_one, List.getElem?_drop, bitsOf_at h B (m + k) hk]; rfl

theorem i64_next {h : Bool} {c : Nat} {l : List Int} {b : Int} (hB : B01 l) (hb : b = 0 ∨ b = 1) (hl : l.length < c) (hc : c ≤ 32) :
    bits BinOp.or IntKind.i64 (part h c l) (wrap64 (b * 2 ^ min (pk h l.length c) 64)) = part h c (l ++ [b]) := by
  have hp := pk_lt (h := h) hl
  rw [Nat.min_eq_left (by omega)]
  have h1 : (2 : Int) ^ pk h l.length c ≤ 2 ^ 31 := by
    have := Nat.pow_le_pow_right (show 0 < 2 by omega) (show pk h l.length c ≤ 31 by omega)
    rw [← two_cast, ← two_cast]; omega
  have h2 := two_pos (pk h l.length c)
  have h3 : 0 ≤ b * 2 ^ pk h l.length c ∧ b * 2 ^ pk h l.length c ≤ 2 ^ 31 := by
    rcases hb with rfl | rfl
    · omega
    · rw [Int.one_mul]; exact ⟨by omega, h1⟩
  rw [IntWalk.wrap64_in _ ⟨by omega, by omega⟩, ← part_or hB hb hl]
  have h4 := part_bd (h := h) hB (Nat.le_of_lt hl)
  have h5 : (2 : Int) ^ c ≤ 2 ^ 32 := by
    have := Nat.pow_le_pow_right (show 0 < 2 by omega) hc
    rw [← two_cast, ← two_cast]; omega
  obtain ⟨a, ha⟩ := Int.eq_ofNat_of_zero_le h4.1
  obtain ⟨d, hd⟩ := Int.eq_ofNat_of_zero_le h3.1
  rw [ha, hd, Int.toNat_natCast, Int.toNat_natCast]
  exact i64_ors a d (by omega) (by omega)

theorem Re.drewN {w : World} {p : Nat} {h : Bool} {A : Option Addr} {c m : Nat} {B : List Int} (x : Re w p h A c B m) (n : Nat) : Re (w.drewN n) p h A c B m := ⟨x.blk, x.rd, x.ne, x.bs, x.le⟩
theorem Fp.drewN {p : Nat} {w w' : World} (h : Fp p w w') (n : Nat) : Fp p w (w'.drewN n) := Fr.drewN h n

set_option maxHeartbeats 2000000 in
theorem take_any {w : World} {p : Nat} {h : Bool} {A : Option Addr} {c m : Nat} {B : List Int} (x : Re w p h A c B m) (hm : B.length ≤ 68719476736) (n : Nat) (hn : n ≤ 32) (hl : n ≤ 8 * B.length - m) :
    Calls Try.prog 111 #[.pointer (some ⟨p, 0, none⟩), .int .i64 n] w fun e w' => e = .returned (.tuple #[.int .i64 (part h n (nxt h B m n)), .nilIface]) ∧ Re w' p h A c B (m + n) ∧ Fp p w w' := by
  have hle := x.le
  have hld : decide (8 * B.length - m < n) = false := by simp; omega
  go_enter Try.func111, Try.ntmps111
  go_wp2_with (first
    | (go_at_call 141; refine (counted_any _ true (by simp; omega) _).mono ?_; rintro e w' ⟨rfl, rfl⟩)
    | (go_at_call 109; refine (left_any x hm).mono ?_; rintro e w1 ⟨rfl, hb1⟩))
  have x1 := x.below hb1
  have hf1 : Fp p w w1 := Fp.of_below hb1
  go_loopw [6, 23] (fun v i wr => ∃ k : Nat, k ≤ n ∧ i = .int .i64 k ∧ v = .int .i64 (part h n (nxt h B m k)) ∧ Re wr p h A c B (m + k) ∧ Fp p w wr) (fun _ i _ => n - (intOf i).toNat)
  case atStart => exact ⟨0, Nat.zero_le _, rfl, by unfold nxt; simp [part_nil], x1, hf1⟩
  case round =>
    obtain ⟨k, hk, rfl, rfl, hx, hf⟩ := hrel
    clear x x1 hf1 hb1
    by_cases hlt : k < n
    · obtain ⟨q, hq⟩ : ∃ q, q = m + k := ⟨_, rfl⟩
      rw [← hq] at hx
      have hqb : q < 8 * B.length := by omega
      obtain ⟨b, off, rfl, hbl, hcell⟩ := hx.rd.at_ (k := q / 8) (by rw [bv_len]; omega)
      have hcl := hcell (q / 8) (.int .u8 (B.getD (q / 8) 0)) (bv_get (by omega))
      have hxb : 0 ≤ B.getD (q / 8) 0 ∧ B.getD (q / 8) 0 ≤ 255 := by
        have hin : B.getD (q / 8) 0 ∈ B := by rw [List.getD_eq_getElem?_getD, List.getElem?_eq_getElem (by omega)]; exact List.getElem_mem _
        exact hx.bs _ hin
      obtain ⟨y, hy⟩ : ∃ y, y = B.getD (q / 8) 0 := ⟨_, rfl⟩
      rw [← hy] at hcl hxb
      have c0 := hx.blk.c0
      have c1 := hx.blk.c1
      have c2 := hx.blk.c2
      have f2 := hx.blk.f 2 (by omega)
      obtain ⟨z, hz⟩ : ∃ z, z = y / 2 ^ pk h (q % 8) 8 % 2 := ⟨_, rfl⟩
      have hz01 : z = 0 ∨ z = 1 := by omega
      have hpk8 := pk_lt (h := h) (show q % 8 < 8 by omega)
      have hsn := nxt_snoc h B m k (by omega)
      rw [← hq, ← hy, ← hz] at hsn
      have hlen := nxt_len h B m k (by omega)
      have hnx := i64_next (h := h) (c := n) (nxt_01 h B m k) hz01 (by omega) hn
      rw [hlen, ← hsn] at hnx
      have hst : ∀ W : World, Re W p h (some ⟨b, off, none⟩) c B q → Re (W.setCell ⟨p, 2, none⟩ (.int .i64 ((q : Int) + 1))) p h (some ⟨b, off, none⟩) c B (m + (k + 1)) ∧ Fp p W (W.setCell ⟨p, 2, none⟩ (.int .i64 ((q : Int) + 1))) := fun W hW => by
        have := hW.step (m + (k + 1)) (by omega)
        rw [show ((m + (k + 1) : Nat) : Int) = (q : Int) + 1 by omega] at this
        exact this
      have hand : bits BinOp.and IntKind.i64 (y / 2 ^ pk h (q % 8) 8) 1 = z := by rw [i64_bit, hz]
      have hwz : IntKind.i64.wrap z = z := IntWalk.i64_in _ (by omega)
      have hwy : IntKind.i64.wrap y = y := IntWalk.i64_in _ (by omega)
      have hquo : IntKind.i64.wrap ((q : Int) / 8) = ((q / 8 : Nat) : Int) := by
        rw [IntWalk.i64_in _ (by omega)]; omega
      have hix : (q / 8 : Nat) < B.length := by omega
      have hix0 : (0 : Int) ≤ ((q / 8 : Nat) : Int) := by omega
      have hix1 : ((q / 8 : Nat) : Int) < (B.length : Int) := by omega
      have hq40 : q ≤ 1099511627776 := by omega
      have HS := Lib.hid hst
      have HX := Lib.hid hx
      clear hcell hy hz hsn hlen hq hst hx hqb
      generalize part h n (nxt h B m k) = acc0 at *
      generalize hacc : part h n (nxt h B m (k + 1)) = acc1 at *
      have HA := Lib.hid hacc
      clear hacc
      generalize q / 8 = q8 at *
      go_wp2
      go_quiet ((go_at_call 142; exact Calls.quiet_of_same (shift_any h q hq40 _)))
      clear hwz hwy hquo
      go_wp2_with (go_at_call 143; refine (pick_any h k n hlt (by omega) _).mono ?_; rintro e w' ⟨rfl, rfl⟩)
      go_roundw
      case rel => exact ⟨k + 1, by omega, by go_num, by rw [HA.out], (HS.out _ (HX.out.drewN nq)).1, hf.trans (((Fp.refl p wr).drewN nq).trans (HS.out _ (HX.out.drewN nq)).2)⟩
      case measure => simp [intOf]; omega
    · go_wp2
      go_ret2
      obtain rfl : k = n := by omega
      exact ⟨rfl, hx, hf⟩
end Go.Proofs.Ytlhappecjjbopaa
