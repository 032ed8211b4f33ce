/-
  bits.Writer: a bit is put, by contract. Conditions: fewer than 2^40 bits.
-/
import Derived.Test.YtlhappecjjbopaaLib
import Derived.Test.YtlhappecjjbopaaNum
import Derived.StillTailTactics
import Derived.Laws.BitsAllLaws
namespace Go.Proofs.Ytlhappecjjbopaa
open Go.RowKit
set_option linter.unusedVariables false
set_option maxRecDepth 100000

/-! a block of three cells that is known whole -/
section
variable {w w' : World} {p : Nat} {a b c : Value} {t : TypeId}
def Bl3 (w : World) (p : Nat) (t : TypeId) (a b c : Value) : Prop := w.heap[p]? = some (.cells #[a, b, c] t (0, 0))
theorem Bl3.lt (h : Bl3 w p t a b c) : p < w.heap.size := lt_of_block h
theorem Bl3.c0 (h : Bl3 w p t a b c) : w.cell? ⟨p, 0, none⟩ = some a := by unfold Bl3 at h; simp [World.cell?, h]
theorem Bl3.c1 (h : Bl3 w p t a b c) : w.cell? ⟨p, 1, none⟩ = some b := by unfold Bl3 at h; simp [World.cell?, h]
theorem Bl3.c2 (h : Bl3 w p t a b c) : w.cell? ⟨p, 2, none⟩ = some c := by unfold Bl3 at h; simp [World.cell?, h]
theorem Bl3.f (h : Bl3 w p t a b c) (k : Nat) (hk : k < 3) : w.frozen? ⟨p, k, none⟩ = false := by unfold Bl3 at h; simp [World.frozen?, h]
theorem Bl3.keep (h : Bl3 w p t a b c) {S : Nat → Prop} (hf : Fr S w w') (hs : ¬ S p) : Bl3 w' p t a b c := (hf.block p h.lt hs).trans h
theorem Bl3.alloc (h : Bl3 w p t a b c) (o : Obj) : Bl3 (w.alloc o) p t a b c := (Below.heap_alloc w o p h.lt).trans h
theorem Bl3.new (w : World) (t : TypeId) (a b c : Value) : Bl3 (w.alloc (.cells #[a, b, c] t)) w.heap.size t a b c := heap_alloc_new w _
theorem Bl3.set0 (h : Bl3 w p t a b c) (u : Value) : Bl3 (w.setCell ⟨p, 0, none⟩ u) p t u b c := by
  have hlt := h.lt
  have h' : w.heap[p] = .cells #[a, b, c] t := by unfold Bl3 at h; simpa [Array.getElem?_eq_getElem hlt] using h
  show (w.heap.modify p _)[p]? = _
  rw [Array.getElem?_eq_getElem (by simpa using hlt), Array.getElem_modify_self, h']
  rfl
theorem Bl3.set1 (h : Bl3 w p t a b c) (u : Value) : Bl3 (w.setCell ⟨p, 1, none⟩ u) p t a u c := by
  have hlt := h.lt
  have h' : w.heap[p] = .cells #[a, b, c] t := by unfold Bl3 at h; simpa [Array.getElem?_eq_getElem hlt] using h
  show (w.heap.modify p _)[p]? = _
  rw [Array.getElem?_eq_getElem (by simpa using hlt), Array.getElem_modify_self, h']
  rfl
theorem Bl3.set2 (h : Bl3 w p t a b c) (u : Value) : Bl3 (w.setCell ⟨p, 2, none⟩ u) p t a b u := by
  have hlt := h.lt
  have h' : w.heap[p] = .cells #[a, b, c] t := by unfold Bl3 at h; simpa [Array.getElem?_eq_getElem hlt] using h
  show (w.heap.modify p _)[p]? = _
  rw [Array.getElem?_eq_getElem (by simpa using hlt), Array.getElem_modify_self, h']
  rfl
theorem Bl3.other (h : Bl3 w p t a b c) {q : Addr} (hq : q.block ≠ p) (u : Value) : Bl3 (w.setCell q u) p t a b c := by
  unfold Bl3; rw [Below.heap_setCell _ _ _ _ (fun e => hq e.symm)]; exact h
end

/-- a writer at block p with these bits; its bytes are an own row v -/
structure Wr (w : World) (p : Nat) (h : Bool) (v : Value) (L : List Int) : Prop where
  blk : Bl3 w p 165 (.bool h) v (.int .i64 (L.length : Nat))
  own : w.ownsRow 0 5 1 v (nby L.length) (bv (pack h L))
  ne : v.ownBlock ≠ some p
  b01 : B01 L
/-- what a call may touch: the block p and the row v; a row of v' is v's or new -/
structure Turn (p : Nat) (w : World) (v : Value) (w' : World) (v' : Value) : Prop where
  fr : Fr (fun k => k = p ∨ v.ownBlock = some k) w w'
  row : ∀ k, v'.ownBlock = some k → v.ownBlock = some k ∨ w.heap.size ≤ k
theorem Turn.refl (p : Nat) (w : World) (v : Value) : Turn p w v w v := ⟨Fr.refl _ _, fun k h => .inl h⟩
theorem Turn.trans {p : Nat} {w w1 w2 : World} {v v1 v2 : Value} (h : Turn p w v w1 v1) (k : Turn p w1 v1 w2 v2) : Turn p w v w2 v2 :=
  ⟨h.fr.trans' k.fr (fun i hi hs => by
    rcases hs with hs | hs
    · exact .inl hs
    · rcases h.row i hs with h1 | h1
      · exact .inr h1
      · omega), fun i hi => by
    rcases k.row i hi with h1 | h1
    · exact h.row i h1
    · exact .inr (Nat.le_trans h.fr.size h1)⟩
theorem Turn.below {p : Nat} {w w' : World} {v v' : Value} {B : Nat} (h : Turn p w v w' v') (hp : B ≤ p) (hv : ∀ k, v.ownBlock = some k → B ≤ k) (hB : B ≤ w.heap.size) : Below B w w' :=
  h.fr.below (fun k hk hs => by
    rcases hs with hs | hs
    · omega
    · have := hv k hs; omega) hB

theorem Wr.lt {w : World} {p : Nat} {h : Bool} {v : Value} {L : List Int} (x : Wr w p h v L) : p < w.heap.size := x.blk.lt

theorem shift_any (h : Bool) (n : Nat) (hn : n ≤ 1099511627776) (w : World) : Calls Try.prog 142 #[.bool h, .int .i64 n] w fun e w' => e = .returned (.int .i64 (pk h (n % 8) 8 : Nat)) ∧ w' = w := by
  cases h
  · go_enter Try.func142, Try.ntmps142
    go_wp2
    go_ret
    exact ⟨ret_int (by unfold pk; simp), rfl⟩
  · go_enter Try.func142, Try.ntmps142
    go_wp2
    go_ret
    exact ⟨ret_int (by unfold pk; simp; omega), rfl⟩
theorem pick_any (h : Bool) (i c : Nat) (hi : i < c) (hc : c ≤ 1000) (w : World) : Calls Try.prog 143 #[.bool h, .int .i64 i, .int .i64 c] w fun e w' => e = .returned (.int .i64 (pk h i c : Nat)) ∧ w' = w := by
  cases h
  · go_enter Try.func143, Try.ntmps143
    go_wp2
    go_ret
    exact ⟨ret_int (by unfold pk; simp), rfl⟩
  · go_enter Try.func143, Try.ntmps143
    go_wp2
    go_ret
    exact ⟨ret_int (by unfold pk; simp; omega), rfl⟩

theorem wraps_i64 (n : Int) (h0 : 0 ≤ n) (h1 : n < 2 ^ 63) : IntKind.i64.wrap n = n := by rw [IntKind.wrap_i64]; omega
theorem i64_mask (i : Nat) (hi : i ≤ 62) (n : Int) : bits .and .i64 n (2 ^ i - 1) = n % 2 ^ i := by
  have h2 : (2 : Int) ^ i - 1 = ((2 ^ i - 1 : Nat) : Int) := by rw [Int.natCast_sub Nat.one_le_two_pow]; simp
  have h3 : 2 ^ i ≤ 2 ^ 62 := Nat.pow_le_pow_right (by omega) hi
  have h4 : (BitVec.ofInt 64 ((2 ^ i - 1 : Nat) : Int)).toNat = 2 ^ i - 1 := by
    rw [BitVec.ofInt_natCast, BitVec.toNat_ofNat]; exact Nat.mod_eq_of_lt (by omega)
  have key : (BitVec.ofInt 64 n &&& BitVec.ofInt 64 ((2 ^ i - 1 : Nat) : Int)).toNat = (n % ((2 ^ 64 : Nat) : Int)).toNat % 2 ^ i := by
    rw [BitVec.toNat_and, BitVec.toNat_ofInt, h4, Nat.and_two_pow_sub_one_eq_mod]
  rw [h2]
  show IntKind.i64.wrap ((BitVec.ofInt 64 n &&& BitVec.ofInt 64 ((2 ^ i - 1 : Nat) : Int)).toNat : Nat) = n % 2 ^ i
  have h5 : (n % ((2 ^ 64 : Nat) : Int)).toNat % 2 ^ i < 2 ^ i := Nat.mod_lt _ (by have := Nat.one_le_two_pow (n := i); omega)
  rw [key, wraps_i64 _ (by omega) (by omega), Int.natCast_emod, Int.toNat_of_nonneg (by omega), two_cast, two_cast]
  exact Int.emod_emod_of_dvd n ⟨2 ^ (64 - i), by rw [← Int.pow_add, show i + (64 - i) = 64 by omega]⟩
theorem i64_bit (n : Int) : bits .and .i64 n 1 = n % 2 := i64_mask 1 (by omega) n
theorem i64_ors (a b : Nat) (ha : a < 2 ^ 62) (hb : b < 2 ^ 62) : bits .or .i64 (a : Int) (b : Int) = ((a ||| b : Nat) : Int) :=
  (bits_nat .i64 62 (by decide) (fun n h0 h1 => wraps_i64 n h0 (by omega)) a b ha hb).2
theorem u8_step (x b : Int) (s : Nat) (hx : 0 ≤ x ∧ x ≤ 255) (hb : 0 ≤ b ∧ b ≤ 1) (hs : s < 8) : bits BinOp.or IntKind.u8 x (wrap64 (b * 2 ^ min s 64) % 256) = ((x.toNat ||| (b * 2 ^ s).toNat : Nat) : Int) := by
  rw [Nat.min_eq_left (by omega)]
  have h1 : (2 : Int) ^ s ≤ 2 ^ 7 := by
    have := Nat.pow_le_pow_right (show 0 < 2 by omega) (show s ≤ 7 by omega)
    rw [← two_cast, ← two_cast]; omega
  have h2 := two_pos s
  have h3 : 0 ≤ b * 2 ^ s ∧ b * 2 ^ s ≤ 128 := by
    rcases (show b = 0 ∨ b = 1 by omega) with rfl | rfl
    · omega
    · rw [Int.one_mul]; exact ⟨by omega, h1⟩
  rw [IntWalk.wrap64_in _ ⟨by omega, by omega⟩, Int.emod_eq_of_lt h3.1 (by omega)]
  exact u8_or x _ hx.1 (by omega) h3.1 (by omega)

set_option maxHeartbeats 1000000 in
theorem bit_B (w : World) (p g d m k : Nat) (h : Bool) (b x : Int) (hgp : g ≠ p) (hb : b = 0 ∨ b = 1) (hm : m < 1099511627776) (hk : 8 * k < m ∧ m < 8 * k + 8) (hx : 0 ≤ x ∧ x ≤ 255)
    (X : Bl3 w p 165 (.bool h) (.slice (some ⟨g, 0, none⟩) (k + 1) d) (.int .i64 (m : Nat))) (hd : d ≤ 9223372036854775807) (hkd : k + 1 ≤ d)
    (hc : w.cell? ⟨g, k, none⟩ = some (.int .u8 x)) (hf : w.frozen? ⟨g, k, none⟩ = false) :
    Calls Try.prog 144 #[.pointer (some ⟨p, 0, none⟩), .int .i64 b] w fun e w' => e = .returned (.tuple #[]) ∧
      w' = ((w.setCell ⟨g, k, none⟩ (.int .u8 (x.toNat ||| (b * 2 ^ pk h (m % 8) 8).toNat : Nat))).setCell ⟨p, 2, none⟩ (.int .i64 ((m : Int) + 1))).drew := by
  have c0 := X.c0
  have c1 := X.c1
  have c2 := X.c2
  have f2 := X.f 2 (by omega)
  have hb2 : 0 ≤ b ∧ b ≤ 1 := by omega
  have h8 : m % 8 ≠ 0 := by omega
  clear hb X
  go_enter Try.func144, Try.ntmps144
  go_wp2
  have hwk : IntKind.i64.wrap (k : Int) = (k : Int) := IntWalk.i64_in _ (by omega)
  have hk0 : (0 : Int) ≤ (k : Int) := by omega
  have hk1 : (k : Int) < (k : Int) + 1 := by omega
  go_still_tail 26, (by kernel_rfl)
  still_call (shift_any h m (by omega) _)
  repeat still_step
  refine wpStill_nil ?_
  clear hwk hk0 hk1
  change wpList _ _ _ _ _ w.drew
  have k2 : ∀ u, (w.setCell ⟨g, k, none⟩ u).cell? ⟨p, 2, none⟩ = some (.int .i64 m) := fun u => by rw [World.cell?_of_block (w := w) (Below.heap_setCell _ _ _ _ (fun e => hgp e.symm))]; exact c2
  have k3 : ∀ u, (w.setCell ⟨g, k, none⟩ u).frozen? ⟨p, 2, none⟩ = false := fun u => by rw [World.frozen?_of_block (w := w) (Below.heap_setCell _ _ _ _ (fun e => hgp e.symm))]; exact f2
  go_wp2
  go_end0
  exact ⟨rfl, by rw [u8_step x b _ hx hb2 (pk_lt (by omega))]⟩

set_option maxHeartbeats 1000000 in
theorem bit_A (w : World) (p m k : Nat) (hh : Bool) (b : Int) (v : Value) (xs : List Int) (hb : b = 0 ∨ b = 1) (hm : m < 1099511627776) (hk : 8 * k ≤ m ∧ m ≤ 8 * k)
    (X : Bl3 w p 165 (.bool hh) v (.int .i64 (m : Nat))) (hown : w.ownsRow 0 5 1 v k (bv xs)) (hne : v.ownBlock ≠ some p) :
    Calls Try.prog 144 #[.pointer (some ⟨p, 0, none⟩), .int .i64 b] w fun e w' => e = .returned (.tuple #[]) ∧
      ∃ g d w2, g ≠ p ∧ d ≤ 9223372036854775807 ∧ k + 1 ≤ d ∧ Turn p w v w2 (.slice (some ⟨g, 0, none⟩) (k + 1) d) ∧
        Bl3 w2 p 165 (.bool hh) (.slice (some ⟨g, 0, none⟩) (k + 1) d) (.int .i64 (m : Nat)) ∧ w2.ownsRow 0 5 1 (.slice (some ⟨g, 0, none⟩) (k + 1) d) (k + 1) (bv (xs ++ [0])) ∧
        w' = ((w2.setCell ⟨g, k, none⟩ (.int .u8 ((0 : Int).toNat ||| (b * 2 ^ pk hh (m % 8) 8).toNat : Nat))).setCell ⟨p, 2, none⟩ (.int .i64 ((m : Int) + 1))).drew := by
  obtain ⟨i0, hi, hz0, hz1, hz2⟩ := info_parts Try.info_u8
  have c0 := X.c0
  have c1 := X.c1
  have c2 := X.c2
  have hb2 : 0 ≤ b ∧ b ≤ 1 := by omega
  have h8i : ((m : Int) % 8 == 0) = true := by simp; omega
  have hlt := X.lt
  clear hb
  go_enter Try.func144, Try.ntmps144
  obtain ⟨A0, n0, d0, rfl⟩ : ∃ A n d, v = .slice A n d := by
    obtain ⟨A, c, hv, _⟩ := own_slice hown
    exact ⟨A, _, c, hv⟩
  have hown' := hown.alloc (.cells #[Value.int .u8 0] 5)
  have X' := X.alloc (.cells #[Value.int .u8 0] 5)
  have hsz : (w.alloc (.cells #[Value.int .u8 0] 5)).heap.size = w.heap.size + 1 := by simp
  have HSZ := Lib.hid hsz
  clear hsz
  go_wp2_with (at_builtin; refine wpList_app2 _ rfl (.tmp 14) (.tmp 15) 79 rfl Try.underlying79 hi hz0 hz1 hz2 rfl hown' rfl rfl (Rd.new1 _ _ _) rfl (by simp [Value.oneCell']) (by omega) (by omega) (by simp) ?_; intro v1 w1 hown1 hg1; obtain ⟨g, d, rfl, hcap, hdm, _, hgl⟩ := own_pos hown1 (by omega); have hfr1 := fr_app2 hg1; have X1 := X'.keep hfr1 hne; have y1 := X1.c1; have y2 := X1.f 1 (by omega))
  have hgp : g ≠ p := by
    rintro rfl
    rcases hg1 with ⟨h1, _⟩ | ⟨h1, _⟩
    · exact hne h1.symm
    · have h2 : g = _ := Option.some.inj h1
      rw [HSZ.out] at h2; omega
  have hT : Turn p w (.slice A0 n0 d0) w1 (.slice (some ⟨g, 0, none⟩) (k + 1) d) :=
    ⟨((Fr.refl _ w).alloc _).trans' hfr1 (fun i _ hs => .inr hs), fun i hi => by
      rcases hg1 with ⟨h1, _⟩ | ⟨h1, _⟩
      · rw [h1] at hi; exact .inl hi
      · rw [h1] at hi
        have h2 : _ = i := Option.some.inj hi
        rw [HSZ.out] at h2; exact .inr (by omega)⟩
  have X2 := X1.set1 (.slice (some ⟨g, 0, none⟩) (k + 1) d)
  have hown2 := ownsRow_setCell_other hown1 (a := ⟨p, 1, none⟩) (fun e => hgp (Option.some.inj e)) (.slice (some ⟨g, 0, none⟩) (k + 1) d)
  have hT2 : Turn p w (.slice A0 n0 d0) (w1.setCell ⟨p, 1, none⟩ (.slice (some ⟨g, 0, none⟩) (k + 1) d)) (.slice (some ⟨g, 0, none⟩) (k + 1) d) :=
    ⟨hT.fr.setCell (.inl (.inl rfl)) _, hT.row⟩
  generalize w1.setCell ⟨p, 1, none⟩ (.slice (some ⟨g, 0, none⟩) (k + 1) d) = w2 at *
  have hxs : xs.length = k := by have := hown.1; rw [bv_len] at this; omega
  have hc : w2.cell? ⟨g, k, none⟩ = some (.int .u8 0) := by
    rw [hown2.cellAt k (by omega)]; simp [bv, ← hxs]
  have hf : w2.frozen? ⟨g, k, none⟩ = false := hown2.frozenAt k
  have hown3 : w2.ownsRow 0 5 1 (.slice (some ⟨g, 0, none⟩) (k + 1) d) (k + 1) (bv (xs ++ [0])) := by rw [bv_app]; exact hown2
  clear c0 c1 c2 X X' X1 y1 y2 hown hown' hown1 hown2 hg1 hfr1 hT hne hlt hi hxs HSZ hgl
  have c0 := X2.c0
  have c1 := X2.c1
  have c2 := X2.c2
  have f2 := X2.f 2 (by omega)
  have HX := Lib.hid X2
  have HO := Lib.hid hown3
  have HT := Lib.hid hT2
  clear X2 hown3 hT2
  have hwk : IntKind.i64.wrap (k : Int) = (k : Int) := IntWalk.i64_in _ (by omega)
  have hk0 : (0 : Int) ≤ (k : Int) := by omega
  have hk1 : (k : Int) < (k : Int) + 1 := by omega
  go_still_tail 26, (by kernel_rfl)
  still_call (shift_any hh m (by omega) _)
  repeat still_step
  refine wpStill_nil ?_
  clear hwk hk0 hk1
  change wpList _ _ _ _ _ w2.drew
  have k2 : ∀ u, (w2.setCell ⟨g, k, none⟩ u).cell? ⟨p, 2, none⟩ = some (.int .i64 m) := fun u => by rw [World.cell?_of_block (w := w2) (Below.heap_setCell _ _ _ _ (fun e => hgp e.symm))]; exact c2
  have k3 : ∀ u, (w2.setCell ⟨g, k, none⟩ u).frozen? ⟨p, 2, none⟩ = false := fun u => by rw [World.frozen?_of_block (w := w2) (Below.heap_setCell _ _ _ _ (fun e => hgp e.symm))]; exact f2
  go_wp2
  go_end0
  exact ⟨rfl, g, d, w2, hgp, hdm, hcap, HT.out, HX.out, HO.out, by rw [u8_step 0 b _ (by omega) hb2 (pk_lt (by omega))]⟩

/-- the state behind the store of the byte and the count -/
theorem Wr.next {w : World} {p g d k : Nat} {h : Bool} {L : List Int} {b : Int} (hgp : g ≠ p) (hb : b = 0 ∨ b = 1) (hB : B01 L) (hk : k = L.length / 8)
    (X : Bl3 w p 165 (.bool h) (.slice (some ⟨g, 0, none⟩) (k + 1) d) (.int .i64 (L.length : Nat)))
    (hown : w.ownsRow 0 5 1 (.slice (some ⟨g, 0, none⟩) (k + 1) d) (k + 1) (bv (packZ h L))) :
    Wr (((w.setCell ⟨g, k, none⟩ (.int .u8 ((part h 8 ((L.drop (8 * k)).take 8)).toNat ||| (b * 2 ^ pk h (L.length % 8) 8).toNat : Nat))).setCell ⟨p, 2, none⟩ (.int .i64 ((L.length : Int) + 1))).drew) p h (.slice (some ⟨g, 0, none⟩) (k + 1) d) (L ++ [b]) ∧
    Turn p w (.slice (some ⟨g, 0, none⟩) (k + 1) d) (((w.setCell ⟨g, k, none⟩ (.int .u8 ((part h 8 ((L.drop (8 * k)).take 8)).toNat ||| (b * 2 ^ pk h (L.length % 8) 8).toNat : Nat))).setCell ⟨p, 2, none⟩ (.int .i64 ((L.length : Int) + 1))).drew) (.slice (some ⟨g, 0, none⟩) (k + 1) d) := by
  have hlen : (L.drop (8 * k)).length = L.length % 8 := by rw [List.length_drop]; omega
  have ht : (L.drop (8 * k)).take 8 = L.drop (8 * k) := List.take_of_length_le (by omega)
  rw [ht, ← hlen, part_or (hB.drop _) hb (by omega)]
  have X1 := X.other (q := ⟨g, k, none⟩) hgp (.int .u8 (part h 8 (L.drop (8 * k) ++ [b])))
  have X2 := X1.set2 (.int .i64 ((L.length : Int) + 1))
  have o1 := (hown.stored k (.int .u8 (part h 8 (L.drop (8 * k) ++ [b])))).1
  have o2 := ownsRow_setCell_other o1 (a := ⟨p, 2, none⟩) (fun e => hgp (Option.some.inj e)) (.int .i64 ((L.length : Int) + 1))
  refine ⟨⟨?_, ?_, fun e => hgp (Option.some.inj e), hB.app (B01.one hb)⟩, ⟨(((Fr.refl _ _).setCell (.inl (.inr rfl)) _).setCell (.inl (.inl rfl)) _).drew, fun i hi => .inl hi⟩⟩
  · have : (((L ++ [b]).length : Nat) : Int) = (L.length : Int) + 1 := by simp
    rw [this]; exact X2
  · have hn : nby (L ++ [b]).length = k + 1 := by simp [nby]; omega
    rw [hn, pack_snoc, ← hk]
    have he : (bv (packZ h L)).set k (.int .u8 (part h 8 (L.drop (8 * k) ++ [b]))) = bv ((packZ h L).set k (part h 8 (L.drop (8 * k) ++ [b]))) := by simp [bv]
    rw [← he]
    exact o2.drew

theorem bit_any (w : World) (p : Nat) (h : Bool) (v : Value) (L : List Int) (b : Int) (x : Wr w p h v L) (hb : b = 0 ∨ b = 1) (hL : L.length < 1099511627776) :
    Calls Try.prog 144 #[.pointer (some ⟨p, 0, none⟩), .int .i64 b] w fun e w' => e = .returned (.tuple #[]) ∧ ∃ v', Wr w' p h v' (L ++ [b]) ∧ Turn p w v w' v' := by
  obtain ⟨X, hown, hne, hB⟩ := x
  by_cases h8 : L.length % 8 = 0
  · rw [show nby L.length = L.length / 8 by unfold nby; omega] at hown
    refine (bit_A w p L.length (L.length / 8) h b v (pack h L) hb hL (by omega) X hown hne).mono ?_
    rintro e w' ⟨rfl, g, d, w2, hgp, hd, hkd, hT, X2, ho2, rfl⟩
    rw [show pack h L ++ [0] = packZ h L by unfold packZ; rw [if_pos h8]] at ho2
    have h0 : (0 : Int) = part h 8 ((L.drop (8 * (L.length / 8))).take 8) := by rw [List.drop_of_length_le (by omega)]; simp [part_nil]
    have hn := Wr.next hgp hb hB rfl X2 ho2
    rw [← h0] at hn
    exact ⟨rfl, _, hn.1, hT.trans hn.2⟩
  · have hz : packZ h L = pack h L := by unfold packZ; rw [if_neg h8]
    rw [show nby L.length = L.length / 8 + 1 by unfold nby; omega, ← hz] at hown
    obtain ⟨g, d, rfl, hcap, hdm, _, hgl⟩ := own_pos hown (by omega)
    have hgp : g ≠ p := fun e => hne (by rw [e]; rfl)
    have hat := packZ_at h L (L.length / 8) (Nat.le_refl _)
    have hc : w.cell? ⟨g, L.length / 8, none⟩ = some (.int .u8 (part h 8 ((L.drop (8 * (L.length / 8))).take 8))) := by
      rw [hown.cellAt _ (by omega)]; simp [bv, hat]
    have hbs := part_bs (h := h) hB (L.length / 8)
    refine (bit_B w p g d L.length (L.length / 8) h b _ hgp hb hL (by omega) hbs X hdm hcap hc (hown.frozenAt _)).mono ?_
    rintro e w' ⟨rfl, rfl⟩
    exact ⟨rfl, _, Wr.next hgp hb hB rfl X hown⟩
end Go.Proofs.Ytlhappecjjbopaa
