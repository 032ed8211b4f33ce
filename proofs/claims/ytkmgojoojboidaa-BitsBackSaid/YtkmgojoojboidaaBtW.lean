/-
  BitsWrites: which bytes any numbers come to. No condition.
-/
import Derived.Test.YtkmgojoojboidaaBtA
import Derived.Test.YtkmgojoojboidaaBiS
import Derived.Test.YtkmgojoojboidaaNest
import Derived.Test.YtkmgojoojboidaaFacts
namespace Go.Proofs.Ytkmgojoojboidaa
open Go.ChangeShapes Go.WideShapes Go.ChangeAt Go.WideMaps Go.WideElems Go.RowKit Go.Joins
set_option linter.unusedVariables false
set_option maxRecDepth 100000

set_option maxHeartbeats 1000000 in
theorem over_any (v : Value) (n base : Nat) (zs : List Int) (w : World) (hown : w.ownsRow base 5 1 v n (bv zs)) (hB : Bs zs) (hm : n ≤ 1099511627776) :
    Calls Try.prog 39 #[v] w fun e w' => e = .returned (.tuple #[]) ∧ Fr (fun k => v.ownBlock = some k) w w' := by
  obtain ⟨A, c, rfl, _⟩ := own_slice hown
  go_enter Try.func39, Try.ntmps39
  go_wp2
  go_loopw [5] (fun i wr => ∃ k : Nat, k ≤ n ∧ i = .int .i64 k ∧ ∃ ys, wr.ownsRow base 5 1 (.slice A n c) n (bv ys) ∧ Bs ys ∧ Fr (fun k => (Value.slice A n c).ownBlock = some k) w wr) (fun i _ => n - (intOf i).toNat)
  case atStart => exact ⟨0, Nat.zero_le _, rfl, zs, hown, hB, Fr.refl _ _⟩
  case round =>
    obtain ⟨k, hk, rfl, ys, hy, hyB, hf⟩ := hrel
    by_cases hlt : k < n
    · have hyl : ys.length = n := by have := hy.1; rw [bv_len] at this; omega
      obtain ⟨g, d, hv, hcap, hdm, _, hgl⟩ := own_pos hy (by omega)
      injection hv with hv hv2 hv3
      subst hv hv3
      have hcl : wr.cell? ⟨g, k, none⟩ = some (.int .u8 (ys.getD k 0)) := by rw [hy.cellAt k (by omega), bv_get (by omega)]
      have hfz := hy.frozenAt k
      have hx : 0 ≤ ys.getD k 0 ∧ ys.getD k 0 ≤ 255 := by
        have hin : ys.getD k 0 ∈ ys := by rw [List.getD_eq_getElem?_getD, List.getElem?_eq_getElem (by omega)]; exact List.getElem_mem _
        exact hyB _ hin
      generalize ys.getD k 0 = x at *
      obtain ⟨y, hye⟩ : ∃ y, y = bits BinOp.xor IntKind.u8 x 255 := ⟨_, rfl⟩
      have hyb : 0 ≤ y ∧ y ≤ 255 := by
        rw [hye, u8_xor x 255 hx.1 (by omega) (by omega) (by omega)]
        have := Nat.xor_lt_two_pow (x := x.toNat) (y := (255 : Int).toNat) (n := 8) (by omega) (by decide)
        omega
      have hst := hy.stored k (.int .u8 y)
      have hse : (bv ys).set k (.int .u8 y) = bv (ys.set k y) := by simp [bv]
      rw [hse] at hst
      have hbs : Bs (ys.set k y) := fun z hz => by
        rcases List.mem_or_eq_of_mem_set hz with h | h
        · exact hyB z h
        · rw [h]; exact hyb
      have hye' := hye.symm
      have HS := Lib.hid hst
      have HY := Lib.hid hy
      clear hye hst hse hy hyl
      go_wp2
      go_roundw
      case rel => exact ⟨k + 1, by omega, by go_num, _, HS.out.1, hbs, hf.trans ((Fr.refl (fun b => (Value.slice (some ⟨g, 0, none⟩) n c).ownBlock = some b) wr).setCell (p := ⟨g, k, none⟩) (.inl rfl) _)⟩
      case measure => simp [intOf]; omega
    · go_wp2
      go_end0
      exact ⟨rfl, hf⟩

/-- a writer and the list of its bits, apart -/
structure St (B : Nat) (w : World) (p : Nat) (h : Bool) (v want : Value) (L M : List Int) : Prop where
  wr : Wr w p h v L
  own : w.ownsRow B 3 1 want M.length (iv M)
  sp : ∀ k, want.ownBlock = some k → k ≠ p ∧ v.ownBlock ≠ some k
  bp : B ≤ p
  bv : ∀ k, v.ownBlock = some k → B ≤ k
section
variable {B p : Nat} {w w' : World} {h : Bool} {v v' want want' : Value} {L L' M M' : List Int}
theorem St.turn (x : St B w p h v want L M) (t : Turn p w v w' v') (y : Wr w' p h v' L') (hB : B ≤ w.heap.size) : St B w' p h v' want L' M :=
  ⟨y, t.fr.own x.own (fun k hk hs => by
    rcases hs with hs | hs
    · exact (x.sp k hk).1 hs
    · exact (x.sp k hk).2 hs), fun k hk => ⟨(x.sp k hk).1, fun hv => by
      rcases t.row k hv with h1 | h1
      · exact (x.sp k hk).2 h1
      · have := (x.own.lt k hk).2; omega⟩, x.bp, fun k hk => by
      rcases t.row k hk with h1 | h1
      · exact x.bv k h1
      · omega⟩
theorem St.turnB (x : St B w p h v want L M) (t : Turn p w v w' v') (hB : B ≤ w.heap.size) : Below B w w' := t.below x.bp x.bv hB
theorem St.app (x : St B w p h v want L M) (o : w'.ownsRow B 3 1 want' M'.length (iv M'))
    (hg : (want'.ownBlock = want.ownBlock ∧ w.grownBy w' want.ownBlock) ∨ (want'.ownBlock = some w.heap.size ∧ w.grownBy w' none)) : St B w' p h v want' L M' :=
  ⟨x.wr.keep (fr_app2 hg) (fun hs => (x.sp p hs).1 rfl) (fun k hk hs => (x.sp k hs).2 hk), o, fun k hk => by
    rcases hg with ⟨h1, _⟩ | ⟨h1, _⟩
    · rw [h1] at hk; exact x.sp k hk
    · rw [h1] at hk
      have hk' : w.heap.size = k := Option.some.inj hk
      exact ⟨by have := x.wr.lt; omega, fun hv => by have := (x.wr.own.lt k hv).2; omega⟩, x.bp, x.bv⟩
theorem St.below (x : St B w p h v want L M) (hb : Below w.heap.size w w') : St B w' p h v want L M :=
  ⟨x.wr.below hb, own_keep x.own hb, x.sp, x.bp, x.bv⟩
end

/-- the bits behind an operation -/
def opBits (h : Bool) (a m c : Int) (L : List Int) : List Int := if a ≠ 0 then full h L else if Fit m c then L ++ digs h m c.toNat else L
theorem opBits_len (h : Bool) (a m c : Int) (L : List Int) : (opBits h a m c L).length ≤ L.length + 32 := by
  unfold opBits
  split
  · unfold full pad; simp; omega
  · split
    · rename_i hf
      rw [List.length_append, digs_len]
      have := hf.1; omega
    · omega

theorem Fit.le {n c : Int} (h : Fit n c) : n ≤ 4294967295 := by
  obtain ⟨h1, h2, h3⟩ := h
  obtain ⟨C, rfl⟩ := Int.eq_ofNat_of_zero_le h1.1
  rw [Int.toNat_natCast] at h3
  have h4 : (2 : Int) ^ C ≤ 2 ^ 32 := by
    have := Nat.pow_le_pow_right (show 0 < 2 by omega) (show C ≤ 32 by omega)
    rw [← two_cast, ← two_cast]; omega
  have h5 := two_pos C
  have h6 : n < 2 ^ C := by
    have := Int.emod_add_mul_ediv n (2 ^ C)
    have := Int.emod_lt_of_pos n (show (0 : Int) < 2 ^ C by omega)
    rw [h3] at *; omega
  omega
theorem nby_le {n m : Nat} (h : n ≤ m) : nby n ≤ nby m := by unfold nby; omega
end Go.Proofs.Ytkmgojoojboidaa
