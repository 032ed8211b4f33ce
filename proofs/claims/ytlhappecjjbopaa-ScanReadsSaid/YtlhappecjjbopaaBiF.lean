/-
  bits.Reader: NewReader, At, Left, Align, by contracts. Conditions: at most 2^36 bytes.
-/
import Derived.Test.YtlhappecjjbopaaBiE
namespace Go.Proofs.Ytlhappecjjbopaa
open Go.RowKit
set_option linter.unusedVariables false
set_option maxRecDepth 100000

/-- a reader at block p: its bytes, and how many bits were read -/
structure Re (w : World) (p : Nat) (h : Bool) (A : Option Addr) (c : Nat) (B : List Int) (m : Nat) : Prop where
  blk : Bl3 w p 163 (.bool h) (.slice A B.length c) (.int .i64 (m : Nat))
  rd : Rd w w.heap.size A (bv B)
  ne : ∀ a, A = some a → a.block ≠ p
  bs : Bs B
  le : m ≤ 8 * B.length
theorem Re.keep {w w' : World} {p : Nat} {h : Bool} {A : Option Addr} {c m : Nat} {B : List Int} {S : Nat → Prop} (x : Re w p h A c B m) (hf : Fr S w w') (hp : ¬ S p) (hA : ∀ a, A = some a → ¬ S a.block) : Re w' p h A c B m :=
  ⟨x.blk.keep hf hp, (hf.rd x.rd (Nat.le_refl _) hA).more hf.size, x.ne, x.bs, x.le⟩
theorem Re.below {w w' : World} {p : Nat} {h : Bool} {A : Option Addr} {c m : Nat} {B : List Int} (x : Re w p h A c B m) (hb : Below w.heap.size w w') : Re w' p h A c B m :=
  ⟨x.blk.below hb x.blk.lt, (x.rd.below hb).more hb.size, x.ne, x.bs, x.le⟩
theorem Re.lt {w : World} {p : Nat} {h : Bool} {A : Option Addr} {c m : Nat} {B : List Int} (x : Re w p h A c B m) : p < w.heap.size := x.blk.lt

set_option maxHeartbeats 400000 in
theorem newReader_any (A : Option Addr) (n c : Nat) (h : Bool) (l : List Int) (w : World) (hn : l.length = n) (hR : Rd w w.heap.size A (bv l)) (hB : Bs l) (hm : n ≤ 68719476736) :
    Calls Try.prog 61 #[.slice A n c, .bool h] w fun e w' => ∃ p A' c', e = .returned (.pointer (some ⟨p, 0, none⟩)) ∧ Re w' p h A' c' l 0 ∧ w.heap.size ≤ p ∧ (∀ a, A' = some a → w.heap.size ≤ a.block ∧ a.block < p) ∧ Below w.heap.size w w' := by
  have HN := Lib.hid hn
  clear hn
  go_enter Try.func61, Try.ntmps61
  go_wp2_with (go_at_call 110; refine (clone_any A n c l _ HN.out hR (by omega)).mono ?_; rintro e w1 ⟨v1, rfl, ho1, hb1⟩; obtain ⟨A1, c1', rfl, hR1⟩ := own_slice ho1)
  go_ret
  have hlt := ho1.lt
  have hform : ∀ a, A1 = some a → w.heap.size ≤ a.block ∧ a.block < w1.heap.size := fun a ha => hlt a.block (by rw [ha]; rfl)
  refine ⟨w1.heap.size, A1, c1', rfl, ⟨?_, ?_, ?_, hB, by omega⟩, hb1.size, hform, hb1.alloc hb1.size _⟩
  · rw [HN.out]; exact Bl3.new _ _ _ _ _
  · exact (hR1.below ((Below.refl _ _).alloc (Nat.le_refl _) _)).more (by simp)
  · intro a ha
    have := (hform a ha).2
    omega

theorem at_nil (w : World) : Calls Try.prog 64 #[.pointer none] w fun e w' => e = .returned (.int .i64 0) ∧ w = w' := by
  go_enter Try.func64, Try.ntmps64
  go_wp2
  go_ret
  exact ⟨rfl, rfl⟩
theorem left_nil (w : World) : Calls Try.prog 109 #[.pointer none] w fun e w' => e = .returned (.int .i64 0) ∧ w = w' := by
  go_enter Try.func109, Try.ntmps109
  go_wp2
  go_ret
  exact ⟨rfl, rfl⟩
theorem at_any {w : World} {p : Nat} {h : Bool} {A : Option Addr} {c m : Nat} {B : List Int} (x : Re w p h A c B m) : Calls Try.prog 64 #[.pointer (some ⟨p, 0, none⟩)] w fun e w' => e = .returned (.int .i64 (m : Nat)) ∧ w = w' := by
  have c2 := x.blk.c2
  clear x
  go_enter Try.func64, Try.ntmps64
  go_wp2
  go_ret
  exact ⟨rfl, rfl⟩
theorem left_any {w : World} {p : Nat} {h : Bool} {A : Option Addr} {c m : Nat} {B : List Int} (x : Re w p h A c B m) (hm : B.length ≤ 68719476736) : Calls Try.prog 109 #[.pointer (some ⟨p, 0, none⟩)] w fun e w' => e = .returned (.int .i64 ((8 * B.length - m : Nat) : Int)) ∧ Below w.heap.size w w' := by
  have c1 := x.blk.c1
  have c2 := x.blk.c2
  have hle := x.le
  clear x
  obtain ⟨k, hk⟩ : ∃ k, k = B.length := ⟨_, rfl⟩
  rw [← hk] at c1 hle hm ⊢
  clear hk
  have h1 : IntKind.i64.wrap (8 * (k : Int)) = 8 * (k : Int) := IntWalk.i64_in _ (by omega)
  have h2 : IntKind.i64.wrap (8 * (k : Int) - (m : Int)) = 8 * (k : Int) - (m : Int) := IntWalk.i64_in _ (by omega)
  have hfin : 8 * (k : Int) - (m : Int) = ((8 * k - m : Nat) : Int) := by omega
  have HF := Lib.hid hfin
  clear hfin
  go_enter Try.func109, Try.ntmps109
  go_wp2
  go_quiet (fail)
  go_wp2
  go_ret
  exact ⟨ret_int HF.out, below_drewN (Below.refl _ _) _⟩

/-- what reading may touch -/
def Fp (p : Nat) (w w' : World) : Prop := Fr (fun k => k = p) w w'
theorem Fp.refl (p : Nat) (w : World) : Fp p w w := Fr.refl _ _
theorem Fp.trans {p : Nat} {a b c : World} (h : Fp p a b) (k : Fp p b c) : Fp p a c := Fr.trans h k
theorem Fp.of_below {p : Nat} {w w' : World} (h : Below w.heap.size w w') : Fp p w w' := Fr.of_below h
theorem Fp.below {p B : Nat} {w w' : World} (h : Fp p w w') (hp : B ≤ p) (hB : B ≤ w.heap.size) : Below B w w' := Fr.below h (fun k hk e => by omega) hB

theorem Re.step {w : World} {p : Nat} {h : Bool} {A : Option Addr} {c m : Nat} {B : List Int} (x : Re w p h A c B m) (k : Nat) (hk : k ≤ 8 * B.length) : Re (w.setCell ⟨p, 2, none⟩ (.int .i64 (k : Nat))) p h A c B k ∧ Fp p w (w.setCell ⟨p, 2, none⟩ (.int .i64 (k : Nat))) := by
  have hf : Fp p w (w.setCell ⟨p, 2, none⟩ (.int .i64 (k : Nat))) := (Fr.refl (fun k => k = p) w).setCell (p := ⟨p, 2, none⟩) (.inl rfl) _
  exact ⟨⟨x.blk.set2 _, (Fr.rd hf x.rd (Nat.le_refl _) (fun a ha => x.ne a ha)).more (Fr.size hf), x.ne, x.bs, hk⟩, hf⟩

end Go.Proofs.Ytlhappecjjbopaa
