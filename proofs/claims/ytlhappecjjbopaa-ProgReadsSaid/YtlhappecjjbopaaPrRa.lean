/-
  Prog: the document's reading of ends, of a known number's bit, of a block of a first band; by contracts. Conditions: symbols below 512, at most 1000000000 bits.
-/
import Derived.Test.YtlhappecjjbopaaPrQ
import Derived.Test.YtlhappecjjbopaaPrX
namespace Go.Proofs.Ytlhappecjjbopaa
open Go.RowKit
set_option linter.unusedVariables false
set_option maxRecDepth 100000

section
variable {w w' : World} {p : Nat} {v0 : Value} {A : Option Addr} {c : Nat} {L : List Int} {a : Nat} {bad en : Int}
def IendP (p : Nat) (v0 : Value) (A : Option Addr) (c : Nat) (L : List Int) (R : List Int × Nat × Nat × Int) (w : World) (e : Ending) (w' : World) : Prop :=
  e = .returned (.bool true) ∧ ∃ (a' : Nat) (en' : Int), Inn w' p v0 A c L a' R.2.2.2 en' ∧ (R.2.2.2 = 0 → a' = R.2.1 ∧ en' = (R.2.2.1 : Nat)) ∧ Fp p w w'
theorem iend_no (s left : Int) (h : s.tmod 16 ≠ 0 ∨ s = 240) (vr : Value) (w : World) : Calls Try.prog 149 #[vr, .int .i64 s, .int .i64 left] w fun e w' => e = .returned (.bool false) ∧ w = w' := by
  by_cases h1 : s.tmod 16 = 0
  · have hs : s = 240 := by
      rcases h with h | h
      · exact absurd h1 h
      · exact h
    subst hs
    go_enter Try.func149, Try.ntmps149
    go_wp2
    go_ret
    exact ⟨rfl, rfl⟩
  · have d1 : (s.tmod 16 != 0) = true := by simp; exact h1
    clear h
    go_enter Try.func149, Try.ntmps149
    clear h1
    go_wp2
    go_ret
    exact ⟨rfl, rfl⟩
theorem hv_take_bd (L : List Int) (hB : B01 L) (k : Nat) : 0 ≤ hv (L.take k) ∧ hv (L.take k) < 2 ^ k := by
  have h := hv_bd (hB.take k)
  have h2 : (L.take k).length ≤ k := List.length_take_le _ _
  have h3 : (2 : Int) ^ (L.take k).length ≤ 2 ^ k := by
    rw [← two_cast, ← two_cast]; exact Int.ofNat_le.2 (Nat.pow_le_pow_right (by omega) h2)
  omega
set_option maxHeartbeats 8000000 in
theorem iend_any (X : Inn w p v0 A c L a 0 en) (hB : B01 L) (s : Nat) (hs : s ≤ 511) (h : s % 16 = 0 ∧ s ≠ 240) (hk : s / 16 ≤ 15) (left : Nat) (hl : left ≤ 1000) (x : List Int) :
    Calls Try.prog 149 #[.pointer (some ⟨p, 0, none⟩), .int .i64 (s : Nat), .int .i64 (left : Nat)] w (IendP p v0 A c L (rdE L left a (s / 16) x) w) := by
  obtain ⟨k, hkq⟩ : ∃ k, k = s / 16 := ⟨_, rfl⟩
  rw [← hkq] at hk ⊢
  have e1 : ((s : Nat) : Int).tmod 16 = 0 := by rw [Int.tmod_eq_emod_of_nonneg (by omega)]; omega
  have e2 : ((s : Nat) : Int).tdiv 16 = (k : Int) := by rw [Int.tdiv_eq_ediv_of_nonneg (by omega)]; omega
  have d1 : (((s : Nat) : Int).tmod 16 != 0) = false := by rw [e1]; rfl
  have d2 : (((s : Nat) : Int) == 240) = false := by simp; omega
  have hb0 := Below.refl w.heap.size w
  have HX := Lib.hid X
  have hpw := fun W : World => power22_any k (by omega) W
  have HPW := Lib.hid hpw
  have hb2 : (2 : Int) ^ k ≤ 32768 ∧ 1 ≤ (2 : Int) ^ k := by
    have h1 : 2 ^ k ≤ 2 ^ 15 := Nat.pow_le_pow_right (by omega) hk
    have h2 := two_cast k
    have h3 := two_pos k
    omega
  have hvb := hv_take_bd (L.drop a) (hB.drop a) k
  obtain ⟨v, a1, b1, hT⟩ : ∃ (v : Int) (a1 : Nat) (b1 : Int), (L.length < a + k ∧ v = 0 ∧ a1 = a ∧ b1 = 8) ∨ (¬ L.length < a + k ∧ v = hv ((L.drop a).take k) ∧ a1 = a + k ∧ b1 = 0) := by
    by_cases hf : L.length < a + k
    · exact ⟨0, a, 8, .inl ⟨hf, rfl, rfl, rfl⟩⟩
    · exact ⟨_, a + k, 0, .inr ⟨hf, rfl, rfl, rfl⟩⟩
  have htk : Calls Try.prog 131 #[.pointer (some ⟨p, 0, none⟩), .int .i64 (k : Nat)] w (InP p v0 A c L (.int .i64 v) a1 b1 en w) := by
    rcases hT with ⟨h1, rfl, rfl, rfl⟩ | ⟨h1, rfl, rfl, rfl⟩
    · exact itake_few X k hk h1
    · exact itake_ok X hB k hk (by omega)
  have hv2 : 0 ≤ v ∧ v < 32768 := by
    rcases hT with ⟨h1, rfl, _⟩ | ⟨h1, rfl, _⟩
    · omega
    · omega
  have hle1 : a1 ≤ L.length := by
    have := X.le
    rcases hT with ⟨h1, _, rfl, _⟩ | ⟨h1, _, rfl, _⟩ <;> omega
  have HT := Lib.hid hT
  have HTK := Lib.hid htk
  have hw1 : wrap64 ((2 : Int) ^ k + v) = 2 ^ k + v := by unfold wrap64; omega
  have hw2 : IntKind.i64.wrap ((2 : Int) ^ k + v) = 2 ^ k + v := IntWalk.i64_in _ (by omega)
  clear h hs hkq hpw X hT htk hvb
  go_enter Try.func149, Try.ntmps149
  go_wp2_with (go_at_call 122; refine (HPW.out _).mono ?_; rintro e w' ⟨rfl, rfl⟩)
  refine HTK.out.mono ?_; rintro e w2 ⟨rfl, x2, hf2⟩
  have f4 := x2.fz (i := 4) (by omega)
  have c4 := x2.c4
  obtain ⟨x3, hf3⟩ := x2.set (i := 4) (u := .int .i64 (2 ^ k + v)) (a' := a1) (bad' := b1) (en' := 2 ^ k + v) rfl hle1
  by_cases hgt : (left : Int) < 2 ^ k + v
  · have dg : decide ((left : Int) < 2 ^ k + v) = true := decide_eq_true hgt
    have HGT := Lib.hid hgt
    clear hgt
    go_wp2_with (go_at_call 133; refine (ifail_any x3).mono ?_; rintro e w4 ⟨rfl, x4, hf4⟩)
    go_ret
    refine ⟨rfl, a1, 2 ^ k + v, ?_⟩
    rcases HT.out with ⟨h1, rfl, rfl, rfl⟩ | ⟨h1, rfl, rfl, rfl⟩
    · rw [show rdE L left a1 k x = ([], 0, 0, 8) from if_pos h1]
      exact ⟨x4, (fun q => absurd q (by decide)), hf2.trans (hf3.trans hf4)⟩
    · have hr : rdE L left a k x = ([], 0, 0, 2) := by unfold rdE; rw [if_neg h1, if_pos HGT.out]
      rw [hr]
      exact ⟨x4, (fun q => absurd q (by decide)), hf2.trans (hf3.trans hf4)⟩
  · have dg : decide ((left : Int) < 2 ^ k + v) = false := decide_eq_false hgt
    have HGT := Lib.hid hgt
    clear hgt
    go_wp2
    go_ret
    refine ⟨rfl, a1, 2 ^ k + v, ?_⟩
    rcases HT.out with ⟨h1, rfl, rfl, rfl⟩ | ⟨h1, rfl, rfl, rfl⟩
    · rw [show rdE L left a1 k x = ([], 0, 0, 8) from if_pos h1]
      exact ⟨x3, (fun q => absurd q (by decide)), hf2.trans hf3⟩
    · have hr : rdE L left a k x = (x, a + k, (2 ^ k + hv ((L.drop a).take k)).toNat, 0) := by unfold rdE; rw [if_neg h1, if_neg (by have := HGT.out; omega)]
      rw [hr]
      exact ⟨x3, fun _ => ⟨rfl, by dsimp only; omega⟩, hf2.trans hf3⟩
/-- a known number's bit -/
def BetP (p : Nat) (v0 : Value) (A : Option Addr) (c : Nat) (L : List Int) (a : Nat) (en n l : Int) (w : World) (e : Ending) (w' : World) : Prop :=
  (L.length ≤ a → ∃ y : Int, e = .returned (.int .i64 y) ∧ Inn w' p v0 A c L a 8 en) ∧ (¬ L.length ≤ a → e = .returned (.int .i64 (bet n (L.getD a 0) l)) ∧ Inn w' p v0 A c L (a + 1) 0 en) ∧ Fp p w w'
set_option maxHeartbeats 8000000 in
theorem ibetter_any (X : Inn w p v0 A c L a 0 en) (hB : B01 L) (n : Int) (hn : -2000 ≤ n ∧ n ≤ 2000) (f t h : Int) (K : Nat) (hK : K ≤ 9) :
    Calls Try.prog 150 #[.pointer (some ⟨p, 0, none⟩), .int .i64 n, .agg #[.int .i64 f, .int .i64 t, .int .i64 h, .int .i64 (K : Nat)]] w (BetP p v0 A c L a en n (K : Nat) w) := by
  have hpK := two_int K (by omega)
  have hpw := fun W : World => power22_any K (by omega) W
  have HPW := Lib.hid hpw
  have XB := Box4.new w 33 (.int .i64 f) (.int .i64 t) (.int .i64 h) (.int .i64 (K : Nat))
  have hb0 : Below w.heap.size w (w.alloc (.cells #[.int .i64 f, .int .i64 t, .int .i64 h, .int .i64 (K : Nat)] 33)) := (Below.refl _ _).alloc (Nat.le_refl _) _
  have X0 := X.below hb0
  have hpl := X.lt
  have hf0 : Fp p w (w.alloc (.cells #[.int .i64 f, .int .i64 t, .int .i64 h, .int .i64 (K : Nat)] 33)) := Fp.of_below hb0
  obtain ⟨bt, a1, b1, hT⟩ : ∃ (v : Int) (a1 : Nat) (b1 : Int), (L.length ≤ a ∧ v = 0 ∧ a1 = a ∧ b1 = 8) ∨ (¬ L.length ≤ a ∧ v = L.getD a 0 ∧ a1 = a + 1 ∧ b1 = 0) := by
    by_cases hf : L.length ≤ a
    · exact ⟨0, a, 8, .inl ⟨hf, rfl, rfl, rfl⟩⟩
    · exact ⟨_, a + 1, 0, .inr ⟨hf, rfl, rfl, rfl⟩⟩
  have htk : ∀ W : World, Inn W p v0 A c L a 0 en → Calls Try.prog 131 #[.pointer (some ⟨p, 0, none⟩), .int .i64 1] W (InP p v0 A c L (.int .i64 bt) a1 b1 en W) := fun W hW => by
    rcases hT with ⟨h1, rfl, rfl, rfl⟩ | ⟨h1, rfl, rfl, rfl⟩
    · exact itake_few hW 1 (by omega) (by omega)
    · have h := itake_ok hW hB 1 (by omega) (by omega)
      have h2 : hv ((L.drop a).take 1) = L.getD a 0 := by
        have hlt : a < L.length := by omega
        rw [List.drop_eq_getElem_cons hlt, List.take_succ_cons, List.take_zero, List.getD_eq_getElem?_getD, List.getElem?_eq_getElem hlt]
        simp [hv]
      rw [h2] at h
      exact h
  have hv2 : bt = 0 ∨ bt = 1 := by
    rcases hT with ⟨h1, rfl, _⟩ | ⟨h1, rfl, _⟩
    · exact .inl rfl
    · have hlt : a < L.length := by omega
      rw [List.getD_eq_getElem?_getD, List.getElem?_eq_getElem hlt]
      exact hB _ (List.getElem_mem hlt)
  have hbp : 0 ≤ bt * 2 ^ K ∧ bt * 2 ^ K ≤ 1024 := by
    rcases hv2 with rfl | rfl
    · omega
    · omega
  have HT := Lib.hid hT
  have HTK := Lib.hid htk
  have hw1 : wrap64 (bt * (2 : Int) ^ K) = bt * 2 ^ K := by unfold wrap64; omega
  have hw2 : IntKind.i64.wrap (bt * (2 : Int) ^ K) = bt * 2 ^ K := IntWalk.i64_in _ (by omega)
  have hw3 : wrap64 (n + bt * (2 : Int) ^ K) = n + bt * 2 ^ K := by unfold wrap64; omega
  have hw4 : IntKind.i64.wrap (n + bt * (2 : Int) ^ K) = n + bt * 2 ^ K := IntWalk.i64_in _ (by omega)
  have hw5 : wrap64 (n - bt * (2 : Int) ^ K) = n - bt * 2 ^ K := by unfold wrap64; omega
  have hw6 : IntKind.i64.wrap (n - bt * (2 : Int) ^ K) = n - bt * 2 ^ K := IntWalk.i64_in _ (by omega)
  have hbet : ∀ y : Int, y = (if n < 0 then n - bt * 2 ^ K else n + bt * 2 ^ K) → ∀ (e : Ending) (w' : World), e = .returned (.int .i64 y) → Inn w' p v0 A c L a1 b1 en → Fp p w w' → BetP p v0 A c L a en n (K : Nat) w e w' := fun y hy e w' he hx hf => by
    refine ⟨fun h1 => ?_, fun h1 => ?_, hf⟩
    · rcases hT with ⟨_, rfl, rfl, rfl⟩ | ⟨h2, _⟩
      · exact ⟨y, he, hx⟩
      · exact absurd h1 h2
    · rcases hT with ⟨h2, _⟩ | ⟨_, rfl, rfl, rfl⟩
      · exact absurd h2 h1
      · refine ⟨?_, hx⟩
        rw [he, hy]
        unfold bet
        rw [Int.toNat_natCast]
  have HBE := Lib.hid hbet
  clear hpw X hT htk hbet hb0
  go_enter Try.func150, Try.ntmps150
  go_upto_region 1 with fail
  generalize w.alloc (.cells #[.int .i64 f, .int .i64 t, .int .i64 h, .int .i64 (K : Nat)] 33) = w0 at *
  go_wp2_with fail
  refine (HTK.out _ X0).mono ?_; rintro e w2 ⟨rfl, x2, hf2⟩
  have c3 : w2.cell? ⟨w.heap.size, 3, none⟩ = some (.int .i64 (K : Nat)) := (hf2.cell (p := ⟨w.heap.size, 3, none⟩) XB.lt (by show w.heap.size ≠ p; omega)).trans XB.c3
  have hfe := hf0.trans hf2
  clear XB X0 hf0 hf2
  by_cases hneg : n < 0
  · have dn : decide (n < 0) = true := decide_eq_true hneg
    have hy : n - bt * 2 ^ K = (if n < 0 then n - bt * 2 ^ K else n + bt * 2 ^ K) := (if_pos hneg).symm
    have HY := Lib.hid hy
    clear hneg hy
    go_wp2_with (go_at_call 122; refine (HPW.out _).mono ?_; rintro e w' ⟨rfl, rfl⟩)
    go_ret
    exact HBE.out _ HY.out _ _ rfl x2 hfe
  · have dn : decide (n < 0) = false := decide_eq_false hneg
    have hy : n + bt * 2 ^ K = (if n < 0 then n - bt * 2 ^ K else n + bt * 2 ^ K) := (if_neg hneg).symm
    have HY := Lib.hid hy
    clear hneg hy
    go_wp2_with (go_at_call 122; refine (HPW.out _).mono ?_; rintro e w' ⟨rfl, rfl⟩)
    go_ret
    exact HBE.out _ HY.out _ _ rfl x2 hfe
end
end Go.Proofs.Ytlhappecjjbopaa
