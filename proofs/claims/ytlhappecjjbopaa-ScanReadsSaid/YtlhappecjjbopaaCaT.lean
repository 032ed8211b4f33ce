/-
  What a book reads is what the document's codes read: reads, by a contract. Conditions: at most 1000 bytes.
-/
import Derived.Test.YtlhappecjjbopaaCaS
namespace Go.Proofs.Ytlhappecjjbopaa
open Go.RowKit
set_option linter.unusedVariables false
set_option maxRecDepth 100000

theorem Rd.drop {w : World} {B : Nat} {A : Option Addr} {xs : List Value} (h : Rd w B A xs) {b o : Nat} (hA : A = some ⟨b, o, none⟩) (k : Nat) : Rd w B (some ⟨b, o + k, none⟩) (xs.drop k) := by
  rcases h with h | ⟨b', o', hA', hb, hc⟩
  · subst h; exact .inl (by simp)
  · rw [hA] at hA'
    injection hA' with h1
    injection h1 with h1 h2
    subst h1 h2
    refine .inr ⟨b, o + k, rfl, hb, fun j u hu => ?_⟩
    rw [List.getElem?_drop] at hu
    have := hc _ _ hu
    rwa [show o + (k + j) = o + k + j by omega] at this
theorem iv_drop (l : List Int) (k : Nat) : iv (l.drop k) = (iv l).drop k := by simp [iv]
theorem num_E (n : Int) (hn : 0 ≤ n ∧ n ≤ 8) (w : World) : Calls Try.prog 87 #[errE n] w fun e w' => e = .returned (.int .i64 n) ∧ w = w' := by
  unfold errE
  split
  · rename_i h; subst h; exact num_nil w
  · exact num_err n (by omega) w
theorem RdS.bd {syms Z l : List Int} {s : Int} {n : Nat} {e : Int} (h : RdS syms Z l s n e) : n ≤ l.length ∧ (0 ≤ e ∧ e ≤ 8) ∧ (e = 0 ∨ e = 2 ∨ e = 8) := by
  rcases h with ⟨h0, h1, h2, h3⟩ | ⟨h0, k, hc, ⟨h1, h2, h3, h4⟩ | ⟨h1, ⟨i, hi, h2, h3, h4⟩ | ⟨_, _, h2, h3, h4⟩⟩⟩
  all_goals (subst_vars; omega)
/-- the list of bits that are left, as a slice -/
structure Lf (w : World) (rp : Nat) (L : List Int) (v : Value) : Prop where
  val : ∃ A c, v = .slice A L.length c ∧ L.length ≤ c ∧ c ≤ 9223372036854775807 ∧ Rd w w.heap.size A (iv L) ∧ ∀ a, A = some a → a.block ≠ rp
theorem Lf.fp {w w' : World} {rp : Nat} {L : List Int} {v : Value} (h : Lf w rp L v) (hf : Fp rp w w') : Lf w' rp L v := by
  obtain ⟨A, c, h1, h2, h3, h4, h5⟩ := h.val
  exact ⟨A, c, h1, h2, h3, (Fr.rd hf h4 (Nat.le_refl _) h5).more (Fr.size hf), h5⟩

theorem add_block (a : Addr) (k : Nat) : (a.add k).block = a.block := by unfold Addr.add; split <;> rfl
theorem Lf.cut {w : World} {rp : Nat} {L : List Int} {A : Option Addr} {c : Nat} (hc : L.length ≤ c) (hm : c ≤ 9223372036854775807) (hR : Rd w w.heap.size A (iv L)) (hne : ∀ a, A = some a → a.block ≠ rp) (k : Nat) (hk : k ≤ L.length) :
    Lf w rp (L.drop k) (.slice (if c = k then A else Option.map (fun x => x.add k) A) (L.length - k) (c - k)) := by
  refine ⟨_, _, by rw [List.length_drop], by rw [List.length_drop]; omega, by omega, ?_, ?_⟩
  · split
    · refine .inl ?_
      rw [List.drop_of_length_le (by omega)]; rfl
    · rcases A with _ | a
      · rcases hR with h | ⟨b, o, hA, _⟩
        · refine .inl ?_
          rw [iv_drop, h, List.drop_nil]
        · cases hA
      · have hR0 := hR
        rcases hR with h | ⟨b, o, hA, _⟩
        · refine .inl ?_
          rw [iv_drop, h, List.drop_nil]
        · injection hA with hA
          subst hA
          rw [iv_drop]
          show Rd _ _ (some ((⟨b, o, none⟩ : Addr).add k)) _
          rw [add_flat]
          exact hR0.drop rfl k
  · intro a ha
    split at ha
    · exact hne a ha
    · rcases A with _ | a0
      · cases ha
      · injection ha with ha
        rw [← ha]
        show (a0.add k).block ≠ rp
        rw [add_block]
        exact hne a0 rfl

def ReadsP (w : World) (e : Ending) (w' : World) : Prop := e = .returned (.bool true) ∧ Below w.heap.size w w'

def InvR (rp : Nat) (h : Bool) (Ar : Option Addr) (cr : Nat) (bs : List Int) (T : Nat) (w2 : World) (lv i : Value) (wr : World) : Prop :=
  ∃ j m : Nat, j ≤ T ∧ i = .int .i64 j ∧ m ≤ 8 * bs.length ∧ Re wr rp h Ar cr bs m ∧ Lf wr rp ((bitsOf h bs).drop m) lv ∧ Fp rp w2 wr
set_option maxHeartbeats 4000000 in
theorem reads_any {ls : List Int} {O : List Nat} {C : List Int} {w : World} {B K p n c n2 c2 : Nat} {A A2 : Option Addr} {h : Bool} {bs : List Int} (times : Int) (hK : BkS w B p ls O C) (ho : Ordd ls O C) (hS : Cs w K A (sy O) (sz ls O)) (hn : O.length = n)
    (hn2 : bs.length = n2) (hR2 : Rd w w.heap.size A2 (bv bs)) (hbs : Bs bs) (hm2 : n2 ≤ 1000) :
    Calls Try.prog 60 #[.pointer (some ⟨p, 0, none⟩), .slice A n c, .slice A2 n2 c2, .bool h, .int .i64 times] w (ReadsP w) := by
  have HN := Lib.hid hn
  have HN2 := Lib.hid hn2
  have HO := Lib.hid ho
  have hO512 := ho.len
  rw [hn] at hO512
  clear hn hn2 ho
  go_enter Try.func60, Try.ntmps60
  go_wp2_with fail
  refine (newReader_any A2 n2 c2 h bs w HN2.out hR2 hbs (by omega)).mono ?_; rintro e w1 ⟨rp, Ar, cr, rfl, hx1, hrp, hAr, hb1⟩
  have hs1 := hb1.size
  have hrl := hx1.lt
  go_wp2_with fail
  refine (rbits_any A2 n2 c2 bs h w1 HN2.out ((hR2.below hb1).more hs1) hbs (by omega)).mono ?_; rintro e w2 ⟨v, rfl, hov, hb2⟩
  have hL0 : Lf w2 rp ((bitsOf h bs).drop 0) v := by
    obtain ⟨Av, cv, hv, hcv, hmv, hRv⟩ := own_sliceN hov
    rw [List.drop_zero]
    refine ⟨Av, cv, by rw [bitsOf_len, HN2.out]; exact hv, by rw [bitsOf_len, HN2.out]; exact hcv, hmv, hRv, fun a ha e => ?_⟩
    have := hov.lt a.block (by rw [hv, ha]; rfl)
    omega
  have hx2 := hx1.below hb2
  have hbw2 := hb1.trans (hb2.mono hs1)
  clear hov hb1 hb2 hR2 hx1
  have hs2 := hbw2.size
  go_wp2
  obtain ⟨T, hT, hT20⟩ : ∃ T : Nat, wrap64 (1 + wrap64 ((IntKind.u64.wrap times).tmod 20)) = (T : Int) ∧ T ≤ 20 := by
    have h1 : 0 ≤ IntKind.u64.wrap times := by simp only [IntKind.wrap, IntKind.signed, IntKind.bits]; exact Int.emod_nonneg _ (by decide)
    rw [Int.tmod_eq_emod_of_nonneg h1]
    have h2 := Int.emod_nonneg (IntKind.u64.wrap times) (show (20 : Int) ≠ 0 by decide)
    have h3 := Int.emod_lt_of_pos (IntKind.u64.wrap times) (show (0 : Int) < 20 by decide)
    generalize IntKind.u64.wrap times % 20 = z at *
    rw [IntWalk.wrap64_in z ⟨by omega, by omega⟩, IntWalk.wrap64_in (1 + z) ⟨by omega, by omega⟩]
    exact ⟨(1 + z).toNat, by omega, by omega⟩
  rw [hT]
  clear hT
  have hbl : (bitsOf h bs).length = 8 * n2 := by rw [bitsOf_len, HN2.out]
  have HBL := Lib.hid hbl
  clear hbl
  go_loopw [12, 29] (InvR rp h Ar cr bs T w2) (fun _ i _ => T - (intOf i).toNat)
  case atStart => exact ⟨0, 0, by omega, rfl, by omega, hx2, hL0, Fp.refl _ _⟩
  case round =>
    obtain ⟨j, m, hj, rfl, hmb, hx, hL, hf⟩ := hrel
    rw [HN2.out] at hmb
    clear hx2 hL0
    by_cases hlt : j < T
    · have hbw := hbw2.trans (hf.below hrp (Nat.le_trans hbw2.size (Nat.le_refl _)))
      have hKr := hK.keep (hbw.mono hK.size)
      go_wp2_with fail
      refine (read_any hKr HO.out (Nat.le_trans hK.size hrp) hx (by rw [HN2.out]; omega)).mono ?_; rintro e w3 ⟨sym, k, err, hR, rfl, hx3, hf3⟩
      have HR := Lib.hid hR
      have hkl := hR.bd
      rw [List.length_drop, HBL.out] at hkl
      clear hR
      obtain ⟨hk1, herr, herr2⟩ := hkl
      have hf3' := hf.trans hf3
      have hL3 := hL.fp hf3
      obtain ⟨A3, c3, rfl, hc3, hm3, hR3, hne3⟩ := hL3.val
      have hbw3 := hbw2.trans (hf3'.below hrp hbw2.size)
      have hl3 : ((bitsOf h bs).drop m).length = 8 * n2 - m := by rw [List.length_drop, HBL.out]
      rw [hl3] at hc3 ⊢
      have HL3 := Lib.hid hl3
      clear hx hL hl3 hL3
      go_wp2_with fail
      refine (refread_any A A3 n c (8 * n2 - m) c3 K (sy O) (sz ls O) ((bitsOf h bs).drop m) w3 (by rw [sz_len]; exact HN.out) HL3.out (hS.keep (hbw3.mono hS.size)) hR3 HO.out.zs ((bitsOf_01 h bs).drop m) (by omega) (by omega)).mono ?_; rintro e w4 ⟨sym', k', err', hR', rfl, hb4⟩
      obtain ⟨rfl, rfl, rfl⟩ := RdS.uniq HO.out.zs ((bitsOf_01 h bs).drop m) HR.out hR'
      clear hR'
      have hx4 := hx3.below hb4
      have hf4 := hf3'.trans (Fp.of_below hb4)
      have hR4 := (hR3.below hb4).more hb4.size
      have hN := fun W => num_E err (by omega) W
      have hLf := fun W (x : Re W rp h Ar cr bs (m + k)) => left_any x (by rw [HN2.out]; omega)
      rw [HN2.out] at hLf
      clear hx3 hR3 hf3 hf3'
      go_wp2_with (first | (go_at_call 87; refine (hN _).mono ?_; rintro e w' ⟨rfl, rfl⟩) | (go_at_call 109; refine (hLf _ hx4).mono ?_; rintro e w5 ⟨rfl, hb5⟩))
      go_roundw
      case rel =>
        have hx5 := hx4.below hb5
        have hcut := Lf.cut (k := k) (by rw [HL3.out]; exact hc3) hm3 ((hR4.below hb5).more hb5.size) hne3 (by rw [HL3.out]; exact hk1)
        rw [HL3.out, List.drop_drop] at hcut
        exact ⟨j + 1, m + k, by omega, by go_num, by rw [HN2.out]; omega, hx5, hcut, hf4.trans (Fp.of_below hb5)⟩
      case measure => simp [intOf]; omega
    · go_wp2
      go_ret
      exact ⟨rfl, hbw2.trans (hf.below hrp hbw2.size)⟩
end Go.Proofs.Ytlhappecjjbopaa
