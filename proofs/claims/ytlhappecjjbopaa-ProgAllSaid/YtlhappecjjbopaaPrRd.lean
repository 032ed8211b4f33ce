/-
  Prog: the program's reading over known places, by a contract. Conditions: at most 68719476736 bytes.
-/
import Derived.Test.YtlhappecjjbopaaPrRc
namespace Go.Proofs.Ytlhappecjjbopaa
open Go.RowKit
set_option linter.unusedVariables false
set_option maxRecDepth 100000
section
variable {ls : List Int} {O : List Nat} {C : List Int} {w : World} {B p1 rp : Nat} {A : Option Addr} {c m : Nat} {Bs : List Int} {wp F T K left en gz n cz : Nat} {h : Int}
def PpassP (rp : Nat) (A : Option Addr) (c : Nat) (Bs : List Int) (B2 g cg N : Nat) (L : List (List Int)) (i : Nat) (R : List Int × Nat × Nat × Int) (w : World) (e : Ending) (w' : World) : Prop :=
  e = .returned (.tuple #[.int .i64 (if R.2.2.2 = 0 then ((R.2.1 : Nat) : Int) else 0), errE R.2.2.2]) ∧ (∃ (y : List Int) (m' : Nat), y.length = 64 ∧ Gro w' B2 g cg N (L.set i y) ∧ Re w' rp true A c Bs m' ∧ (R.2.2.2 = 0 → y = R.1 ∧ m' = R.2.2.1)) ∧ Fr (fun b => b = rp ∨ b = g) w w'
def PpR (rp : Nat) (A : Option Addr) (c : Nat) (Bs : List Int) (B2 g cg N : Nat) (L : List (List Int)) (i F n K k0 : Nat) (R : List Int × Nat × Nat × Int) (w : World) (kv nv : Value) (wr : World) : Prop :=
  ∃ (k z a : Nat) (y : List Int), k0 ≤ k ∧ k ≤ n ∧ z ≤ 1000 ∧ kv = .int .i64 (k : Nat) ∧ nv = .int .i64 (z : Nat) ∧ y.length = 64 ∧ Gro wr B2 g cg N (L.set i y) ∧ Re wr rp true A c Bs a ∧ rdP (bitsOf true Bs) F n (K : Nat) k a z y = R ∧ (∀ j, k ≤ j → j < n → -2000 ≤ y.getD (zzN (F + j)) 0 ∧ y.getD (zzN (F + j)) 0 ≤ 2000) ∧ Fr (fun b => b = rp ∨ b = g) w wr
set_option maxHeartbeats 16000000 in
theorem ppass_any {B2 g cg N : Nat} {L : List (List Int)} (x : Re w rp true A c Bs m) (hm : Bs.length ≤ 68719476736) (X : Wk w wp F T h K p1 rp left en gz n cz) (hwr : wp ≠ rp) (hzr : gz ≠ rp) (G : Gro w B2 g cg N L) (hgr : g ≠ rp) (hgw : g ≠ wp) (hgz : g ≠ gz) (hAg : ∀ q, A = some q → q.block ≠ g)
    {i : Nat} {y : List Int} (hy : L[i]? = some y) (k z : Nat) (hk : k ≤ n) (hz : z ≤ 1000) (hb : ∀ j, k ≤ j → j < n → -2000 ≤ y.getD (zzN (F + j)) 0 ∧ y.getD (zzN (F + j)) 0 ≤ 2000) {R : List Int × Nat × Nat × Int} (hR : rdP (bitsOf true Bs) F n (K : Nat) k m z y = R) :
    Calls Try.prog 152 #[.pointer (some ⟨wp, 0, none⟩), .pointer (some ⟨g, i * 64, none⟩), .int .i64 (k : Nat), .int .i64 (z : Nat)] w (PpassP rp A c Bs B2 g cg N L i R w) := by
  have hil : i < L.length := (List.getElem?_eq_some_iff.1 hy).1
  have hy64 : y.length = 64 := G.b64 y (List.mem_of_getElem? hy)
  have hLs : L.set i y = L := by
    refine List.ext_getElem? fun q => ?_
    rw [List.getElem?_set]
    split
    · rename_i e; subst e; rw [hy]
    · rfl
  have hG0 : Gro w B2 g cg N (L.set i y) := by rw [hLs]; exact G
  have HX := Lib.hid X
  have hfn := X.fn
  have HB := Lib.hid hb
  have HR := Lib.hid hR
  have HG := Lib.hid hG0
  have HIL := Lib.hid hil
  have HY := Lib.hid hy64
  have HX0 := Lib.hid x
  clear hLs hy X hb hR hG0 hil hy64 x
  go_enter Try.func152, Try.ntmps152
  go_wp2_with fail
  go_loopw [2, 3] (PpR rp A c Bs B2 g cg N L i F n K k R w) (fun kv _ _ => n - (intOf kv).toNat)
  case atStart => exact ⟨k, z, m, y, Nat.le_refl _, hk, hz, rfl, rfl, HY.out, HG.out, HX0.out, HR.out, HB.out, Fr.refl _ _⟩
  case round =>
    obtain ⟨k2, z2, a, y2, hk0, hk2, hz2, rfl, rfl, hy2, G2, x2, hR2, hb2, hf2⟩ := hrel
    obtain ⟨wi, rfl⟩ : ∃ wi : World, wi = wr := ⟨_, rfl⟩
    have X2 := HX.out.keep hf2 (fun e => e.elim hwr (fun e => hgw e.symm)) (fun e => e.elim hzr (fun e => hgz e.symm))
    have c8 := X2.c8
    by_cases hlt : k2 < n
    · have dl : decide (k2 < n) = true := decide_eq_true hlt
      have hzb := (zzN_bd (F + k2) (by omega)).1
      have cz2 := X2.z k2 hlt
      have hbv := hb2 k2 (Nat.le_refl _) hlt
      have hset : (L.set i y2)[i]? = some y2 := by rw [List.getElem?_set_self HIL.out]
      have hon := @rdP_on (bitsOf true Bs) F n k2 a z2 (K : Int) y2 hlt
      have hfew := @rdP_few (bitsOf true Bs) F n k2 a z2 (K : Int) y2 hlt
      have hstop := @rdP_stop (bitsOf true Bs) F n k2 a z2 (K : Int) y2 hlt
      have hzero := @rdP_zero (bitsOf true Bs) F n k2 a z2 (K : Int) y2 hlt
      rw [hR2] at hon hfew hstop hzero
      have hkeepb : ∀ u j, k2 + 1 ≤ j → j < n → -2000 ≤ (y2.set (zzN (F + k2)) u).getD (zzN (F + j)) 0 ∧ (y2.set (zzN (F + k2)) u).getD (zzN (F + j)) 0 ≤ 2000 := fun u j h1 h2 => by
        rw [getD_set_ne _ (zz_ne (i := j) (j := k2) (by omega) (by omega) (by omega))]
        exact hb2 j (by omega) h2
      obtain ⟨zz, hzz⟩ : ∃ q, q = zzN (F + k2) := ⟨_, rfl⟩
      rw [← hzz] at hzb cz2 hbv hon hfew hstop hzero hkeepb
      have cg2 := G2.cell hset hzb
      have x2d := x2.drewN 12
      have HON := Lib.hid hon
      have HFEW := Lib.hid hfew
      have HSTOP := Lib.hid hstop
      have HZERO := Lib.hid hzero
      have HKB := Lib.hid hkeepb
      have HB2 := Lib.hid hb2
      have HX2 := Lib.hid (And.intro X2 (And.intro x2 (And.intro G2 hf2)))
      have hz0 : (0 : Int) ≤ (zz : Int) := by omega
      have hz1 : (zz : Int) < 64 := by omega
      clear hon hfew hstop hzero hkeepb hb2 X2 x2 G2 hf2 x2d hzz hR2
      go_upto_region 3 with fail
      go_quiet (fail)
      have X3 := HX2.out.1.drewN nq
      have x3 := HX2.out.2.1.drewN nq
      have G3 := HX2.out.2.2.1.drewN nq
      have f3 := HX2.out.2.2.2.drewN nq
      clear cz2 c8 cg2
      generalize wi.drewN nq = w3 at *
      have cg3 := G3.cell hset hzb
      obtain ⟨v, hv⟩ : ∃ v, v = y2.getD zz 0 := ⟨_, rfl⟩
      rw [← hv] at cg3
      by_cases h0 : v = 0
      · have d0 : (v != 0) = false := by simp; exact h0
        by_cases hz0 : z2 = 0
        · have dz : ((z2 : Int) == 0) = true := by simp; exact hz0
          have hR3 := HSTOP.out (by rw [← hv]; exact h0) hz0
          have HR3 := Lib.hid hR3
          clear hR3 h0 hv hz0
          go_wp2
          go_ret2
          rw [HR3.out]
          exact ⟨rfl, ⟨y2, a, hy2, G3, x3, fun _ => ⟨rfl, rfl⟩⟩, f3⟩
        · have dz : ((z2 : Int) == 0) = false := by simp; exact hz0
          have hR3 := HZERO.out (by rw [← hv]; exact h0) hz0
          have HR3 := Lib.hid hR3
          have hz1 : 1 ≤ z2 := by omega
          clear hR3 h0 hv hz0
          go_wp2_with fail
          go_roundw
          case rel => exact ⟨k2 + 1, z2 - 1, a, y2, by omega, by omega, by omega, by go_num, by go_num, hy2, G3, x3, HR3.out.symm, fun j h1 h2 => HB2.out j (by omega) h2, f3⟩
          case measure => simp [intOf]; omega
      · have d0 : (v != 0) = true := by simp; exact h0
        have hbc := pbetter_any x3 hm X3 hwr G3 hgr hgw hAg hset hzb hbv
        have HBC := Lib.hid hbc
        clear hbc hbv
        by_cases hf : 8 * Bs.length ≤ a
        · have hR3 := HFEW.out (by rw [← hv]; exact h0) (by rw [bitsOf_len]; exact hf)
          have HR3 := Lib.hid hR3
          have HF := Lib.hid hf
          have hne8 : errE 8 = errV 8 := errE_ne2 (by decide)
          have HN8 := Lib.hid hne8
          clear hR3 h0 hv hf hne8
          go_wp2_with (go_at_call 154; refine HBC.out.mono ?_; rintro e4 w4 ⟨h41, _, hf4⟩; obtain ⟨rfl, x4, G4⟩ := h41 HF.out; rw [HN8.out]; unfold errV)
          go_ret2
          rw [HR3.out]
          exact ⟨by dsimp only; rw [HN8.out]; rfl, ⟨y2, a, hy2, G4, x4, fun q => absurd (show (8 : Int) = 0 from q) (by decide)⟩, f3.trans hf4⟩
        · have hR3 := HON.out (by rw [← hv]; exact h0) (by rw [bitsOf_len]; exact hf)
          have HR3 := Lib.hid hR3
          have HF := Lib.hid hf
          clear hR3 h0 hv hf
          go_wp2_with (go_at_call 154; refine HBC.out.mono ?_; rintro e4 w4 ⟨_, h41, hf4⟩; obtain ⟨rfl, x4, G4⟩ := h41 HF.out; rw [errE_nil2])
          rw [List.set_set] at G4
          go_roundw
          case rel => exact ⟨k2 + 1, z2, a + 1, _, by omega, by omega, by omega, by go_num, rfl, by rw [List.length_set]; exact hy2, G4, x4, HR3.out.symm, fun j h1 h2 => HKB.out _ j h1 h2, f3.trans hf4⟩
          case measure => simp [intOf]; omega
    · have dl : decide (k2 < n) = false := decide_eq_false hlt
      have hR3 : R = (y2, k2, a, 0) := by rw [← hR2, rdP_out hlt]
      have HR3 := Lib.hid hR3
      clear hR3 hR2
      go_wp2
      go_ret2
      rw [HR3.out]
      exact ⟨rfl, ⟨y2, a, hy2, G2, x2, fun _ => ⟨rfl, rfl⟩⟩, hf2⟩
end
end Go.Proofs.Ytlhappecjjbopaa
