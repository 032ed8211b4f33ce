/-
  Prog: the program's reading of a block of a first band, by a contract. Conditions: symbols below 256, at most 68719476736 bytes, at most 1000 blocks.
-/
import Derived.Test.YtlhappecjjbopaaPrRd
namespace Go.Proofs.Ytlhappecjjbopaa
open Go.RowKit
set_option linter.unusedVariables false
set_option maxRecDepth 100000
/-- the program's blocks of memory, apart -/
structure PEnv (B wp rp g gz : Nat) (A : Option Addr) : Prop where
  wr : wp ≠ rp
  zw : gz ≠ wp
  zr : gz ≠ rp
  gr : g ≠ rp
  gw : g ≠ wp
  gz : g ≠ gz
  Aw : ∀ q, A = some q → q.block ≠ wp
  Ag : ∀ q, A = some q → q.block ≠ g
  Bw : B ≤ wp
  Br : B ≤ rp
  Bg : B ≤ g
section
variable {ls : List Int} {O : List Nat} {C : List Int} {w : World} {B p1 rp : Nat} {A : Option Addr} {c m : Nat} {Bs : List Int} {wp F T K left en gz n cz : Nat} {h : Int} {B2 g cg N : Nat} {L : List (List Int)} {i : Nat}
/-- a block of the program -/
def PblkP (wp F T : Nat) (h : Int) (K p1 rp left gz n cz : Nat) (A : Option Addr) (c : Nat) (Bs : List Int) (B2 g cg N : Nat) (L : List (List Int)) (i : Nat) (R : List Int × Nat × Nat × Int) (w : World) (e : Ending) (w' : World) : Prop :=
  e = .returned (errE R.2.2.2) ∧ (∃ (y : List Int) (m' en' : Nat), y.length = 64 ∧ Gro w' B2 g cg N (L.set i y) ∧ Re w' rp true A c Bs m' ∧ Wk w' wp F T h K p1 rp left en' gz n cz ∧ (R.2.2.2 = 0 → y = R.1 ∧ m' = R.2.1 ∧ en' = R.2.2.1)) ∧ Fr (fun b => b = wp ∨ b = rp ∨ b = g) w w'
def PzR (B2 g cg N : Nat) (L : List (List Int)) (i F n : Nat) (y : List Int) (w : World) (kv : Value) (wr : World) : Prop :=
  ∃ k : Nat, k ≤ n ∧ kv = .int .i64 (k : Nat) ∧ Gro wr B2 g cg N (L.set i (zrN y F k)) ∧ Fr (fun b => b = g) w wr
def PfR (S Z : List Int) (wp F T : Nat) (h : Int) (K p1 rp left gz n cz : Nat) (A : Option Addr) (c : Nat) (Bs : List Int) (B2 g cg N : Nat) (L : List (List Int)) (i en : Nat) (R : List Int × Nat × Nat × Int) (w : World) (kv : Value) (wr : World) : Prop :=
  ∃ (k a : Nat) (y : List Int), k ≤ n ∧ kv = .int .i64 (k : Nat) ∧ y.length = 64 ∧ Gro wr B2 g cg N (L.set i y) ∧ Re wr rp true A c Bs a ∧ Wk wr wp F T h K p1 rp left en gz n cz ∧ (0 < en → R = (y, a, en, 0)) ∧ (en = 0 → rdA S Z (bitsOf true Bs) left F n (K : Nat) k a y = R) ∧ Fr (fun b => b = wp ∨ b = rp ∨ b = g) w wr
theorem set_here {L : List (List Int)} {i : Nat} {y : List Int} (hy : L[i]? = some y) : L.set i y = L := by
  refine List.ext_getElem? fun q => ?_
  rw [List.getElem?_set]
  split
  · rename_i e; subst e; rw [hy]
    rw [if_pos (List.getElem?_eq_some_iff.1 hy).1]
  · rfl
set_option maxHeartbeats 32000000 in
theorem pfirst_any (E : PEnv B wp rp g gz A) (hK : BkS w B p1 ls O C) (ho : Ordd ls O C) (hSy : ∀ x ∈ sy O, 0 ≤ x ∧ x ≤ 255) (x : Re w rp true A c Bs m) (hm : Bs.length ≤ 68719476736) (X : Wk w wp F T h K p1 rp left en gz n cz) (hl : left ≤ 1000) (G : Gro w B2 g cg N L)
    {y : List Int} (hy : L[i]? = some y) {R : List Int × Nat × Nat × Int} (hR : (if 0 < en then (zrN y F n, m, en, 0) else rdA (sy O) (sz ls O) (bitsOf true Bs) left F n (K : Nat) 0 m (zrN y F n)) = R) :
    Calls Try.prog 135 #[.pointer (some ⟨wp, 0, none⟩), .pointer (some ⟨g, i * 64, none⟩)] w (PblkP wp F T h K p1 rp left gz n cz A c Bs B2 g cg N L i R w) := by
  have hil : i < L.length := (List.getElem?_eq_some_iff.1 hy).1
  have hy64 : y.length = 64 := G.b64 y (List.mem_of_getElem? hy)
  have hG0 : Gro w B2 g cg N (L.set i (zrN y F 0)) := by rw [show zrN y F 0 = y from rfl, set_here hy]; exact G
  have hfn := X.fn
  have c8 := X.c8
  have hBB := hK.size
  have HE := Lib.hid E
  have HX := Lib.hid (And.intro X x)
  have HK := Lib.hid hK
  have HK0 := Lib.hid hK
  have HR := Lib.hid hR
  have HG := Lib.hid hG0
  have HIL := Lib.hid hil
  have HY := Lib.hid hy64
  clear hy X hR hG0 hil hy64 x hK E
  go_enter Try.func135, Try.ntmps135
  go_wp2_with fail
  go_loopw [19] (PzR B2 g cg N L i F n y w) (fun kv _ => n - (intOf kv).toNat)
  case atStart => exact ⟨0, Nat.zero_le _, rfl, HG.out, Fr.refl _ _⟩
  case round =>
    obtain ⟨k, hk, rfl, G2, hf2⟩ := hrel
    obtain ⟨wi, rfl⟩ : ∃ wi : World, wi = wr := ⟨_, rfl⟩
    have X2 := HX.out.1.keep hf2 (fun e => HE.out.gw e.symm) (fun e => HE.out.gz e.symm)
    by_cases hlt : k < n
    · have dl : decide (k < n) = true := decide_eq_true hlt
      have hzb := (zzN_bd (F + k) (by omega)).1
      have cz2 := X2.z k hlt
      have hset : (L.set i (zrN y F k))[i]? = some (zrN y F k) := by rw [List.getElem?_set_self HIL.out]
      have G3 := G2.set hset hzb 0
      rw [List.set_set, show (zrN y F k).set (zzN (F + k)) 0 = zrN y F (k + 1) from rfl] at G3
      have hf3 := hf2.setCell (p := ⟨g, i * 64 + zzN (F + k), none⟩) (.inl rfl) (.int .i64 0)
      have cg2 := G2.cell hset hzb
      have fg2 := G2.fz (i * 64 + zzN (F + k))
      have HX3 := Lib.hid (And.intro G3 hf3)
      obtain ⟨zz, hzz⟩ : ∃ q, q = zzN (F + k) := ⟨_, rfl⟩
      rw [← hzz] at cz2 cg2 fg2 HX3 hzb
      have hz0 : (0 : Int) ≤ (zz : Int) := by omega
      have hz1 : (zz : Int) < 64 := by omega
      have hi0 : (k : Int) < (n : Int) := by omega
      clear hset G3 hf3 hzz hf2 G2 X2 c8
      go_wp2_with fail
      go_roundw
      case rel => exact ⟨k + 1, by omega, by go_num, HX3.out.1, HX3.out.2⟩
      case measure => simp [intOf]; omega
    · have dl : decide (k < n) = false := decide_eq_false hlt
      obtain rfl : k = n := by omega
      clear hk hlt c8
      have hbk := hf2.below (B := B) (fun q hq e => by have := HE.out.Bg; omega) hBB
      have hKi := HK.out.keep hbk
      have xi := HX.out.2.keep hf2 (fun e => HE.out.gr e.symm) (fun q hq e => HE.out.Ag q hq e)
      have hy2 : (zrN y F k).length = 64 := by rw [zrN_len]; exact HY.out
      have hfi : Fr (fun b => b = wp ∨ b = rp ∨ b = g) w wi := hf2.mono (fun b hb => .inr (.inr hb))
      have hRe : 0 < en → R = (zrN y F k, m, en, 0) := fun q => by rw [← HR.out, if_pos q]
      have hRa : en = 0 → rdA (sy O) (sz ls O) (bitsOf true Bs) left F k (K : Nat) 0 m (zrN y F k) = R := fun q => by rw [← HR.out, if_neg (by omega)]
      have HH := Lib.hid (And.intro hKi (And.intro xi (And.intro hy2 (And.intro hfi (And.intro hRe (And.intro hRa (And.intro X2 G2)))))))
      clear hKi xi hy2 hfi hRe hRa X2 hbk G2 hf2 HR HX HG HK
      go_wp2_with fail
      go_loopw [7] (PfR (sy O) (sz ls O) wp F T h K p1 rp left gz k cz A c Bs B2 g cg N L i en R w) (fun kv _ => k - (intOf kv).toNat)
      case atStart => exact ⟨0, m, zrN y F k, Nat.zero_le _, rfl, HH.out.2.2.1, HH.out.2.2.2.2.2.2.2, HH.out.2.1, HH.out.2.2.2.2.2.2.1, HH.out.2.2.2.2.1, HH.out.2.2.2.2.2.1, HH.out.2.2.2.1⟩
      case round =>
        obtain ⟨k2, a, y2, hk2, rfl, hy2, G2, x2, X2, hRe, hRa, hf2⟩ := hrel
        have hbk2 := hf2.below (B := B) (fun q hq e => by have := HE.out.Bg; have := HE.out.Bw; have := HE.out.Br; rcases e with e | e | e <;> omega) HK0.out.size
        obtain ⟨wj, rfl⟩ : ∃ wj : World, wj = wr := ⟨_, rfl⟩
        have c8 := X2.c8
        have c7 := X2.c7
        have HHH := Lib.hid HH.out
        clear HH HHH
        by_cases hlt : k2 < k
        · have dl : decide (k2 < k) = true := decide_eq_true hlt
          by_cases hen : en = 0
          · subst hen
            have hrd := hRa rfl
            obtain ⟨⟨sv, q, er⟩, hF⟩ : ∃ r, rdF (sy O) (sz ls O) ((bitsOf true Bs).drop a) = r := ⟨_, rfl⟩
            have hsb := rdF_255 (Z := sz ls O) hSy ((bitsOf true Bs).drop a)
            rw [hF] at hsb
            dsimp only at hsb
            obtain ⟨s, rfl⟩ := Int.eq_ofNat_of_zero_le hsb.1
            have hs255 : s ≤ 255 := by omega
            have hsy := psym_any (HK0.out.keep hbk2) ho HE.out.Br x2 hm X2 HE.out.wr HE.out.zw HE.out.zr HE.out.Aw hl 10 (by omega) hs255 hF y2
            have HSY := Lib.hid hsy
            have HF := Lib.hid hF
            have HRD := Lib.hid hrd
            have HG2 := Lib.hid (And.intro G2 (And.intro hy2 hf2))
            clear hsy hF hrd hRe hRa x2 X2 G2 hy2 hf2 hsb hbk2
            by_cases he : er = 0
            · subst he
              by_cases hend : s % 16 = 0 ∧ s ≠ 240
              · have hR2 := rdA_end (left := left) (f := F) (l := (K : Int)) (x := y2) hlt HF.out hend
                rw [HRD.out] at hR2
                have HR2 := Lib.hid hR2
                have HEND := Lib.hid hend
                clear hR2 hend
                by_cases hre : R.2.2.2 = 0
                · have HRE := Lib.hid hre
                  clear hre
                  go_wp2_with (go_at_call 151; refine HSY.out.mono ?_; rintro e4 w4 hq4; obtain ⟨rfl, ⟨m4, en4, x4, X4, hn4⟩, hf4⟩ := (hq4.2 rfl).1 HEND.out; rw [← HR2.out] at hn4 ⊢; rw [HRE.out, errE_nil2, decide_eq_true rfl])
                  go_ret
                  refine ⟨by rw [HRE.out]; rfl, ⟨y2, m4, en4, HG2.out.2.1, HG2.out.1.keep hf4 (fun e => e.elim HE.out.gw HE.out.gr), x4, X4, fun _ => ⟨?_, hn4 HRE.out⟩⟩, HG2.out.2.2.trans (hf4.mono (fun b hb => hb.elim .inl (fun e => .inr (.inl e))))⟩
                  have h12 := HR2.out
                  have h9 := HRE.out
                  unfold rdE at h12
                  split at h12
                  · rw [h12] at h9; exact absurd h9 (by decide)
                  · split at h12
                    · rw [h12] at h9; exact absurd h9 (by decide)
                    · rw [h12]
                · have HRE := Lib.hid hre
                  have hne2 := errE_ne2 hre
                  have HNE := Lib.hid hne2
                  clear hre hne2
                  go_wp2_with (go_at_call 151; refine HSY.out.mono ?_; rintro e4 w4 hq4; obtain ⟨rfl, ⟨m4, en4, x4, X4, hn4⟩, hf4⟩ := (hq4.2 rfl).1 HEND.out; rw [← HR2.out] at hn4 ⊢; rw [HNE.out]; unfold errV)
                  go_ret
                  exact ⟨by rw [HNE.out]; rfl, ⟨y2, m4, en4, HG2.out.2.1, HG2.out.1.keep hf4 (fun e => e.elim HE.out.gw HE.out.gr), x4, X4, fun h9 => absurd h9 HRE.out⟩, HG2.out.2.2.trans (hf4.mono (fun b hb => hb.elim .inl (fun e => .inr (.inl e))))⟩
              · obtain ⟨sz, hsz⟩ : ∃ z, z = s % 16 := ⟨_, rfl⟩
                obtain ⟨nz, hnz⟩ : ∃ z, z = s / 16 := ⟨_, rfl⟩
                have HSZ := Lib.hid hsz
                have HNZ := Lib.hid hnz
                have HEND := Lib.hid hend
                by_cases h10 : 10 < sz
                · have hR2 : R = ([], 0, 0, 2) := by rw [← HRD.out, rdA_mal hlt HF.out hend (by omega)]
                  have HR2 := Lib.hid hR2
                  have hne2 : errE 2 = errV 2 := errE_ne2 (by decide)
                  have HNE := Lib.hid hne2
                  have H10 := Lib.hid h10
                  clear hR2 hend hsz hnz h10 hne2
                  go_wp2_with (go_at_call 151; refine HSY.out.mono ?_; rintro e4 w4 hq4; obtain ⟨rfl, ⟨m4, en4, x4, X4, _⟩, hf4⟩ := ((hq4.2 rfl).2 HEND.out).1 (by rw [← HSZ.out]; exact H10.out); rw [HNE.out]; unfold errV)
                  go_ret
                  exact ⟨by rw [HR2.out]; dsimp only; rw [HNE.out]; rfl, ⟨y2, m4, en4, HG2.out.2.1, HG2.out.1.keep hf4 (fun e => e.elim HE.out.gw HE.out.gr), x4, X4, fun h9 => absurd (by rw [HR2.out] at h9; exact h9) (show ¬ (2 : Int) = 0 by decide)⟩, HG2.out.2.2.trans (hf4.mono (fun b hb => hb.elim .inl (fun e => .inr (.inl e))))⟩
                · have hsz10 : sz ≤ 10 := by omega
                  have hnz15 : nz ≤ 15 := by omega
                  have h240 : sz = 0 ↔ s = 240 := by omega
                  have H240 := Lib.hid h240
                  have H10 := Lib.hid h10
                  obtain ⟨kq, hkq⟩ : ∃ q, q = k2 + nz := ⟨_, rfl⟩
                  have HKQ := Lib.hid hkq
                  have hki : (k2 : Int) + (nz : Int) = (kq : Int) := by omega
                  clear hend hsz hnz h10 h240
                  clear hkq
                  go_upto_region 15 with (go_at_call 151; refine HSY.out.mono ?_; rintro e4 w4 hq4; obtain ⟨rfl, ⟨m4, en4, x4, X4, hn4⟩, hf4⟩ := ((hq4.2 rfl).2 HEND.out).2 (by rw [← HSZ.out]; exact H10.out); obtain ⟨rfl, rfl⟩ := hn4 rfl; rw [errE_nil2, ← HSZ.out, ← HNZ.out])
                  have c8 := X4.c8
                  have hk2b : k2 < 64 := by omega
                  by_cases hge : k ≤ kq
                  · have dge : decide ((k : Int) ≤ (kq : Int)) = true := decide_eq_true (by omega)
                    have dge2 : decide (k ≤ kq) = true := decide_eq_true hge
                    have hR2 : R = ([], 0, 0, 2) := by have := HNZ.out; have := HKQ.out; have := H240.out; have := HSZ.out; rw [← HRD.out, rdA_mal hlt HF.out HEND.out (by omega)]
                    have HR2 := Lib.hid hR2
                    clear hR2
                    go_wp2
                    go_ret
                    exact ⟨by rw [HR2.out]; rfl, ⟨y2, _, 0, HG2.out.2.1, HG2.out.1.keep hf4 (fun e => e.elim HE.out.gw HE.out.gr), x4, X4, fun h9 => absurd (by rw [HR2.out] at h9; exact h9) (show ¬ (2 : Int) = 0 by decide)⟩, HG2.out.2.2.trans (hf4.mono (fun b hb => hb.elim .inl (fun e => .inr (.inl e))))⟩
                  · have dge : decide ((k : Int) ≤ (kq : Int)) = false := decide_eq_false (by omega)
                    have dge2 : decide (k ≤ kq) = false := decide_eq_false hge
                    by_cases hlast : sz = 0 ∧ kq + 1 = k
                    · have d0 : ((sz : Int) == 0) = true := by simp; omega
                      have d1 : ((kq : Int) == (k : Int) - 1) = true := by simp; omega
                      have hR2 : R = ([], 0, 0, 2) := by have := HNZ.out; have := HKQ.out; have := H240.out; have := HSZ.out; rw [← HRD.out, rdA_mal hlt HF.out HEND.out (by omega)]
                      have HR2 := Lib.hid hR2
                      clear hR2
                      go_wp2
                      go_ret
                      exact ⟨by rw [HR2.out]; rfl, ⟨y2, _, 0, HG2.out.2.1, HG2.out.1.keep hf4 (fun e => e.elim HE.out.gw HE.out.gr), x4, X4, fun h9 => absurd (by rw [HR2.out] at h9; exact h9) (show ¬ (2 : Int) = 0 by decide)⟩, HG2.out.2.2.trans (hf4.mono (fun b hb => hb.elim .inl (fun e => .inr (.inl e))))⟩
                    · have hgo : ((sz : Int) == 0) = false ∨ ((sz : Int) == 0) = true ∧ ((kq : Int) == (k : Int) - 1) = false := by
                        by_cases h : sz = 0
                        · exact .inr ⟨by simp; omega, by simp; omega⟩
                        · exact .inl (by simp; omega)
                      have hnm : ¬ (10 < s % 16 ∨ k ≤ k2 + s / 16 ∨ (s = 240 ∧ k ≤ k2 + 16)) := by
                        have := HNZ.out; have := HKQ.out; have := H240.out; have := HSZ.out; have := H10.out; omega
                      have c5 := X4.c5
                      have hxl := x4.le
                      have hK9 : K ≤ 9 := hfn.2.2.2.2
                      by_cases hf : 8 * Bs.length < a + q + sz
                      · have hR2 : R = ([], 0, 0, 8) := by rw [← HRD.out, rdA_few hlt HF.out HEND.out hnm (by rw [bitsOf_len, ← HSZ.out]; exact hf)]
                        have HR2 := Lib.hid hR2
                        have hte := take_end x4 hm sz (by omega) (by omega)
                        have HTE := Lib.hid hte
                        have hne2 : errE 8 = errV 8 := errE_ne2 (by decide)
                        have HNE := Lib.hid hne2
                        clear hR2 hte hne2 hnm hlast hge hf
                        rcases hgo with d0 | ⟨d0, d1⟩
                        all_goals
                          go_wp2_with (go_at_call 111; refine HTE.out.mono ?_; rintro e6 w6 ⟨rfl, hb6⟩; unfold errV)
                          go_ret
                          exact ⟨by rw [HR2.out]; dsimp only; rw [HNE.out]; rfl, ⟨y2, _, 0, HG2.out.2.1, (HG2.out.1.keep hf4 (fun e => e.elim HE.out.gw HE.out.gr)).below hb6, x4.below hb6, X4.below hb6, fun h9 => absurd (by rw [HR2.out] at h9; exact h9) (show ¬ (8 : Int) = 0 by decide)⟩, (HG2.out.2.2.trans (hf4.mono (fun b hb => hb.elim .inl (fun e => .inr (.inl e))))).trans (Fr.of_below hb6)⟩
                      · have hto := rtk_ok x4 hm sz (by omega) hf
                        have hvb := hv_bd (((bitsOf_01 true Bs).drop (a + q)).take sz)
                        have hsl : (((bitsOf true Bs).drop (a + q)).take sz).length ≤ 10 := by have := List.length_take_le sz ((bitsOf true Bs).drop (a + q)); omega
                        have hp11 : (2 : Int) ^ (((bitsOf true Bs).drop (a + q)).take sz).length ≤ 1024 := by
                          have h2 := Nat.pow_le_pow_right (show 0 < 2 by omega) hsl
                          have h3 := two_cast (((bitsOf true Bs).drop (a + q)).take sz).length
                          rw [show 2 ^ 10 = 1024 from rfl] at h2
                          omega
                        have hva := vaN_bd (hv (((bitsOf true Bs).drop (a + q)).take sz)) sz (by omega)
                        have hgo2 := @rdA_go (sy O) (Go.Proofs.Ytlhappecjjbopaa.sz ls O) (bitsOf true Bs) left F k k2 a s q (K : Int) y2 hlt HF.out HEND.out hnm (by rw [bitsOf_len, ← HSZ.out]; exact hf) _ rfl
                        have hbig2 := @rdA_big (sy O) (Go.Proofs.Ytlhappecjjbopaa.sz ls O) (bitsOf true Bs) left F k k2 a s q (K : Int) y2 hlt HF.out HEND.out hnm (by rw [bitsOf_len, ← HSZ.out]; exact hf) _ rfl
                        rw [HRD.out, ← HSZ.out, ← HNZ.out, ← HKQ.out, Int.toNat_natCast] at hgo2
                        rw [HRD.out, ← HSZ.out, Int.toNat_natCast] at hbig2
                        generalize hv (((bitsOf true Bs).drop (a + q)).take sz) = bt at *
                        have hval := fun W => value_any bt (sz : Int) (by omega) W
                        have HVAL := Lib.hid hval
                        obtain ⟨va, hvq⟩ : ∃ va, va = vaZ bt (sz : Int) := ⟨_, rfl⟩
                        rw [← hvq] at hva HVAL hgo2 hbig2
                        have hpK := two_int K (by omega)
                        have hmul : -33554432 ≤ va * (2 : Int) ^ K ∧ va * (2 : Int) ^ K ≤ 33554432 := by
                          generalize (2 : Int) ^ K = P at *
                          have q1 : va * P ≤ 32768 * P := Int.mul_le_mul_of_nonneg_right (by omega) (by omega)
                          have q2 : -32768 * P ≤ va * P := Int.mul_le_mul_of_nonneg_right (by omega) (by omega)
                          omega
                        obtain ⟨o, hoq⟩ : ∃ o, o = va * (2 : Int) ^ K := ⟨_, rfl⟩
                        rw [← hoq] at hmul hgo2 hbig2
                        have hw1 : wrap64 (va * (2 : Int) ^ K) = o := by rw [← hoq]; unfold wrap64; omega
                        have hw2 : IntKind.i64.wrap (va * (2 : Int) ^ K) = o := by rw [← hoq]; exact IntWalk.i64_in _ (by omega)
                        have HGO := Lib.hid hgo2
                        have HBIG := Lib.hid hbig2
                        have HTO := Lib.hid hto
                        have hkn : kq < k := by omega
                        clear hto hvb hsl hp11 hva hgo2 hbig2 hval hvq hoq hnm hlast hge hf
                        rcases hgo with d0 | ⟨d0, d1⟩
                        all_goals
                          go_upto_region 20 with (go_at_call 111; refine HTO.out.mono ?_; rintro e6 w6 ⟨rfl, x6, hf6⟩)
                          have X6 := X4.keep hf6 HE.out.wr HE.out.zr
                          have G6 := (HG2.out.1.keep hf4 (fun e => e.elim HE.out.gw HE.out.gr)).keep hf6 HE.out.gr
                          have f6 := (HG2.out.2.2.trans (hf4.mono (fun b hb => hb.elim .inl (fun e => .inr (.inl e))))).trans (hf6.mono (S' := fun b => b = wp ∨ b = rp ∨ b = g) (fun b hb => .inr (.inl hb)))
                          have c3 := X6.c3
                          clear c8 c5
                          go_quiet ((first | (go_at_call 40; exact quiet_l (HVAL.out _))))
                          have X7 := X6.drewN nq
                          have x7 := x6.drewN nq
                          have G7 := G6.drewN nq
                          have f7 := f6.drewN nq
                          clear x6 X6 G6 f6 c3
                          generalize w6.drewN nq = w7 at *
                          by_cases hd : -1023 ≤ o ∧ o ≤ 1023
                          · have do1 : decide (o < -1023) = false := decide_eq_false (by omega)
                            have do2 : decide (1023 < o) = false := decide_eq_false (by omega)
                            have hr := HGO.out hd
                            have c8 := X7.c8
                            have hzb := (zzN_bd (F + kq) (by omega)).1
                            have cz2 := X7.z kq hkn
                            have hset : (L.set i y2)[i]? = some y2 := by rw [List.getElem?_set_self HIL.out]
                            obtain ⟨zz, hzz⟩ : ∃ z, z = zzN (F + kq) := ⟨_, rfl⟩
                            rw [← hzz] at hzb cz2 hr
                            have fg2 := G7.fz (i * 64 + zz)
                            have cg2 := G7.cell hset hzb
                            have HR3 := Lib.hid hr
                            have hz0 : (0 : Int) ≤ (zz : Int) := by omega
                            have hz1 : (zz : Int) < 64 := by omega
                            have hset2 := Lib.hid hset
                            clear hzz hr hd hset
                            go_upto_region 23 with fail
                            go_still_tail 11, (by kernel_rfl)
                            repeat still_step
                            try refine wpStill_nil ?_
                            change wpList _ _ _ _ _ w7.drew
                            have G8 := (G7.drewN 1).set hset2.out hzb o
                            rw [List.set_set] at G8
                            have hx8 : Re (w7.drew.setCell ⟨g, i * 64 + zz, none⟩ (.int .i64 o)) rp true A c Bs (a + q + sz) := (x7.drewN 1).keep (S := fun b => b = g) (Fr.setCell (S := fun b => b = g) (Fr.refl _ _) (p := ⟨g, i * 64 + zz, none⟩) (.inl rfl) (.int .i64 o)) (fun e => HE.out.gr e.symm) HE.out.Ag
                            have hX8 : Wk (w7.drew.setCell ⟨g, i * 64 + zz, none⟩ (.int .i64 o)) wp F T h K p1 rp left 0 gz k cz := (X7.drewN 1).keep (S := fun b => b = g) (Fr.setCell (S := fun b => b = g) (Fr.refl _ _) (p := ⟨g, i * 64 + zz, none⟩) (.inl rfl) (.int .i64 o)) (fun e => HE.out.gw e.symm) (fun e => HE.out.gz e.symm)
                            have hf8 := (f7.drewN 1).setCell (p := ⟨g, i * 64 + zz, none⟩) (.inl (.inr (.inr rfl))) (.int .i64 o)
                            have HX8 := Lib.hid (And.intro G8 (And.intro hx8 (And.intro hX8 hf8)))
                            clear G8 hx8 hX8 hf8 G7 x7 X7 f7 hf4 hf6 x4 X4
                            have fg3 : w7.drew.frozen? ⟨g, i * 64 + zz, none⟩ = false := fg2
                            have cg3 : w7.drew.cell? ⟨g, i * 64 + zz, none⟩ = some (.int .i64 (y2.getD zz 0)) := cg2
                            go_wp2_with fail
                            go_roundw
                            case rel => exact ⟨kq + 1, a + q + sz, y2.set zz o, by omega, by go_num, by rw [List.length_set]; exact HG2.out.2.1, HX8.out.1, HX8.out.2.1, HX8.out.2.2.1, fun q => absurd q (by decide), fun _ => HR3.out.symm, HX8.out.2.2.2⟩
                            case measure => have := HKQ.out; simp [intOf]; omega
                          · have hr := HBIG.out hd
                            have HR2 := Lib.hid hr
                            have hdo : decide (o < -1023) = true ∨ decide (o < -1023) = false ∧ decide (1023 < o) = true := by
                              by_cases h : o < -1023
                              · exact .inl (decide_eq_true h)
                              · exact .inr ⟨decide_eq_false h, decide_eq_true (by omega)⟩
                            clear hr hd
                            rcases hdo with do1 | ⟨do1, do2⟩
                            all_goals
                              go_wp2
                              go_ret
                              exact ⟨by rw [HR2.out]; rfl, ⟨y2, _, 0, HG2.out.2.1, G7, x7, X7, fun h9 => absurd (by rw [HR2.out] at h9; exact h9) (show ¬ (2 : Int) = 0 by decide)⟩, f7⟩
            · have hR2 : R = ([], 0, 0, er) := by rw [← HRD.out, rdA_bad hlt HF.out he]
              have HR2 := Lib.hid hR2
              have HER := Lib.hid he
              have hne2 := errE_ne2 he
              have HNE := Lib.hid hne2
              clear hR2 he hne2
              go_wp2_with (go_at_call 151; refine HSY.out.mono ?_; rintro e4 w4 hq4; obtain ⟨rfl, ⟨m4, en4, x4, X4, _⟩, hf4⟩ := hq4.1 HER.out; rw [HNE.out]; unfold errV)
              go_ret
              exact ⟨by rw [HR2.out]; dsimp only; rw [HNE.out]; rfl, ⟨y2, m4, en4, HG2.out.2.1, HG2.out.1.keep hf4 (fun e => e.elim HE.out.gw HE.out.gr), x4, X4, fun h9 => absurd (by rw [HR2.out] at h9; exact h9) HER.out⟩, HG2.out.2.2.trans (hf4.mono (fun b hb => hb.elim .inl (fun e => .inr (.inl e))))⟩
          · have hR2 := hRe (by omega)
            have HR2 := Lib.hid hR2
            have dn : ((en : Int) == 0) = false := by simp; exact hen
            clear hR2 hRe hRa hen
            go_wp2
            go_ret
            exact ⟨by rw [HR2.out]; rfl, ⟨y2, a, en, hy2, G2, x2, X2, fun _ => by rw [HR2.out]; exact ⟨rfl, rfl, rfl⟩⟩, hf2⟩
        · have dl : decide (k2 < k) = false := decide_eq_false hlt
          have hR2 : R = (y2, a, en, 0) := by
            by_cases hen : en = 0
            · rw [← hRa hen, rdA_out hlt, hen]
            · exact hRe (by omega)
          have HR2 := Lib.hid hR2
          clear hR2 hRe hRa hlt
          go_wp2
          go_ret
          exact ⟨by rw [HR2.out]; rfl, ⟨y2, a, en, hy2, G2, x2, X2, fun _ => by rw [HR2.out]; exact ⟨rfl, rfl, rfl⟩⟩, hf2⟩
end
end Go.Proofs.Ytlhappecjjbopaa
