/-
  Prog: the program's reading of a block of a finer band, by a contract. Conditions: symbols below 256, at most 68719476736 bytes, at most 1000 blocks.
-/
import Derived.Test.YtlhappecjjbopaaPrRe
namespace Go.Proofs.Ytlhappecjjbopaa
open Go.RowKit
set_option linter.unusedVariables false
set_option maxRecDepth 100000
section
variable {ls : List Int} {O : List Nat} {C : List Int} {w : World} {B p1 rp : Nat} {A : Option Addr} {c m : Nat} {Bs : List Int} {wp F T K left en gz n cz : Nat} {h : Int} {B2 g cg N : Nat} {L : List (List Int)} {i : Nat}
/-- the ends that are counted are nought -/
noncomputable def enM (w : World) (wp : Nat) : Nat := @ite _ (w.cell? ⟨wp, 7, none⟩ = some (.int .i64 0)) (Classical.propDecidable _) 1 0
theorem enM_0 {w : World} {wp : Nat} (h : w.cell? ⟨wp, 7, none⟩ = some (.int .i64 0)) : enM w wp = 1 := if_pos h
theorem enM_1 {w : World} {wp : Nat} {e : Nat} (h : w.cell? ⟨wp, 7, none⟩ = some (.int .i64 (e : Nat))) (he : 0 < e) : enM w wp = 0 := if_neg (by rw [h]; intro q; injection q with q; injection q with q1 q2; omega)
def PgR (S Z : List Int) (wp F T : Nat) (h : Int) (K p1 rp left gz n cz : Nat) (A : Option Addr) (c : Nat) (Bs : List Int) (B2 g cg N : Nat) (L : List (List Int)) (i : Nat) (RG : List Int × Nat × Nat × Nat × Int) (w : World) (kv : Value) (wr : World) : Prop :=
  ∃ (k a en : Nat) (y : List Int), k ≤ n ∧ kv = .int .i64 (k : Nat) ∧ y.length = 64 ∧ Gro wr B2 g cg N (L.set i y) ∧ Re wr rp true A c Bs a ∧ Wk wr wp F T h K p1 rp left en gz n cz ∧ (0 < en → RG = (y, k, a, en, 0)) ∧ (en = 0 → rdG S Z (bitsOf true Bs) left F n (K : Nat) k a y = RG) ∧ (∀ j, k ≤ j → j < n → -2000 ≤ y.getD (zzN (F + j)) 0 ∧ y.getD (zzN (F + j)) 0 ≤ 2000) ∧ Fr (fun b => b = wp ∨ b = rp ∨ b = g) w wr
set_option maxHeartbeats 32000000 in
theorem pfine_any (E : PEnv B wp rp g gz A) (hK : BkS w B p1 ls O C) (ho : Ordd ls O C) (hSy : ∀ x ∈ sy O, 0 ≤ x ∧ x ≤ 255) (x : Re w rp true A c Bs m) (hm : Bs.length ≤ 68719476736) (X : Wk w wp F T h K p1 rp left en gz n cz) (hl : left ≤ 1000) (G : Gro w B2 g cg N L)
    {y : List Int} (hy : L[i]? = some y) (hb : ∀ j, j < n → -2000 ≤ y.getD (zzN (F + j)) 0 ∧ y.getD (zzN (F + j)) 0 ≤ 2000) {RG : List Int × Nat × Nat × Nat × Int} (hRG : (if 0 < en then (y, 0, m, en, 0) else rdG (sy O) (sz ls O) (bitsOf true Bs) left F n (K : Nat) 0 m y) = RG) {R : List Int × Nat × Nat × Int} (hR : endG (bitsOf true Bs) F n (K : Nat) RG = R) :
    Calls Try.prog 136 #[.pointer (some ⟨wp, 0, none⟩), .pointer (some ⟨g, i * 64, none⟩)] w (PblkP wp F T h K p1 rp left gz n cz A c Bs B2 g cg N L i R w) := by
  have hil : i < L.length := (List.getElem?_eq_some_iff.1 hy).1
  have hy64 : y.length = 64 := G.b64 y (List.mem_of_getElem? hy)
  have hG0 : Gro w B2 g cg N (L.set i y) := by rw [set_here hy]; exact G
  have hfn := X.fn
  have HE := Lib.hid E
  have HK0 := Lib.hid hK
  have HR := Lib.hid hR
  have HIL := Lib.hid hil
  have h1 : 0 < en → RG = (y, 0, m, en, 0) := fun q => by rw [← hRG, if_pos q]
  have h2 : en = 0 → rdG (sy O) (sz ls O) (bitsOf true Bs) left F n (K : Nat) 0 m y = RG := fun q => by rw [← hRG, if_neg (by omega)]
  have HH := Lib.hid (show PgR (sy O) (sz ls O) wp F T h K p1 rp left gz n cz A c Bs B2 g cg N L i RG w (.int .i64 0) w from ⟨0, m, en, y, Nat.zero_le _, rfl, hy64, hG0, x, X, h1, h2, fun j _ hj => hb j hj, Fr.refl _ _⟩)
  clear hy X hR hG0 hil hy64 x hK E hRG hb h1 h2 G
  go_enter Try.func136, Try.ntmps136
  go_wp2_with fail
  go_loopw [5] (PgR (sy O) (sz ls O) wp F T h K p1 rp left gz n cz A c Bs B2 g cg N L i RG w) (fun kv wr => 2 * (n - (intOf kv).toNat) + enM wr wp)
  case atStart => exact HH.out
  case round =>
    clear HH
    obtain ⟨k, a, en2, y2, hk, rfl, hy2, G2, x2, X2, hRe, hRa, hb2, hf2⟩ := hrel
    have hbk2 := hf2.below (B := B) (fun q hq e => by have := HE.out.Bg; have := HE.out.Bw; have := HE.out.Br; rcases e with e | e | e <;> omega) HK0.out.size
    obtain ⟨wj, rfl⟩ : ∃ wj : World, wj = wr := ⟨_, rfl⟩
    have c8 := X2.c8
    have c7 := X2.c7
    have hPASS : RG = (y2, k, a, en2, 0) → Calls Try.prog 152 #[.pointer (some ⟨wp, 0, none⟩), .pointer (some ⟨g, i * 64, none⟩), .int .i64 (k : Nat), .int .i64 (n : Nat)] wj (PpassP rp A c Bs B2 g cg N (L.set i y2) i (rdP (bitsOf true Bs) F n (K : Nat) k a n y2) wj) := fun _ =>
      ppass_any x2 hm X2 HE.out.wr HE.out.zr G2 HE.out.gr HE.out.gw HE.out.gz HE.out.Ag (by rw [List.getElem?_set_self HIL.out]) k n hk (by omega) hb2 rfl
    have HPASS := Lib.hid hPASS
    clear hPASS
    by_cases hlt : k < n
    · have dl : decide (k < n) = true := decide_eq_true hlt
      by_cases hen : en2 = 0
      · subst hen
        have hrd := hRa rfl
        obtain ⟨⟨sv, q, er⟩, hF⟩ : ∃ r, rdF (sy O) (sz ls O) ((bitsOf true Bs).drop a) = r := ⟨_, rfl⟩
        have hsb := rdF_255 (Z := sz ls O) hSy ((bitsOf true Bs).drop a)
        rw [hF] at hsb
        dsimp only at hsb
        obtain ⟨s, rfl⟩ := Int.eq_ofNat_of_zero_le hsb.1
        have hs255 : s ≤ 255 := by omega
        have hsy := psym_any (HK0.out.keep hbk2) ho HE.out.Br x2 hm X2 HE.out.wr HE.out.zw HE.out.zr HE.out.Aw hl 1 (by omega) hs255 hF y2
        have HSY := Lib.hid hsy
        have HF := Lib.hid hF
        have HRD := Lib.hid hrd
        have hm0 := enM_0 c7
        have HG2 := Lib.hid (And.intro G2 (And.intro hy2 (And.intro hf2 (And.intro hb2 hm0))))
        clear hsy hF hrd hRe hRa x2 X2 G2 hy2 hf2 hsb hbk2 hb2 hm0 HPASS
        by_cases he : er = 0
        · subst he
          by_cases hend : s % 16 = 0 ∧ s ≠ 240
          · have hR2 := rdG_end (left := left) (f := F) (l := (K : Int)) (x := y2) hlt HF.out hend
            rw [HRD.out] at hR2
            obtain ⟨RE, hRE⟩ : ∃ r, r = rdE (bitsOf true Bs) left (a + q) (s / 16) y2 := ⟨_, rfl⟩
            rw [← hRE] at hR2
            have HR2 := Lib.hid hR2
            have HRE := Lib.hid hRE
            have HEND := Lib.hid hend
            clear hR2 hend hRE
            by_cases hre : RE.2.2.2 = 0
            · have HE0 := Lib.hid hre
              clear hre
              go_wp2_with (go_at_call 151; refine HSY.out.mono ?_; rintro e4 w4 hq4; obtain ⟨rfl, ⟨m4, en4, x4, X4, hn4⟩, hf4⟩ := (hq4.2 rfl).1 HEND.out; rw [← HRE.out] at hn4 ⊢; rw [HE0.out, errE_nil2, decide_eq_true rfl])
              obtain ⟨q1, q2⟩ := hn4 HE0.out
              have hre1 : RE = (y2, m4, en4, 0) ∧ 0 < en4 := by
                have h12 := HRE.out
                have h9 := HE0.out
                unfold rdE at h12
                split at h12
                · rw [h12] at h9; exact absurd h9 (by decide)
                · split at h12
                  · rw [h12] at h9; exact absurd h9 (by decide)
                  · rw [h12] at q1 q2
                    have h13 := two_pos (s / 16)
                    have h14 := hv_take_bd2 ((bitsOf true Bs).drop (a + q)) ((bitsOf_01 true Bs).drop (a + q)) (s / 16)
                    have h15 := two_cast (s / 16)
                    exact ⟨by rw [h12, q1, q2], by rw [q2]; dsimp only; omega⟩
              have c74 := X4.c7
              have hm1 := enM_1 c74 hre1.2
              have hm2 := HG2.out.2.2.2.2
              go_roundw
              case rel => exact ⟨k, m4, en4, y2, hk, rfl, HG2.out.2.1, HG2.out.1.keep hf4 (fun e => e.elim HE.out.gw HE.out.gr), x4, X4, fun _ => by rw [HR2.out, hre1.1], fun q3 => absurd hre1.2 (by omega), HG2.out.2.2.2.1, HG2.out.2.2.1.trans (hf4.mono (fun b hb => hb.elim .inl (fun e => .inr (.inl e))))⟩
              case measure => rw [hm1, hm2]; omega
            · have HE0 := Lib.hid hre
              have hR3 : R = ([], 0, 0, RE.2.2.2) := by rw [← HR.out, HR2.out]; exact if_pos hre
              have HR3 := Lib.hid hR3
              have hne2 := errE_ne2 hre
              have HNE := Lib.hid hne2
              clear hre hne2 hR3
              go_wp2_with (go_at_call 151; refine HSY.out.mono ?_; rintro e4 w4 hq4; obtain ⟨rfl, ⟨m4, en4, x4, X4, hn4⟩, hf4⟩ := (hq4.2 rfl).1 HEND.out; rw [← HRE.out] at hn4 ⊢; rw [HNE.out]; unfold errV)
              go_ret
              exact ⟨by rw [HR3.out]; dsimp only; rw [HNE.out]; rfl, ⟨y2, m4, en4, HG2.out.2.1, HG2.out.1.keep hf4 (fun e => e.elim HE.out.gw HE.out.gr), x4, X4, fun h9 => absurd (by rw [HR3.out] at h9; exact h9) HE0.out⟩, HG2.out.2.2.1.trans (hf4.mono (fun b hb => hb.elim .inl (fun e => .inr (.inl e))))⟩
          · obtain ⟨sz, hsz⟩ : ∃ z, z = s % 16 := ⟨_, rfl⟩
            obtain ⟨nz, hnz⟩ : ∃ z, z = s / 16 := ⟨_, rfl⟩
            have HSZ := Lib.hid hsz
            have HNZ := Lib.hid hnz
            have HEND := Lib.hid hend
            by_cases h10 : 1 < sz
            · have hR2 : R = ([], 0, 0, 2) := by rw [← HR.out, ← HRD.out, rdG_mal hlt HF.out hend (by omega)]; rfl
              have HR2 := Lib.hid hR2
              have hne2 : errE 2 = errV 2 := errE_ne2 (by decide)
              have HNE := Lib.hid hne2
              have H10 := Lib.hid h10
              clear hR2 hend hsz hnz h10 hne2
              go_wp2_with (go_at_call 151; refine HSY.out.mono ?_; rintro e4 w4 hq4; obtain ⟨rfl, ⟨m4, en4, x4, X4, _⟩, hf4⟩ := ((hq4.2 rfl).2 HEND.out).1 (by rw [← HSZ.out]; exact H10.out); rw [HNE.out]; unfold errV)
              go_ret
              exact ⟨by rw [HR2.out]; dsimp only; rw [HNE.out]; rfl, ⟨y2, m4, en4, HG2.out.2.1, HG2.out.1.keep hf4 (fun e => e.elim HE.out.gw HE.out.gr), x4, X4, fun h9 => absurd (by rw [HR2.out] at h9; exact h9) (show ¬ (2 : Int) = 0 by decide)⟩, HG2.out.2.2.1.trans (hf4.mono (fun b hb => hb.elim .inl (fun e => .inr (.inl e))))⟩
            · have hsz1 : sz ≤ 1 := by omega
              have hnz15 : nz ≤ 15 := by omega
              have h240 : sz = 0 ↔ s = 240 := by omega
              have H240 := Lib.hid h240
              have H10 := Lib.hid h10
              clear hend hsz hnz h10 h240
              go_upto_if 43 with (go_at_call 151; refine HSY.out.mono ?_; rintro e4 w4 hq4; obtain ⟨rfl, ⟨m4, en4, x4, X4, hn4⟩, hf4⟩ := ((hq4.2 rfl).2 HEND.out).2 (by rw [← HSZ.out]; exact H10.out); obtain ⟨rfl, rfl⟩ := hn4 rfl; rw [errE_nil2, ← HSZ.out, ← HNZ.out])
              have G4 := HG2.out.1.keep hf4 (fun e => e.elim HE.out.gw HE.out.gr)
              have hf24 := HG2.out.2.2.1.trans (hf4.mono (fun b hb => hb.elim .inl (fun e => .inr (.inl e))))
              have c5 := X4.c5
              have c3 := X4.c3
              have hK9 : K ≤ 9 := hfn.2.2.2.2
              have hxl := x4.le
              have hpK := two_int K (by omega)
              clear c7 c8
              go_cut [10, 11, 12] from 44 to 63 (fun vv _ _ wx => ∃ v : Int, vv = .int .i64 v ∧ Hid (¬ (bitsOf true Bs).length < a + q + sz ∧ v = (if sz = 1 then (2 * (bitsOf true Bs).getD (a + q) 0 - 1) * 2 ^ K else 0)) ∧ Re wx rp true A c Bs (a + q + sz) ∧ Wk wx wp F T h K p1 rp left 0 gz n cz ∧ Gro wx B2 g cg N (L.set i y2) ∧ Fr (fun b => b = wp ∨ b = rp ∨ b = g) w wx)
              case first =>
                by_cases hs1 : sz = 1
                · subst hs1
                  by_cases hf : 8 * Bs.length < a + q + 1
                  · have hR2 : R = ([], 0, 0, 8) := by rw [← HR.out, ← HRD.out, rdG_few hlt HF.out HEND.out (by rw [← HSZ.out]; exact H10.out) (by rw [bitsOf_len, ← HSZ.out]; exact hf)]; rfl
                    have HR2 := Lib.hid hR2
                    have hte := take_end x4 hm 1 (by omega) (by omega)
                    have HTE := Lib.hid hte
                    have hne2 : errE 8 = errV 8 := errE_ne2 (by decide)
                    have HNE := Lib.hid hne2
                    clear hR2 hte hne2 hf
                    go_wp2_with (go_at_call 111; refine HTE.out.mono ?_; rintro e6 w6 ⟨rfl, hb6⟩; unfold errV)
                    go_ret
                    exact ⟨by rw [HR2.out]; dsimp only; rw [HNE.out]; rfl, ⟨y2, _, 0, HG2.out.2.1, G4.below hb6, x4.below hb6, X4.below hb6, fun h9 => absurd (by rw [HR2.out] at h9; exact h9) (show ¬ (8 : Int) = 0 by decide)⟩, hf24.trans (Fr.of_below hb6)⟩
                  · have hto := rtk_ok x4 hm 1 (by omega) hf
                    have hbit : hv (((bitsOf true Bs).drop (a + q)).take 1) = (bitsOf true Bs).getD (a + q) 0 ∧ ((bitsOf true Bs).getD (a + q) 0 = 0 ∨ (bitsOf true Bs).getD (a + q) 0 = 1) := by
                      have hlt : a + q < (bitsOf true Bs).length := by rw [bitsOf_len]; omega
                      rw [List.drop_eq_getElem_cons hlt, List.take_succ_cons, List.take_zero, List.getD_eq_getElem?_getD, List.getElem?_eq_getElem hlt]
                      have h01 := bitsOf_01 true Bs _ (List.getElem_mem hlt)
                      simp [hv]
                      exact h01
                    rw [hbit.1] at hto
                    have hb01 := hbit.2
                    have hlen : ¬ (bitsOf true Bs).length < a + q + 1 := by rw [bitsOf_len]; exact hf
                    have HLEN := Lib.hid hlen
                    generalize hbtq : (bitsOf true Bs).getD (a + q) 0 = bt at *
                    have HBT := Lib.hid hbtq
                    have HTO := Lib.hid hto
                    have hbb : -1024 ≤ (2 * bt - 1) * 2 ^ K ∧ (2 * bt - 1) * 2 ^ K ≤ 1024 := by
                      rcases hb01 with h | h
                      · rw [h]; omega
                      · rw [h]; omega
                    have hw0 : wrap64 (2 * bt) = 2 * bt := by unfold wrap64; omega
                    have hw01 : wrap64 (2 * bt - 1) = 2 * bt - 1 := by unfold wrap64; omega
                    have hw1 : wrap64 ((2 * bt - 1) * (2 : Int) ^ K) = (2 * bt - 1) * 2 ^ K := by unfold wrap64; omega
                    have hw2 : IntKind.i64.wrap ((2 * bt - 1) * (2 : Int) ^ K) = (2 * bt - 1) * 2 ^ K := IntWalk.i64_in _ (by omega)
                    have HOL := Lib.hid (And.intro X4 (And.intro G4 hf24))
                    clear hto hbit hlen hf hbtq x4 X4 G4 hf24 hf4 c3
                    go_upto_region 12 with (go_at_call 111; refine HTO.out.mono ?_; rintro e6 w6 ⟨rfl, x6, hf6⟩)
                    have X6 := HOL.out.1.keep hf6 HE.out.wr HE.out.zr
                    have G6 := HOL.out.2.1.keep hf6 HE.out.gr
                    have f6 := HOL.out.2.2.trans (hf6.mono (S' := fun b => b = wp ∨ b = rp ∨ b = g) (fun b hb => .inr (.inl hb)))
                    have c3 := X6.c3
                    clear c5
                    go_wp2_with fail
                    go_meet
                    exact ⟨_, rfl, Lib.hid ⟨HLEN.out, by simp⟩, x6, X6, G6, f6⟩
                · have d1 : ((sz : Int) == 1) = false := by simp; omega
                  have hsz0 : sz = 0 := by omega
                  subst hsz0
                  go_wp2_with fail
                  go_meet
                  exact ⟨0, rfl, Lib.hid ⟨by rw [bitsOf_len]; omega, by rw [if_neg (by omega)]⟩, x4, X4, G4, hf24⟩
              case rest =>
                obtain ⟨v, rfl, hvq, x5, X5, G5, f5⟩ := hcut
                obtain ⟨w5, rfl⟩ : ∃ w5 : World, w5 = wc := ⟨_, rfl⟩
                clear x4 X4 G4 hf24 hf4 c5 c3
                obtain ⟨P, hP⟩ : ∃ P, rdP (bitsOf true Bs) F n (K : Nat) k (a + q + sz) nz y2 = P := ⟨_, rfl⟩
                have hpass := ppass_any x5 hm X5 HE.out.wr HE.out.zr G5 HE.out.gr HE.out.gw HE.out.gz HE.out.Ag (by rw [List.getElem?_set_self HIL.out]) k nz hk (by omega) HG2.out.2.2.2.1 hP
                have hge := rdP_ge (bitsOf true Bs) F n (K : Nat) k (a + q + sz) nz y2
                have hbd := (rdP_bd (bitsOf true Bs) F n (K : Nat) (n - k) k (a + q + sz) nz y2 (Nat.le_refl _)).2
                have haf := rdP_after (bitsOf true Bs) F n (K : Nat) (by omega) (n - k) k (a + q + sz) nz y2 (Nat.le_refl _)
                rw [hP] at hge hbd haf
                obtain ⟨P1, k1, a1, e1⟩ := P
                dsimp only at hge hbd haf
                have HPS := Lib.hid hpass
                have HBD := Lib.hid hbd
                have HAF := Lib.hid haf
                have HPQ := Lib.hid hP
                have hlen5 : ¬ (bitsOf true Bs).length < a + q + s % 16 := by rw [← HSZ.out]; exact hvq.out.1
                have hno1 : ¬ 1 < s % 16 := by rw [← HSZ.out]; exact H10.out
                have hPs : rdP (bitsOf true Bs) F n (K : Nat) k (a + q + s % 16) (s / 16) y2 = (P1, k1, a1, e1) := by rw [← HSZ.out, ← HNZ.out]; exact hP
                by_cases hpe : e1 = 0
                · subst hpe
                  have hmal := rdG_mal2 (left := left) hlt HF.out HEND.out hno1 hlen5 hPs
                  have hgo := rdG_go (left := left) hlt HF.out HEND.out hno1 hlen5 hPs
                  rw [HRD.out] at hmal hgo
                  have HMAL := Lib.hid hmal
                  have HGO := Lib.hid hgo
                  clear hpass hbd haf hP hlen5 hno1 hPs hmal hgo
                  go_upto_region 16 with (go_at_call 152; refine HPS.out.mono ?_; rintro e6 w6 ⟨rfl, ⟨y6, m6, hy6, G6, x6, hn6⟩, hf6⟩; obtain ⟨rfl, rfl⟩ := hn6 rfl; dsimp only; rw [errE_nil2, if_pos (by trivial)])
                  rw [List.set_set] at G6
                  try dsimp only at G6 x6 hy6
                  have X6 := X5.keep hf6 (fun e => e.elim HE.out.wr (fun e => HE.out.gw e.symm)) (fun e => e.elim HE.out.zr (fun e => HE.out.gz e.symm))
                  have f6 := f5.trans (hf6.mono (S' := fun b => b = wp ∨ b = rp ∨ b = g) (fun b hb => .inr hb))
                  have c8 := X6.c8
                  clear x5 X5 G5 f5 hf6
                  by_cases hge2 : n ≤ k1
                  · have dge : decide (n ≤ k1) = true := decide_eq_true hge2
                    have hR2 : R = ([], 0, 0, 2) := by rw [← HR.out, HMAL.out (.inl hge2)]; rfl
                    have HR2 := Lib.hid hR2
                    clear hR2
                    go_wp2
                    go_ret
                    exact ⟨by rw [HR2.out]; rfl, ⟨y6, _, 0, hy6, G6, x6, X6, fun h9 => absurd (by rw [HR2.out] at h9; exact h9) (show ¬ (2 : Int) = 0 by decide)⟩, f6⟩
                  · have dge : decide (n ≤ k1) = false := decide_eq_false hge2
                    by_cases hlast : sz = 0 ∧ k1 + 1 = n
                    · have d0 : ((sz : Int) == 0) = true := by simp; omega
                      have d1 : ((k1 : Int) == (n : Int) - 1) = true := by simp; omega
                      have hR2 : R = ([], 0, 0, 2) := by rw [← HR.out, HMAL.out (.inr ⟨H240.out.1 hlast.1, by omega⟩)]; rfl
                      have HR2 := Lib.hid hR2
                      clear hR2
                      go_wp2
                      go_ret
                      exact ⟨by rw [HR2.out]; rfl, ⟨y6, _, 0, hy6, G6, x6, X6, fun h9 => absurd (by rw [HR2.out] at h9; exact h9) (show ¬ (2 : Int) = 0 by decide)⟩, f6⟩
                    · have hgo : ((sz : Int) == 0) = false ∨ ((sz : Int) == 0) = true ∧ ((k1 : Int) == (n : Int) - 1) = false := by
                        by_cases h : sz = 0
                        · exact .inr ⟨by simp; omega, by simp; omega⟩
                        · exact .inl (by simp; omega)
                      have hnx := HGO.out (by have := H240.out; omega)
                      rw [Int.toNat_natCast, ← HSZ.out, ← hvq.out.2] at hnx
                      have hkn : k1 < n := by omega
                      have hzb := (zzN_bd (F + k1) (by omega)).1
                      have cz2 := X6.z k1 hkn
                      have hset : (L.set i y6)[i]? = some y6 := by rw [List.getElem?_set_self HIL.out]
                      have hbn : ∀ j, k1 + 1 ≤ j → j < n → -2000 ≤ (y6.set (zzN (F + k1)) v).getD (zzN (F + j)) 0 ∧ (y6.set (zzN (F + k1)) v).getD (zzN (F + j)) 0 ≤ 2000 := fun j h1 h2 => by
                        rw [getD_set_ne _ (zz_ne (i := j) (j := k1) (by omega) (by omega) (by omega)), HAF.out j (by omega) h2]
                        exact HG2.out.2.2.2.1 j (by omega) h2
                      obtain ⟨zz, hzz⟩ : ∃ z, z = zzN (F + k1) := ⟨_, rfl⟩
                      rw [← hzz] at hzb cz2 hnx hbn
                      have fg2 := G6.fz (i * 64 + zz)
                      have cg2 := G6.cell hset hzb
                      have HNX := Lib.hid hnx
                      have HBN := Lib.hid hbn
                      have hset2 := Lib.hid hset
                      have hz0 : (0 : Int) ≤ (zz : Int) := by omega
                      have hz1 : (zz : Int) < 64 := by omega
                      have hm0 : enM wj wp = 1 := HG2.out.2.2.2.2
                      have HM0 := Lib.hid hm0
                      clear hzz hset hnx hbn hge2 hlast hm0
                      rcases hgo with d0 | ⟨d0, d1⟩
                      all_goals
                        go_upto_region 18 with fail
                        go_still_tail 11, (by kernel_rfl)
                        repeat still_step
                        try refine wpStill_nil ?_
                        change wpList _ _ _ _ _ w6.drew
                        have G8 := (G6.drewN 1).set hset2.out hzb v
                        rw [List.set_set] at G8
                        have hx8 : Re (w6.drew.setCell ⟨g, i * 64 + zz, none⟩ (.int .i64 v)) rp true A c Bs m6 := (x6.drewN 1).keep (S := fun b => b = g) (Fr.setCell (S := fun b => b = g) (Fr.refl _ _) (p := ⟨g, i * 64 + zz, none⟩) (.inl rfl) (.int .i64 v)) (fun e => HE.out.gr e.symm) HE.out.Ag
                        have hX8 : Wk (w6.drew.setCell ⟨g, i * 64 + zz, none⟩ (.int .i64 v)) wp F T h K p1 rp left 0 gz n cz := (X6.drewN 1).keep (S := fun b => b = g) (Fr.setCell (S := fun b => b = g) (Fr.refl _ _) (p := ⟨g, i * 64 + zz, none⟩) (.inl rfl) (.int .i64 v)) (fun e => HE.out.gw e.symm) (fun e => HE.out.gz e.symm)
                        have hf8 := (f6.drewN 1).setCell (p := ⟨g, i * 64 + zz, none⟩) (.inl (.inr (.inr rfl))) (.int .i64 v)
                        have HX8 := Lib.hid (And.intro G8 (And.intro hx8 (And.intro hX8 (And.intro hf8 (enM_0 hX8.c7)))))
                        clear G8 hx8 hX8 hf8 G6 x6 X6 f6
                        have fg3 : w6.drew.frozen? ⟨g, i * 64 + zz, none⟩ = false := fg2
                        have cg3 : w6.drew.cell? ⟨g, i * 64 + zz, none⟩ = some (.int .i64 (y6.getD zz 0)) := cg2
                        go_wp2_with fail
                        go_roundw
                        case rel => exact ⟨k1 + 1, m6, 0, y6.set zz v, by omega, by go_num, by rw [List.length_set]; exact hy6, HX8.out.1, HX8.out.2.1, HX8.out.2.2.1, fun q => absurd q (by decide), fun _ => HNX.out.symm, HBN.out, HX8.out.2.2.2.1⟩
                        case measure => have h8 : enM ((w6.setCell ⟨g, i * 64 + zz, none⟩ (.int .i64 v)).drew) wp = 1 := HX8.out.2.2.2.2; rw [h8, HM0.out]; simp [intOf]; omega
                · have hR2 : R = ([], 0, 0, 8) := by rw [← HR.out, ← HRD.out, rdG_few2 hlt HF.out HEND.out hno1 hlen5 hPs hpe]; rfl
                  have HR2 := Lib.hid hR2
                  have h8 : e1 = 8 := by have := HBD.out.2; omega
                  subst h8
                  have hne2 : errE 8 = errV 8 := errE_ne2 (by decide)
                  have HNE := Lib.hid hne2
                  clear hpass hbd haf hP hlen5 hno1 hPs hne2 hR2
                  go_wp2_with (go_at_call 152; refine HPS.out.mono ?_; rintro e6 w6 ⟨rfl, ⟨y6, m6, hy6, G6, x6, hn6⟩, hf6⟩; dsimp only; rw [HNE.out]; unfold errV)
                  go_ret
                  rw [List.set_set] at G6
                  exact ⟨by rw [HR2.out]; dsimp only; rw [HNE.out]; rfl, ⟨y6, _, 0, hy6, G6, x6, X5.keep hf6 (fun e => e.elim HE.out.wr (fun e => HE.out.gw e.symm)) (fun e => e.elim HE.out.zr (fun e => HE.out.gz e.symm)), fun h9 => absurd (by rw [HR2.out] at h9; exact h9) (show ¬ (8 : Int) = 0 by decide)⟩, f5.trans (hf6.mono (S' := fun b => b = wp ∨ b = rp ∨ b = g) (fun b hb => .inr hb))⟩
        · have hR2 : R = ([], 0, 0, er) := by rw [← HR.out, ← HRD.out, rdG_bad hlt HF.out he]; exact if_pos he
          have HR2 := Lib.hid hR2
          have HER := Lib.hid he
          have hne2 := errE_ne2 he
          have HNE := Lib.hid hne2
          clear hR2 he hne2
          go_wp2_with (go_at_call 151; refine HSY.out.mono ?_; rintro e4 w4 hq4; obtain ⟨rfl, ⟨m4, en4, x4, X4, _⟩, hf4⟩ := hq4.1 HER.out; rw [HNE.out]; unfold errV)
          go_ret
          exact ⟨by rw [HR2.out]; dsimp only; rw [HNE.out]; rfl, ⟨y2, m4, en4, HG2.out.2.1, HG2.out.1.keep hf4 (fun e => e.elim HE.out.gw HE.out.gr), x4, X4, fun h9 => absurd (by rw [HR2.out] at h9; exact h9) HER.out⟩, HG2.out.2.2.1.trans (hf4.mono (fun b hb => hb.elim .inl (fun e => .inr (.inl e))))⟩
      · have hRG2 := hRe (by omega)
        have dn : ((en2 : Int) == 0) = false := by simp; exact hen
        have hR2 : R = rdZ (bitsOf true Bs) F n (K : Nat) k a en2 y2 := by rw [← HR.out, hRG2]; exact if_neg (by simp)
        have HR2 := Lib.hid hR2
        have hpass := HPASS.out hRG2
        have HP := Lib.hid hpass
        clear hR2 hpass hRG2 hRe hRa HPASS
        by_cases hpe : (rdP (bitsOf true Bs) F n (K : Nat) k a n y2).2.2.2 = 0
        · have hR3 : R = ((rdP (bitsOf true Bs) F n (K : Nat) k a n y2).1, (rdP (bitsOf true Bs) F n (K : Nat) k a n y2).2.2.1, en2, 0) := by rw [HR2.out]; exact if_neg (by simpa using hpe)
          have HR3 := Lib.hid hR3
          have HPE := Lib.hid hpe
          clear hR3 hpe
          go_wp2_with (go_at_call 152; refine HP.out.mono ?_; rintro e6 w6 ⟨rfl, ⟨y6, m6, hy6, G6, x6, hn6⟩, hf6⟩; rw [HPE.out, errE_nil2])
          go_ret
          rw [List.set_set] at G6
          obtain ⟨q1, q2⟩ := hn6 HPE.out
          exact ⟨by rw [HR3.out]; rfl, ⟨y6, m6, en2, hy6, G6, x6, X2.keep hf6 (fun e => e.elim HE.out.wr (fun e => HE.out.gw e.symm)) (fun e => e.elim HE.out.zr (fun e => HE.out.gz e.symm)), fun _ => by rw [HR3.out]; exact ⟨q1, q2, rfl⟩⟩, hf2.trans (hf6.mono (fun b hb => .inr hb))⟩
        · have hR3 : R = ([], 0, 0, (rdP (bitsOf true Bs) F n (K : Nat) k a n y2).2.2.2) := by rw [HR2.out]; exact if_pos hpe
          have HR3 := Lib.hid hR3
          have HPE := Lib.hid hpe
          have hne2 := errE_ne2 hpe
          have HNE := Lib.hid hne2
          clear hR3 hpe hne2
          go_wp2_with (go_at_call 152; refine HP.out.mono ?_; rintro e6 w6 ⟨rfl, ⟨y6, m6, hy6, G6, x6, _⟩, hf6⟩; rw [HNE.out]; unfold errV)
          go_ret
          rw [List.set_set] at G6
          exact ⟨by rw [HR3.out]; dsimp only; rw [HNE.out]; rfl, ⟨y6, m6, en2, hy6, G6, x6, X2.keep hf6 (fun e => e.elim HE.out.wr (fun e => HE.out.gw e.symm)) (fun e => e.elim HE.out.zr (fun e => HE.out.gz e.symm)), fun h9 => absurd (by rw [HR3.out] at h9; exact h9) HPE.out⟩, hf2.trans (hf6.mono (fun b hb => .inr hb))⟩
    · have dl : decide (k < n) = false := decide_eq_false hlt
      have hRG2 : RG = (y2, k, a, en2, 0) := by
        by_cases hen : en2 = 0
        · rw [← hRa hen, rdG_out hlt, hen]
        · exact hRe (by omega)
      have hR2 : R = rdZ (bitsOf true Bs) F n (K : Nat) k a en2 y2 := by rw [← HR.out, hRG2]; exact if_neg (by simp)
      have HR2 := Lib.hid hR2
      have hpass := HPASS.out hRG2
      have HP := Lib.hid hpass
      clear hR2 hpass hRG2 hRe hRa HPASS
      by_cases hpe : (rdP (bitsOf true Bs) F n (K : Nat) k a n y2).2.2.2 = 0
      · have hR3 : R = ((rdP (bitsOf true Bs) F n (K : Nat) k a n y2).1, (rdP (bitsOf true Bs) F n (K : Nat) k a n y2).2.2.1, en2, 0) := by rw [HR2.out]; exact if_neg (by simpa using hpe)
        have HR3 := Lib.hid hR3
        have HPE := Lib.hid hpe
        clear hR3 hpe
        go_wp2_with (go_at_call 152; refine HP.out.mono ?_; rintro e6 w6 ⟨rfl, ⟨y6, m6, hy6, G6, x6, hn6⟩, hf6⟩; rw [HPE.out, errE_nil2])
        go_ret
        rw [List.set_set] at G6
        obtain ⟨q1, q2⟩ := hn6 HPE.out
        exact ⟨by rw [HR3.out]; rfl, ⟨y6, m6, en2, hy6, G6, x6, X2.keep hf6 (fun e => e.elim HE.out.wr (fun e => HE.out.gw e.symm)) (fun e => e.elim HE.out.zr (fun e => HE.out.gz e.symm)), fun _ => by rw [HR3.out]; exact ⟨q1, q2, rfl⟩⟩, hf2.trans (hf6.mono (fun b hb => .inr hb))⟩
      · have hR3 : R = ([], 0, 0, (rdP (bitsOf true Bs) F n (K : Nat) k a n y2).2.2.2) := by rw [HR2.out]; exact if_pos hpe
        have HR3 := Lib.hid hR3
        have HPE := Lib.hid hpe
        have hne2 := errE_ne2 hpe
        have HNE := Lib.hid hne2
        clear hR3 hpe hne2
        go_wp2_with (go_at_call 152; refine HP.out.mono ?_; rintro e6 w6 ⟨rfl, ⟨y6, m6, hy6, G6, x6, _⟩, hf6⟩; rw [HNE.out]; unfold errV)
        go_ret
        rw [List.set_set] at G6
        exact ⟨by rw [HR3.out]; dsimp only; rw [HNE.out]; rfl, ⟨y6, m6, en2, hy6, G6, x6, X2.keep hf6 (fun e => e.elim HE.out.wr (fun e => HE.out.gw e.symm)) (fun e => e.elim HE.out.zr (fun e => HE.out.gz e.symm)), fun h9 => absurd (by rw [HR3.out] at h9; exact h9) HPE.out⟩, hf2.trans (hf6.mono (fun b hb => .inr hb))⟩
end
end Go.Proofs.Ytlhappecjjbopaa
