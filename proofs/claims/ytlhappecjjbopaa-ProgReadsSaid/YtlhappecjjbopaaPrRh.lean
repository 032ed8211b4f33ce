/-
  Prog: the program's reading of a band, by a contract. Conditions: symbols below 256, at most 68719476736 bytes, at most 1000 blocks.
-/
import Derived.Test.YtlhappecjjbopaaPrRg
namespace Go.Proofs.Ytlhappecjjbopaa
open Go.RowKit
set_option linter.unusedVariables false
set_option maxRecDepth 100000
section
variable {ls : List Int} {O : List Nat} {C : List Int} {w : World} {B p1 rp : Nat} {A : Option Addr} {c m : Nat} {Bs : List Int}
def RacP (S Z : List Int) (rp : Nat) (A : Option Addr) (c : Nat) (Bs : List Int) (m : Nat) (f t h l : Int) (G : List (List Int)) (w : World) (e : Ending) (w' : World) : Prop :=
  (AcOk f t h l G ∧ WhL f.toNat (t.toNat + 1 - f.toNat) h.toNat G → ∀ R, rdAll S Z (bitsOf true Bs) f.toNat (t.toNat + 1 - f.toNat) h l G m 0 = R →
    (R.2.2 = 0 → ∃ v, e = .returned (.tuple #[v, .nilIface]) ∧ w'.ownsRow w.heap.size 70 64 v G.length (R.1.map iv).flatten ∧ (∀ x ∈ R.1, x.length = 64) ∧ R.1.length = G.length ∧ Re w' rp true A c Bs R.2.1) ∧ (R.2.2 ≠ 0 → e = .returned (.tuple #[.slice none 0 0, errV R.2.2]))) ∧
  (¬ (AcOk f t h l G ∧ WhL f.toNat (t.toNat + 1 - f.toNat) h.toNat G) → e = .returned (.tuple #[.slice none 0 0, errV 6])) ∧ Fp rp w w'
def RaR (S Z : List Int) (F T N : Nat) (h : Int) (K p1 rp wp gz cz : Nat) (A : Option Addr) (c : Nat) (Bs : List Int) (b2 n : Nat) (v : Value) (G : List (List Int)) (R : List (List Int) × Nat × Int) (w5 : World) (ix : Value) (wr : World) : Prop :=
  ∃ (i a en left : Nat) (D L : List (List Int)), en ≤ 1000 ∧ i ≤ n ∧ ix = .int .i64 (i : Nat) ∧ D.length = i ∧ L = D ++ G.drop i ∧ (∀ x ∈ D, x.length = 64) ∧ wr.ownsRow b2 70 64 v n (L.map iv).flatten ∧ Re wr rp true A c Bs a ∧ Wk wr wp F T h K p1 rp left en gz N cz ∧ R = cmbR D (rdAll S Z (bitsOf true Bs) F N h (K : Nat) (G.drop i) a en) ∧ Fr (fun b => b = wp ∨ b = rp ∨ v.ownBlock = some b) w5 wr
theorem keep_4 {W W' : World} {b : Nat} {x y z u : Value} (hb : Below W.heap.size W W') (h : W.cell? ⟨b, 0, none⟩ = some x ∧ W.cell? ⟨b, 1, none⟩ = some y ∧ W.cell? ⟨b, 2, none⟩ = some z ∧ W.cell? ⟨b, 3, none⟩ = some u) : W'.cell? ⟨b, 0, none⟩ = some x ∧ W'.cell? ⟨b, 1, none⟩ = some y ∧ W'.cell? ⟨b, 2, none⟩ = some z ∧ W'.cell? ⟨b, 3, none⟩ = some u :=
  ⟨(hb.cell (p := ⟨b, 0, none⟩) (World.block_lt_of_cell? W _ h.1)).trans h.1, (hb.cell (p := ⟨b, 1, none⟩) (World.block_lt_of_cell? W _ h.2.1)).trans h.2.1, (hb.cell (p := ⟨b, 2, none⟩) (World.block_lt_of_cell? W _ h.2.2.1)).trans h.2.2.1, (hb.cell (p := ⟨b, 3, none⟩) (World.block_lt_of_cell? W _ h.2.2.2)).trans h.2.2.2⟩
set_option maxHeartbeats 32000000 in
theorem pread_any (hK : BkS w B p1 ls O C) (ho : Ordd ls O C) (hSy : ∀ x ∈ sy O, 0 ≤ x ∧ x ≤ 255) (hBr : B ≤ rp) (x : Re w rp true A c Bs m) (hm : Bs.length ≤ 68719476736) (hAl : ∀ q, A = some q → q.block < w.heap.size)
    {A2 : Option Addr} {n c2 : Nat} {G : List (List Int)} (hG : Blk w A2 n G) (hn : n ≤ 1000) (f t h l : Int) :
    Calls Try.prog 93 #[.pointer (some ⟨p1, 0, none⟩), .pointer (some ⟨rp, 0, none⟩), .slice A2 n c2, .agg #[.int .i64 f, .int .i64 t, .int .i64 h, .int .i64 l]] w (RacP (sy O) (sz ls O) rp A c Bs m f t h l G w) := by
  have X := Box4.new w 107 (.int .i64 f) (.int .i64 t) (.int .i64 h) (.int .i64 l)
  have hb0 : Below w.heap.size w (w.alloc (.cells #[.int .i64 f, .int .i64 t, .int .i64 h, .int .i64 l] 107)) := (Below.refl _ _).alloc (Nat.le_refl _) _
  have HGG := Lib.hid hG
  have HK := Lib.hid hK
  have HRE := Lib.hid x
  have hrl := x.lt
  clear hG hK x
  go_enter Try.func93, Try.ntmps93
  go_upto_region 1 with fail
  obtain ⟨gb, hgb⟩ : ∃ gb, gb = w.heap.size := ⟨_, rfl⟩
  generalize w.alloc (.cells #[.int .i64 f, .int .i64 t, .int .i64 h, .int .i64 l] 107) = w0 at *
  rw [← hgb] at X ⊢
  have HGB := Lib.hid hgb
  clear hgb
  have hg0 := HGG.out.below hb0
  obtain ⟨_, x0, x1, x2, x3⟩ := id X
  by_cases hgd : Gd f t h l
  · have HGD := Lib.hid hgd
    go_wp2_with fail
    refine (bcheck_any f t h l .nilIface (fun hg => rfl) (fun hg => absurd hgd hg) w0).mono ?_; rintro e w1 ⟨rfl, hb1⟩
    have X1 := X.below hb1 X.lt
    have hb1' := hb0.trans (hb1.mono hb0.size)
    clear x0 x1 x2 x3 X hgd
    obtain ⟨_, x0, x1, x2, x3⟩ := id X1
    by_cases hf0 : f = 0
    · have d0 : decide (f = 0) = true := decide_eq_true hf0
      have HF0 := Lib.hid hf0
      clear hf0
      go_wp2_with fail
      refine (dc_any f t h l w1).mono ?_; rintro e w2 ⟨rfl, hb2⟩
      go_wp2
      go_ret2
      exact ⟨fun h => absurd HF0.out h.1.2.1, fun _ => rfl, Fp.of_below (hb1'.trans (hb2.mono hb1'.size))⟩
    · have d0 : decide (f = 0) = false := decide_eq_false hf0
      have HF0 := Lib.hid hf0
      clear hf0
      go_wp2_with fail
      refine (dc_any f t h l w1).mono ?_; rintro e w2 ⟨rfl, hb2⟩
      have X2 := X1.below hb2 X1.lt
      have hb2' := hb1'.trans (hb2.mono hb1'.size)
      have hg2 := HGG.out.below hb2'
      clear x0 x1 x2 x3 X1
      obtain ⟨_, x0, x1, x2, x3⟩ := id X2
      by_cases hgl : GoodL G
      · have HGL := Lib.hid hgl
        have dg := gL_t hgl
        go_wp2_with fail
        refine (sound_any A2 n c2 G w2 hg2 (by omega)).mono ?_; rintro e w3 ⟨rfl, hb3⟩
        rw [dg]
        have X3 := X2.below hb3 X2.lt
        have hb3' := hb2'.trans (hb3.mono hb2'.size)
        have hg3 := HGG.out.below hb3'
        clear x0 x1 x2 x3 X2 hgl dg
        obtain ⟨_, x0, x1, x2, x3⟩ := id X3
        have hgd2 : 1 ≤ f ∧ f ≤ t ∧ t ≤ 63 ∧ 0 ≤ l ∧ l ≤ 9 ∧ 0 ≤ h ∧ h ≤ 10 := by have := HGD.out; have := HF0.out; unfold Gd at *; omega
        obtain ⟨F, rfl⟩ := Int.eq_ofNat_of_zero_le (show 0 ≤ f by omega)
        obtain ⟨T, rfl⟩ := Int.eq_ofNat_of_zero_le (show 0 ≤ t by omega)
        obtain ⟨K, rfl⟩ := Int.eq_ofNat_of_zero_le (show 0 ≤ l by omega)
        obtain ⟨H, rfl⟩ := Int.eq_ofNat_of_zero_le (show 0 ≤ h by omega)
        have hft : F ≤ T := by omega
        have hT63 : T ≤ 63 := by omega
        have hK9 : K ≤ 9 := by omega
        have hH10 : H ≤ 10 := by omega
        have hF1 : 1 ≤ F := by omega
        clear hgd2
        go_wp2_with fail
        refine (whole_any hg3 hn F T H (K : Nat) hft hT63 hH10).mono ?_; rintro e w4 ⟨rfl, hb4⟩
        have X4 := X3.below hb4 X3.lt
        have hb4' := hb3'.trans (hb4.mono hb3'.size)
        have hg4 := HGG.out.below hb4'
        clear x0 x1 x2 x3 X3
        obtain ⟨_, x0, x1, x2, x3⟩ := id X4
        obtain ⟨N, hN⟩ : ∃ N, N = T + 1 - F := ⟨_, rfl⟩
        have HN := Lib.hid hN
        rw [← hN]
        by_cases hwh : WhL F N H G
        · have HWH := Lib.hid hwh
          rw [whL_t hwh]
          clear hwh hN
          go_wp2_with fail
          refine (cloneB_any A2 n c2 G w4 hg4 (by omega)).mono ?_; rintro e w5 ⟨v, rfl, ho5, hb5⟩
          have X5 := X4.below hb5 X4.lt
          have hb5' := hb4'.trans (hb5.mono hb4'.size)
          have hs4 := hb4'.size
          have hs5 := hb5.size
          clear x0 x1 x2 x3
          have XB := X4.lt
          clear X4
          obtain ⟨_, x0, x1, x2, x3⟩ := id X5
          go_upto_region 4 with fail
          have hpd := places_any F T (H : Int) (K : Nat) hft hT63 w5.drew
          rw [← HN.out] at hpd
          have HPD := Lib.hid hpd
          have hN1 : 1 ≤ N := by have := HN.out; omega
          clear hpd
          go_region_held3 (fun w' => w'.cell? ⟨gb, 0, none⟩ = some (.int .i64 (F : Nat)) ∧ w'.cell? ⟨gb, 1, none⟩ = some (.int .i64 (T : Nat)) ∧ w'.cell? ⟨gb, 2, none⟩ = some (.int .i64 (H : Nat)) ∧ w'.cell? ⟨gb, 3, none⟩ = some (.int .i64 (K : Nat)))
            (first | go_keep | exact keep_4 hb6 (by first | assumption | exact ⟨by assumption, by assumption, by assumption, by assumption⟩))
            (first | (go_at_call 126; refine HPD.out.mono ?_; rintro e6 w6 ⟨vz, rfl, hoz, hb6⟩; obtain ⟨gz, cz, hze, hcn, hcm, hgzl, hgz⟩ := own_pos hoz hN1; subst hze))
          have hb6' : Below w5.heap.size w5 w6 := ((Below.refl _ w5).drew).trans hb6
          obtain ⟨wp, hwp⟩ : ∃ q, q = w6.heap.size := ⟨_, rfl⟩
          have hba : Below w6.heap.size w6 (w6.alloc (.cells #[.int .i64 (F : Nat), .int .i64 (T : Nat), .int .i64 (H : Nat), .int .i64 (K : Nat), .pointer (some ⟨p1, 0, none⟩), .pointer (some ⟨rp, 0, none⟩), .int .i64 0, .int .i64 0, .slice (some ⟨gz, 0, none⟩) N cz] 183)) := (Below.refl _ _).alloc (Nat.le_refl _) _
          have XW : Bln (w6.alloc (.cells #[.int .i64 (F : Nat), .int .i64 (T : Nat), .int .i64 (H : Nat), .int .i64 (K : Nat), .pointer (some ⟨p1, 0, none⟩), .pointer (some ⟨rp, 0, none⟩), .int .i64 0, .int .i64 0, .slice (some ⟨gz, 0, none⟩) N cz] 183)) w6.heap.size 183 (wkL F T (H : Int) K p1 rp 0 0 gz N cz) := Bln.new w6 _ _
          rw [← hwp] at XW ⊢
          have hfN : F + N ≤ 64 := by have := HN.out; omega
          have hzc : ∀ i, i < N → w6.cell? ⟨gz, i, none⟩ = some (.int .i64 ((zzN (F + i) : Nat) : Int)) := fun i hi => by
            have h := World.ownsRow.cellAt hoz i (by omega)
            rwa [show (iv (plc F N))[i]? = some (.int .i64 ((zzN (F + i) : Nat) : Int)) from by unfold iv; rw [List.getElem?_map, plc_at hfN hi]; rfl] at h
          have hs6 := hb6'.size
          have hgz5 : w5.heap.size ≤ gz := hgzl
          have hsa := hba.size
          have hwl := XW.lt
          have X7W : Wk (w6.alloc (.cells #[.int .i64 (F : Nat), .int .i64 (T : Nat), .int .i64 (H : Nat), .int .i64 (K : Nat), .pointer (some ⟨p1, 0, none⟩), .pointer (some ⟨rp, 0, none⟩), .int .i64 0, .int .i64 0, .slice (some ⟨gz, 0, none⟩) N cz] 183)) wp F T (H : Int) K p1 rp 0 0 gz N cz := ⟨XW, ⟨by omega, hfN, hcn, hcm, hK9⟩, by omega, fun i hi => (hba.cell (p := ⟨gz, i, none⟩) hgz).trans (hzc i hi)⟩
          have ho7 := own_keepN (own_keepN ho5 hb6') hba
          have X7 := (X5.below hb6' X5.lt).below hba (X5.below hb6' X5.lt).lt
          have hb7 := (hb5'.trans (hb6'.mono hb5'.size)).trans (hba.mono (by have := hb5'.size; omega))
          generalize w6.alloc (.cells #[.int .i64 (F : Nat), .int .i64 (T : Nat), .int .i64 (H : Nat), .int .i64 (K : Nat), .pointer (some ⟨p1, 0, none⟩), .pointer (some ⟨rp, 0, none⟩), .int .i64 0, .int .i64 0, .slice (some ⟨gz, 0, none⟩) N cz] 183) = w7 at *
          have hx7 := HRE.out.below hb7
          have hgbq1 : gb ≤ w.heap.size := by rw [HGB.out]; exact Nat.le_refl _
          have hgbq2 : w.heap.size ≤ gb := by rw [HGB.out]; exact Nat.le_refl _
          have hwp1 : wp ≤ w6.heap.size := by omega
          have hwp2 : w6.heap.size ≤ wp := by omega
          clear hwp
          have hBs := HK.out.size
          obtain ⟨Av, cv, hve, _, _, _⟩ := own_sliceN ho7
          subst hve
          have hlen := HGG.out.len
          have hl64 := HGG.out.l64
          have hgbl5 := X5.lt
          have hAn : ∀ k, (Value.slice Av n cv).ownBlock = some k → w4.heap.size ≤ k ∧ k < w5.heap.size := fun k hk => ho5.lt k hk
          have h0R : ∃ R, rdAll (sy O) (sz ls O) (bitsOf true Bs) F N (H : Nat) (K : Nat) G m 0 = R := ⟨_, rfl⟩
          obtain ⟨R, hR⟩ := h0R
          have HR := Lib.hid hR
          have H0 := Lib.hid (show RaR (sy O) (sz ls O) F T N (H : Nat) K p1 rp wp gz cz A c Bs w4.heap.size n (.slice Av n cv) G R w7 (.int .i64 0) w7 from
            ⟨0, m, 0, 0, [], G, Nat.zero_le _, Nat.zero_le _, rfl, rfl, rfl, (fun q hq => by cases hq), ho7, hx7, X7W, (by
              rw [List.drop_zero, hR]; unfold cmbR
              by_cases h9 : R.2.2 = 0
              · rw [if_neg (by simpa using h9), List.nil_append]
                obtain ⟨R1, R2, R3⟩ := R
                dsimp only at h9
                rw [h9]
              · rw [if_pos h9, ← hR]
                exact (rdAll_err _ _ _ _ _ _ _ _ _ _ (by rw [hR]; exact h9)).symm), Fr.refl _ _⟩)
          clear x0 x1 x2 x3 hx7 ho7 hR X5 hoz hzc XW X7W hba hb6 hb6' hb5 hb4 hb3 hb2 hb1 ho5 hb0 hb1' hb2' hb3' hb4' hb5' hg0 hg2 hg3 hg4
          go_wp2_with fail
          go_loopw [45] (RaR (sy O) (sz ls O) F T N (H : Nat) K p1 rp wp gz cz A c Bs w4.heap.size n (.slice Av n cv) G R w7) (fun ix _ => n - (intOf ix).toNat)
          case atStart => exact H0.out
          case round =>
            clear H0
            obtain ⟨i, a, en, left, D, L, hen, hi, rfl, hD, hL, hD64, hown, x8, X8, hRc, hf8⟩ := hrel
            obtain ⟨w8, rfl⟩ : ∃ w8 : World, w8 = wr := ⟨_, rfl⟩
            by_cases hlt : i < n
            · have dl : decide (i < n) = true := decide_eq_true hlt
              obtain ⟨g, cap, hge, hbg, hgl⟩ := hown.form (by omega)
              injection hge with hg1 hg2 hg3
              subst hg1 hg3
              have hgb2 := hAn g rfl
              obtain ⟨x, hx⟩ : ∃ x, G[i]? = some x := ⟨G[i]'(by omega), List.getElem?_eq_getElem _⟩
              have hdr : G.drop i = x :: G.drop (i + 1) := by
                rw [List.drop_eq_getElem_cons (by omega)]
                rw [List.getElem?_eq_getElem (by omega)] at hx
                injection hx with hx
                rw [hx]
              have hxm := List.mem_of_getElem? hx
              have hxg := HGL.out x hxm
              have hLi : L[i]? = some x := by rw [hL, hdr, List.getElem?_append_right (by omega), hD, Nat.sub_self]; rfl
              have hLn : L.length = n := by rw [hL, List.length_append, List.length_drop]; omega
              have hL64 : ∀ q ∈ L, q.length = 64 := fun q hq => by
                rw [hL] at hq
                rcases List.mem_append.1 hq with h | h
                · exact hD64 q h
                · exact hl64 q (List.mem_of_mem_drop h)
              have G8 : Gro w8 w4.heap.size g cv n L := ⟨hown, hLn, hL64⟩
              have E : PEnv B wp rp g gz A := ⟨by omega, by omega, by omega, by omega, by omega, by omega, fun q hq e => by have := hAl q hq; omega, fun q hq e => by have := hAl q hq; omega, by omega, by omega, by omega⟩
              obtain ⟨lf, hlf⟩ : ∃ q, q = n - i := ⟨_, rfl⟩
              have hlfi : (n : Int) - (i : Int) = (lf : Int) := by omega
              have hlf1 : lf = (G.drop (i + 1)).length + 1 := by rw [List.length_drop]; omega
              have hlfb : lf ≤ 1000 := by omega
              obtain ⟨X9, hf9⟩ := X8.setLeft E.zw lf
              have f6 := X8.fz (i := 6) (by omega)
              have c6 := X8.c6
              have G9 := G8.keep hf9 E.gw
              have x9 := x8.keep hf9 (fun e => E.wr e.symm) E.Aw
              have hf89 : Fr (fun b => b = wp ∨ b = rp ∨ b = g) w7 (w8.setCell ⟨wp, 6, none⟩ (.int .i64 (lf : Nat))) := (hf8.mono (fun b hb => hb.imp id (fun hb => hb.imp id (fun hb => by injection hb with hb; exact hb.symm)))).trans (hf9.mono (fun b hb => .inl hb))
              have HF := Lib.hid (And.intro hRc (And.intro hL (And.intro hdr (And.intro hLi (And.intro hlf1 (And.intro hxg (And.intro (hl64 x hxm) (And.intro E (And.intro hD hD64)))))))))
              clear hRc hL hdr hLi hlf1 hxg hxm hx hD64 hown G8 X8 x8 hf8 hL64 hlf hD
              go_upto_region 10 with fail
              generalize w8.setCell ⟨wp, 6, none⟩ (.int .i64 (lf : Nat)) = w9 at *
              have X9b : Box4 w9 gb (.int .i64 (F : Nat)) (.int .i64 (T : Nat)) (.int .i64 (H : Nat)) (.int .i64 (K : Nat)) := X7.fr hf89 (fun e => by rcases e with e | e | e <;> omega)
              obtain ⟨_, x0, x1, x2, x3⟩ := id X9b
              clear c6 f6
              by_cases hh : 0 < H
              · have dh : decide (0 < (H : Int)) = true := decide_eq_true (by omega)
                have hi0 : (0 : Int) ≤ (i : Int) := by omega
                have hi1 : (i : Int) < (n : Int) := by omega
                go_wp2_with fail
                refine (finer_any (F : Int) (T : Int) (H : Int) (K : Int) w9).mono ?_; rintro e w10 ⟨rfl, hb10⟩
                have X10 := X9.below hb10
                have G10 := G9.below hb10
                have x10 := x9.below hb10
                have hf10 := hf89.trans (Fr.of_below hb10)
                have hfw : Fp rp w w10 := (Fr.of_below hb7).trans' hf10 (fun b hb e => by rcases e with e | e | e <;> omega)
                have hK10 := HK.out.keep (hfw.below hBr (by omega))
                have hcall := pfine_any HF.out.2.2.2.2.2.2.2.1 hK10 ho hSy x10 hm X10 hlfb G10 HF.out.2.2.2.1 (fun j hj => by have h9 := tn_bd HF.out.2.2.2.2.2.2.1 HF.out.2.2.2.2.2.1 F (K : Int) j (by omega); omega) rfl (rdK_fine2 (h := (H : Int)) (by omega))
                rw [HF.out.2.2.2.2.1] at hcall
                obtain ⟨RK, hRK⟩ : ∃ q, rdK (sy O) (sz ls O) (bitsOf true Bs) ((G.drop (i + 1)).length + 1) F N (H : Int) (K : Nat) a en x = q := ⟨_, rfl⟩
                rw [hRK] at hcall
                obtain ⟨y1, a1, en1, er⟩ := RK
                have HC := Lib.hid hcall
                have HRK := Lib.hid hRK
                have hen1 := rdK_en (sy O) (sz ls O) (bitsOf true Bs) ((G.drop (i + 1)).length + 1) F N (H : Int) (K : Nat) a en x hen (by rw [← HF.out.2.2.2.2.1]; exact hlfb)
                have hen1b : en1 ≤ 1000 := by rw [hRK] at hen1; exact hen1
                clear hcall hRK X9 G9 x9 hf89 hb10 x0 x1 x2 x3 X9b X10 G10 x10 hK10
                by_cases he : er = 0
                · subst he
                  go_wp2_with fail
                  refine HC.out.mono ?_; rintro e w11 ⟨rfl, ⟨y, m11, en11, hy, G11, x11, X11, hn11⟩, hf11⟩
                  obtain ⟨rfl, rfl, rfl⟩ := hn11 rfl
                  dsimp only
                  rw [errE_nil2]
                  obtain ⟨X12, hf12⟩ := X11.setEn HF.out.2.2.2.2.2.2.2.1.zw (en11 - 1)
                  have f7 := X11.fz (i := 7) (by omega)
                  have c7 := X11.c7
                  have G12 := G11.keep hf12 HF.out.2.2.2.2.2.2.2.1.gw
                  have x12 := x11.keep hf12 (fun e => HF.out.2.2.2.2.2.2.2.1.wr e.symm) HF.out.2.2.2.2.2.2.2.1.Aw
                  have hf1012 := (hf10.trans hf11).trans (hf12.mono (S' := fun b => b = wp ∨ b = rp ∨ b = g) (fun b hb => .inl hb))
                  have hwe : wrap64 ((en11 : Int) - 1) = (en11 : Int) - 1 := by unfold wrap64; omega
                  have hmx : max ((en11 : Int) - 1) 0 = ((en11 - 1 : Nat) : Int) := by omega
                  have hmx2 : (if (en11 : Int) - 1 ≤ 0 then (0 : Int) else (en11 : Int) - 1) = ((en11 - 1 : Nat) : Int) := by split <;> omega
                  have hsq := cmbR_go (D := D) HRK.out
                  have HN2 := Lib.hid (show RaR (sy O) (sz ls O) F T N (H : Nat) K p1 rp wp gz cz A c Bs w4.heap.size n (.slice (some ⟨g, 0, none⟩) n cv) G R w7 (.int .i64 ((i + 1 : Nat) : Int)) (w11.setCell ⟨wp, 7, none⟩ (.int .i64 ((en11 - 1 : Nat) : Int))) from
                    ⟨i + 1, m11, en11 - 1, _, D ++ [y], L.set i y, by omega, by omega, rfl, by rw [List.length_append, HF.out.2.2.2.2.2.2.2.2.1]; rfl, by
                      rw [HF.out.2.1, HF.out.2.2.1, List.set_append_right _ _ (by rw [HF.out.2.2.2.2.2.2.2.2.1]; exact Nat.le_refl _), HF.out.2.2.2.2.2.2.2.2.1, Nat.sub_self]; simp, fun q hq => (by
                      rcases List.mem_append.1 hq with h | h
                      · exact HF.out.2.2.2.2.2.2.2.2.2 q h
                      · rw [List.mem_singleton.1 h]; exact hy), G12.own, x12, X12, by rw [HF.out.1, HF.out.2.2.1]; exact hsq, hf1012.mono (fun b hb => hb.imp id (fun hb => hb.imp id (fun hb => by rw [hb]; rfl)))⟩)
                  clear X11 X12 G11 G12 x11 x12 hf11 hf12 hf1012 hsq hfw hf10 hn11
                  go_wp2_with fail
                  go_roundw
                  case rel => have h := HN2.out; rw [show (((i + 1 : Nat) : Nat) : Int) = (i : Int) + 1 by omega] at h; exact h
                  case measure => simp [intOf]; omega
                · have hne2 := errE_ne2 he
                  have HNE := Lib.hid hne2
                  have HER := Lib.hid he
                  have hR2 : R = ([], 0, er) := by
                    rw [HF.out.1, HF.out.2.2.1, rdAll_bad HRK.out he]
                    exact if_pos he
                  have HR2 := Lib.hid hR2
                  clear hne2 he hR2
                  go_wp2_with fail
                  refine HC.out.mono ?_; rintro e w11 ⟨rfl, ⟨y, m11, en11, hy, G11, x11, X11, hn11⟩, hf11⟩
                  dsimp only
                  rw [HNE.out]
                  unfold errV
                  go_wp2
                  go_ret2
                  refine ⟨fun _ R' hR' => ?_, fun h9 => absurd ⟨⟨HGD.out, HF0.out, HGL.out⟩, by rw [Int.toNat_natCast, Int.toNat_natCast, Int.toNat_natCast, ← HN.out]; exact HWH.out⟩ h9, hfw.trans' hf11 (fun b hb e => by rcases e with e | e | e <;> omega)⟩
                  rw [Int.toNat_natCast, Int.toNat_natCast, ← HN.out, HR.out] at hR'
                  subst hR'
                  exact ⟨fun h9 => absurd (by rw [HR2.out] at h9; exact h9) HER.out, fun _ => by rw [HR2.out]; rfl⟩
              · have dh : decide (0 < (H : Int)) = false := decide_eq_false (by omega)
                have hi0 : (0 : Int) ≤ (i : Int) := by omega
                have hi1 : (i : Int) < (n : Int) := by omega
                go_wp2_with fail
                refine (finer_any (F : Int) (T : Int) (H : Int) (K : Int) w9).mono ?_; rintro e w10 ⟨rfl, hb10⟩
                have X10 := X9.below hb10
                have G10 := G9.below hb10
                have x10 := x9.below hb10
                have hf10 := hf89.trans (Fr.of_below hb10)
                have hfw : Fp rp w w10 := (Fr.of_below hb7).trans' hf10 (fun b hb e => by rcases e with e | e | e <;> omega)
                have hK10 := HK.out.keep (hfw.below hBr (by omega))
                have hcall := pfirst_any HF.out.2.2.2.2.2.2.2.1 hK10 ho hSy x10 hm X10 hlfb G10 HF.out.2.2.2.1 (rdK_first2 (h := (H : Int)) (by omega))
                rw [HF.out.2.2.2.2.1] at hcall
                obtain ⟨RK, hRK⟩ : ∃ q, rdK (sy O) (sz ls O) (bitsOf true Bs) ((G.drop (i + 1)).length + 1) F N (H : Int) (K : Nat) a en x = q := ⟨_, rfl⟩
                rw [hRK] at hcall
                obtain ⟨y1, a1, en1, er⟩ := RK
                have HC := Lib.hid hcall
                have HRK := Lib.hid hRK
                have hen1 := rdK_en (sy O) (sz ls O) (bitsOf true Bs) ((G.drop (i + 1)).length + 1) F N (H : Int) (K : Nat) a en x hen (by rw [← HF.out.2.2.2.2.1]; exact hlfb)
                have hen1b : en1 ≤ 1000 := by rw [hRK] at hen1; exact hen1
                clear hcall hRK X9 G9 x9 hf89 hb10 x0 x1 x2 x3 X9b X10 G10 x10 hK10
                by_cases he : er = 0
                · subst he
                  go_wp2_with fail
                  refine HC.out.mono ?_; rintro e w11 ⟨rfl, ⟨y, m11, en11, hy, G11, x11, X11, hn11⟩, hf11⟩
                  obtain ⟨rfl, rfl, rfl⟩ := hn11 rfl
                  dsimp only
                  rw [errE_nil2]
                  obtain ⟨X12, hf12⟩ := X11.setEn HF.out.2.2.2.2.2.2.2.1.zw (en11 - 1)
                  have f7 := X11.fz (i := 7) (by omega)
                  have c7 := X11.c7
                  have G12 := G11.keep hf12 HF.out.2.2.2.2.2.2.2.1.gw
                  have x12 := x11.keep hf12 (fun e => HF.out.2.2.2.2.2.2.2.1.wr e.symm) HF.out.2.2.2.2.2.2.2.1.Aw
                  have hf1012 := (hf10.trans hf11).trans (hf12.mono (S' := fun b => b = wp ∨ b = rp ∨ b = g) (fun b hb => .inl hb))
                  have hwe : wrap64 ((en11 : Int) - 1) = (en11 : Int) - 1 := by unfold wrap64; omega
                  have hmx : max ((en11 : Int) - 1) 0 = ((en11 - 1 : Nat) : Int) := by omega
                  have hmx2 : (if (en11 : Int) - 1 ≤ 0 then (0 : Int) else (en11 : Int) - 1) = ((en11 - 1 : Nat) : Int) := by split <;> omega
                  have hsq := cmbR_go (D := D) HRK.out
                  have HN2 := Lib.hid (show RaR (sy O) (sz ls O) F T N (H : Nat) K p1 rp wp gz cz A c Bs w4.heap.size n (.slice (some ⟨g, 0, none⟩) n cv) G R w7 (.int .i64 ((i + 1 : Nat) : Int)) (w11.setCell ⟨wp, 7, none⟩ (.int .i64 ((en11 - 1 : Nat) : Int))) from
                    ⟨i + 1, m11, en11 - 1, _, D ++ [y], L.set i y, by omega, by omega, rfl, by rw [List.length_append, HF.out.2.2.2.2.2.2.2.2.1]; rfl, by
                      rw [HF.out.2.1, HF.out.2.2.1, List.set_append_right _ _ (by rw [HF.out.2.2.2.2.2.2.2.2.1]; exact Nat.le_refl _), HF.out.2.2.2.2.2.2.2.2.1, Nat.sub_self]; simp, fun q hq => (by
                      rcases List.mem_append.1 hq with h | h
                      · exact HF.out.2.2.2.2.2.2.2.2.2 q h
                      · rw [List.mem_singleton.1 h]; exact hy), G12.own, x12, X12, by rw [HF.out.1, HF.out.2.2.1]; exact hsq, hf1012.mono (fun b hb => hb.imp id (fun hb => hb.imp id (fun hb => by rw [hb]; rfl)))⟩)
                  clear X11 X12 G11 G12 x11 x12 hf11 hf12 hf1012 hsq hfw hf10 hn11
                  go_wp2_with fail
                  go_roundw
                  case rel => have h := HN2.out; rw [show (((i + 1 : Nat) : Nat) : Int) = (i : Int) + 1 by omega] at h; exact h
                  case measure => simp [intOf]; omega
                · have hne2 := errE_ne2 he
                  have HNE := Lib.hid hne2
                  have HER := Lib.hid he
                  have hR2 : R = ([], 0, er) := by
                    rw [HF.out.1, HF.out.2.2.1, rdAll_bad HRK.out he]
                    exact if_pos he
                  have HR2 := Lib.hid hR2
                  clear hne2 he hR2
                  go_wp2_with fail
                  refine HC.out.mono ?_; rintro e w11 ⟨rfl, ⟨y, m11, en11, hy, G11, x11, X11, hn11⟩, hf11⟩
                  dsimp only
                  rw [HNE.out]
                  unfold errV
                  go_wp2
                  go_ret2
                  refine ⟨fun _ R' hR' => ?_, fun h9 => absurd ⟨⟨HGD.out, HF0.out, HGL.out⟩, by rw [Int.toNat_natCast, Int.toNat_natCast, Int.toNat_natCast, ← HN.out]; exact HWH.out⟩ h9, hfw.trans' hf11 (fun b hb e => by rcases e with e | e | e <;> omega)⟩
                  rw [Int.toNat_natCast, Int.toNat_natCast, ← HN.out, HR.out] at hR'
                  subst hR'
                  exact ⟨fun h9 => absurd (by rw [HR2.out] at h9; exact h9) HER.out, fun _ => by rw [HR2.out]; rfl⟩
            · have dl : decide (i < n) = false := decide_eq_false hlt
              obtain rfl : i = n := by omega
              have hge : G.drop i = [] := List.drop_eq_nil_of_le (by omega)
              rw [hge] at hL hRc
              rw [List.append_nil] at hL
              subst hL
              have hR2 : R = (L, a, 0) := by rw [hRc]; unfold cmbR rdAll; rw [if_neg (by simp)]; simp
              have HR2 := Lib.hid hR2
              have HO8 := Lib.hid hown
              have hAn2 := Lib.hid hAn
              clear hRc hR2 hge hown hAn
              go_wp2
              go_ret2
              have hfin := (Fr.of_below hb7).trans' (S := fun b => b = rp) hf8 (fun b hb e => by
                rcases e with e | e | e
                · omega
                · exact e
                · have := hAn2.out b e; omega)
              refine ⟨fun _ R' hR' => ?_, fun h9 => absurd ⟨⟨HGD.out, HF0.out, HGL.out⟩, by rw [Int.toNat_natCast, Int.toNat_natCast, Int.toNat_natCast, ← HN.out]; exact HWH.out⟩ h9, hfin⟩
              rw [Int.toNat_natCast, Int.toNat_natCast, ← HN.out, HR.out] at hR'
              subst hR'
              refine ⟨fun _ => ⟨_, rfl, ?_, by rw [HR2.out]; exact hD64, by rw [HR2.out]; exact hD.trans hlen.symm, by rw [HR2.out]; exact x8⟩, fun h9 => absurd (by rw [HR2.out]) h9⟩
              rw [HR2.out, hlen]
              exact own_baseN HO8.out (fun k hk => by have := (HO8.out.lt k hk).1; omega)
        · have HWH := Lib.hid hwh
          rw [whL_f hwh]
          clear hwh
          go_wp2
          go_ret2
          exact ⟨fun h => absurd h.2 (by rw [Int.toNat_natCast, Int.toNat_natCast, Int.toNat_natCast, ← HN.out]; exact HWH.out), fun _ => rfl, Fp.of_below hb4'⟩
      · have HGL := Lib.hid hgl
        have dg := gL_f hgl
        go_wp2_with fail
        refine (sound_any A2 n c2 G w2 hg2 (by omega)).mono ?_; rintro e w3 ⟨rfl, hb3⟩
        rw [dg]
        clear hgl dg
        go_wp2
        go_ret2
        exact ⟨fun h => absurd h.1.2.2 HGL.out, fun _ => rfl, Fp.of_below (hb2'.trans (hb3.mono hb2'.size))⟩
  · have HGD := Lib.hid hgd
    go_wp2_with fail
    refine (bcheck_any f t h l (.iface 53 (.int .i64 6)) (fun hg => absurd hg hgd) (fun hg => rfl) w0).mono ?_; rintro e w1 ⟨rfl, hb1⟩
    clear hgd
    go_wp2
    go_ret2
    exact ⟨fun h => absurd h.1.1 HGD.out, fun _ => rfl, Fp.of_below (hb0.trans (hb1.mono hb0.size))⟩
end
end Go.Proofs.Ytlhappecjjbopaa
