/-
  Prog: the program's reading of a symbol, of a known number's bit, and over known places; by contracts. Conditions: symbols below 256, at most 68719476736 bytes.
-/
import Derived.Test.YtlhappecjjbopaaPrX
import Derived.Test.YtlhappecjjbopaaPrRo
import Derived.Test.YtlhappecjjbopaaPrQ
namespace Go.Proofs.Ytlhappecjjbopaa
open Go.RowKit
set_option linter.unusedVariables false
set_option maxRecDepth 100000

theorem results_tmp4 {fn : Func} {t u v x : Tmp} (h : fn.results = #[.tmp t, .tmp u, .tmp v, .tmp x]) (tmps : Array Value) (P : Program) (w : World) :
    (results fn tmps).run P w = .ok (.tuple #[tmps.getD t undef, tmps.getD u undef, tmps.getD v undef, tmps.getD x undef]) w := by
  simp [results, h]
/-- the program's work on blocks -/
def wkL (F T : Nat) (h : Int) (K p1 rp left en gz n cz : Nat) : List Value :=
  [.int .i64 (F : Nat), .int .i64 (T : Nat), .int .i64 h, .int .i64 (K : Nat), .pointer (some ⟨p1, 0, none⟩), .pointer (some ⟨rp, 0, none⟩), .int .i64 (left : Nat), .int .i64 (en : Nat), .slice (some ⟨gz, 0, none⟩) n cz]
structure Wk (w : World) (wp F T : Nat) (h : Int) (K p1 rp left en gz n cz : Nat) : Prop where
  blk : Bln w wp 183 (wkL F T h K p1 rp left en gz n cz)
  fn : 0 < n ∧ F + n ≤ 64 ∧ n ≤ cz ∧ cz ≤ 9223372036854775807 ∧ K ≤ 9
  zlt : gz < w.heap.size
  z : ∀ i, i < n → w.cell? ⟨gz, i, none⟩ = some (.int .i64 ((zzN (F + i) : Nat) : Int))
section
variable {w w' : World} {wp F T K p1 rp left en gz n cz : Nat} {h : Int}
theorem Wk.keep {S : Nat → Prop} (X : Wk w wp F T h K p1 rp left en gz n cz) (hf : Fr S w w') (h1 : ¬ S wp) (h2 : ¬ S gz) : Wk w' wp F T h K p1 rp left en gz n cz :=
  ⟨X.blk.keep hf h1, X.fn, by have := hf.size; have := X.zlt; omega, fun i hi => (hf.cell (p := ⟨gz, i, none⟩) X.zlt h2).trans (X.z i hi)⟩
theorem Wk.below (X : Wk w wp F T h K p1 rp left en gz n cz) (hb : Below w.heap.size w w') : Wk w' wp F T h K p1 rp left en gz n cz :=
  X.keep (S := fun _ => False) (Fr.of_below hb) (fun f => f) (fun f => f)
theorem Wk.drewN (X : Wk w wp F T h K p1 rp left en gz n cz) (k : Nat) : Wk (w.drewN k) wp F T h K p1 rp left en gz n cz :=
  X.keep (S := fun _ => False) ((Fr.refl _ _).drewN k) (fun f => f) (fun f => f)
theorem Wk.setEn (X : Wk w wp F T h K p1 rp left en gz n cz) (hne : gz ≠ wp) (en' : Nat) : Wk (w.setCell ⟨wp, 7, none⟩ (.int .i64 (en' : Nat))) wp F T h K p1 rp left en' gz n cz ∧ Fp wp w (w.setCell ⟨wp, 7, none⟩ (.int .i64 (en' : Nat))) := by
  have hf : Fp wp w (w.setCell ⟨wp, 7, none⟩ (.int .i64 (en' : Nat))) := Fr.setCell (S := fun k => k = wp) (Fr.refl _ _) (p := ⟨wp, 7, none⟩) (.inl rfl) _
  exact ⟨⟨X.blk.set 7 _, X.fn, by have := Fr.size hf; have := X.zlt; omega, fun i hi => (Fr.cell hf (p := ⟨gz, i, none⟩) X.zlt hne).trans (X.z i hi)⟩, hf⟩
theorem Wk.setLeft (X : Wk w wp F T h K p1 rp left en gz n cz) (hne : gz ≠ wp) (l' : Nat) : Wk (w.setCell ⟨wp, 6, none⟩ (.int .i64 (l' : Nat))) wp F T h K p1 rp l' en gz n cz ∧ Fp wp w (w.setCell ⟨wp, 6, none⟩ (.int .i64 (l' : Nat))) := by
  have hf : Fp wp w (w.setCell ⟨wp, 6, none⟩ (.int .i64 (l' : Nat))) := Fr.setCell (S := fun k => k = wp) (Fr.refl _ _) (p := ⟨wp, 6, none⟩) (.inl rfl) _
  exact ⟨⟨X.blk.set 6 _, X.fn, by have := Fr.size hf; have := X.zlt; omega, fun i hi => (Fr.cell hf (p := ⟨gz, i, none⟩) X.zlt hne).trans (X.z i hi)⟩, hf⟩
theorem Wk.c0 (X : Wk w wp F T h K p1 rp left en gz n cz) : w.cell? ⟨wp, 0, none⟩ = some (.int .i64 (F : Nat)) := X.blk.cell (i := 0) rfl
theorem Wk.c2 (X : Wk w wp F T h K p1 rp left en gz n cz) : w.cell? ⟨wp, 2, none⟩ = some (.int .i64 h) := X.blk.cell (i := 2) rfl
theorem Wk.c3 (X : Wk w wp F T h K p1 rp left en gz n cz) : w.cell? ⟨wp, 3, none⟩ = some (.int .i64 (K : Nat)) := X.blk.cell (i := 3) rfl
theorem Wk.c4 (X : Wk w wp F T h K p1 rp left en gz n cz) : w.cell? ⟨wp, 4, none⟩ = some (.pointer (some ⟨p1, 0, none⟩)) := X.blk.cell (i := 4) rfl
theorem Wk.c5 (X : Wk w wp F T h K p1 rp left en gz n cz) : w.cell? ⟨wp, 5, none⟩ = some (.pointer (some ⟨rp, 0, none⟩)) := X.blk.cell (i := 5) rfl
theorem Wk.c6 (X : Wk w wp F T h K p1 rp left en gz n cz) : w.cell? ⟨wp, 6, none⟩ = some (.int .i64 (left : Nat)) := X.blk.cell (i := 6) rfl
theorem Wk.c7 (X : Wk w wp F T h K p1 rp left en gz n cz) : w.cell? ⟨wp, 7, none⟩ = some (.int .i64 (en : Nat)) := X.blk.cell (i := 7) rfl
theorem Wk.c8 (X : Wk w wp F T h K p1 rp left en gz n cz) : w.cell? ⟨wp, 8, none⟩ = some (.slice (some ⟨gz, 0, none⟩) n cz) := X.blk.cell (i := 8) rfl
theorem Wk.fz (X : Wk w wp F T h K p1 rp left en gz n cz) {i : Nat} (hi : i < 9) : w.frozen? ⟨wp, i, none⟩ = false := X.blk.fz (show i < 9 from hi)
end
section
variable {ls : List Int} {O : List Nat} {C : List Int} {w : World} {B p1 rp : Nat} {A : Option Addr} {c m : Nat} {Bs : List Int}
/-- the book's reading, by the one answer that it has -/
theorem bread_any (hK : BkS w B p1 ls O C) (ho : Ordd ls O C) (hBr : B ≤ rp) (x : Re w rp true A c Bs m) (hm : Bs.length ≤ 68719476736) {s : Int} {k : Nat} {e : Int} (hF : rdF (sy O) (sz ls O) ((bitsOf true Bs).drop m) = (s, k, e)) :
    Calls Try.prog 63 #[.pointer (some ⟨p1, 0, none⟩), .pointer (some ⟨rp, 0, none⟩)] w fun e' w' => e' = .returned (.tuple #[.int .i64 s, errE e]) ∧ Re w' rp true A c Bs (m + k) ∧ Fp rp w w' := by
  refine (read_any hK ho hBr x hm).mono ?_
  rintro e' w' ⟨sym, k', er, hr, rfl, hx', hf'⟩
  have h1 := rdF_eq ho.zs ((bitsOf_01 true Bs).drop m) hr
  rw [hF] at h1
  simp only [Prod.mk.injEq] at h1
  obtain ⟨rfl, rfl, rfl⟩ := h1
  exact ⟨rfl, hx', hf'⟩
variable {wp F T K left en gz n cz : Nat} {h : Int}
theorem keep_two {W w5 : World} {p b o o' : Nat} {x y : Value} (hf : Fp p W w5) (hne : b ≠ p) (h : W.cell? ⟨b, o, none⟩ = some x ∧ W.cell? ⟨b, o', none⟩ = some y) : w5.cell? ⟨b, o, none⟩ = some x ∧ w5.cell? ⟨b, o', none⟩ = some y :=
  ⟨keep_fp hf hne h.1, keep_fp hf hne h.2⟩
def SymP (wp F T : Nat) (h : Int) (K p1 rp left gz n cz : Nat) (A : Option Addr) (c : Nat) (Bs : List Int) (a b : Int) (d : Bool) (er : Int) (m' en' : Nat) (w : World) (e : Ending) (w' : World) : Prop :=
  e = .returned (.tuple #[.int .i64 a, .int .i64 b, .bool d, errE er]) ∧ (∃ m2 en2 : Nat, Re w' rp true A c Bs m2 ∧ Wk w' wp F T h K p1 rp left en2 gz n cz ∧ (er = 0 → m2 = m' ∧ en2 = en')) ∧ Fr (fun b => b = wp ∨ b = rp) w w'
def SymAP (wp F T : Nat) (h : Int) (K p1 rp left gz n cz : Nat) (A : Option Addr) (c : Nat) (Bs : List Int) (s k m en most : Nat) (er : Int) (y : List Int) (w : World) (e' : Ending) (w' : World) : Prop :=
  (er ≠ 0 → SymP wp F T h K p1 rp left gz n cz A c Bs 0 0 false er m en w e' w') ∧
  (er = 0 → (s % 16 = 0 ∧ s ≠ 240 → SymP wp F T h K p1 rp left gz n cz A c Bs 0 0 (decide ((rdE (bitsOf true Bs) left (m + k) (s / 16) y).2.2.2 = 0)) (rdE (bitsOf true Bs) left (m + k) (s / 16) y).2.2.2 (rdE (bitsOf true Bs) left (m + k) (s / 16) y).2.1 (rdE (bitsOf true Bs) left (m + k) (s / 16) y).2.2.1 w e' w') ∧
    (¬ (s % 16 = 0 ∧ s ≠ 240) → (most < s % 16 → SymP wp F T h K p1 rp left gz n cz A c Bs 0 0 false 2 m en w e' w') ∧ (¬ most < s % 16 → SymP wp F T h K p1 rp left gz n cz A c Bs (s / 16 : Nat) (s % 16 : Nat) false 0 (m + k) en w e' w')))
section
variable {A : Option Addr} {Bs : List Int} {s k m most : Nat} {er : Int} {y : List Int} {e' : Ending} {w' : World}
theorem SymAP.bad (he : er ≠ 0) (q : SymP wp F T h K p1 rp left gz n cz A c Bs 0 0 false er m en w e' w') : SymAP wp F T h K p1 rp left gz n cz A c Bs s k m en most er y w e' w' := ⟨fun _ => q, fun h => absurd h he⟩
theorem SymAP.end_ (he : s % 16 = 0 ∧ s ≠ 240) (q : SymP wp F T h K p1 rp left gz n cz A c Bs 0 0 (decide ((rdE (bitsOf true Bs) left (m + k) (s / 16) y).2.2.2 = 0)) (rdE (bitsOf true Bs) left (m + k) (s / 16) y).2.2.2 (rdE (bitsOf true Bs) left (m + k) (s / 16) y).2.1 (rdE (bitsOf true Bs) left (m + k) (s / 16) y).2.2.1 w e' w') : SymAP wp F T h K p1 rp left gz n cz A c Bs s k m en most 0 y w e' w' := ⟨fun h => absurd rfl h, fun _ => ⟨fun _ => q, fun h => absurd he h⟩⟩
theorem SymAP.mal (he : ¬ (s % 16 = 0 ∧ s ≠ 240)) (h1 : most < s % 16) (q : SymP wp F T h K p1 rp left gz n cz A c Bs 0 0 false 2 m en w e' w') : SymAP wp F T h K p1 rp left gz n cz A c Bs s k m en most 0 y w e' w' := ⟨fun h => absurd rfl h, fun _ => ⟨fun h => absurd h he, fun _ => ⟨fun _ => q, fun h => absurd h1 h⟩⟩⟩
theorem SymAP.go (he : ¬ (s % 16 = 0 ∧ s ≠ 240)) (h1 : ¬ most < s % 16) (q : SymP wp F T h K p1 rp left gz n cz A c Bs (s / 16 : Nat) (s % 16 : Nat) false 0 (m + k) en w e' w') : SymAP wp F T h K p1 rp left gz n cz A c Bs s k m en most 0 y w e' w' := ⟨fun h => absurd rfl h, fun _ => ⟨fun h => absurd h he, fun _ => ⟨fun h => absurd h h1, fun _ => q⟩⟩⟩
end
set_option maxHeartbeats 8000000 in
theorem psym_any (hK : BkS w B p1 ls O C) (ho : Ordd ls O C) (hBr : B ≤ rp) (x : Re w rp true A c Bs m) (hm : Bs.length ≤ 68719476736) (X : Wk w wp F T h K p1 rp left en gz n cz) (hwr : wp ≠ rp) (hgw : gz ≠ wp) (hgr : gz ≠ rp) (hAw : ∀ q, A = some q → q.block ≠ wp) (hl : left ≤ 1000) (most : Nat) (hmost : most ≤ 15)
    {s k : Nat} (hs : s ≤ 255) {er : Int} (hF : rdF (sy O) (sz ls O) ((bitsOf true Bs).drop m) = ((s : Int), k, er)) (y : List Int) :
    Calls Try.prog 151 #[.pointer (some ⟨wp, 0, none⟩), .int .i64 (most : Nat)] w (SymAP wp F T h K p1 rp left gz n cz A c Bs s k m en most er y w) := by
  have c4 := X.c4
  have c5 := X.c5
  have hxd : Re w.drew rp true A c Bs m := x.drewN 1
  have hKd : BkS w.drew B p1 ls O C := hK.keep (((Below.refl w.heap.size w).drew).mono hK.size)
  have hbr := bread_any hKd ho hBr hxd hm hF
  have HBR := Lib.hid hbr
  have hle := x.le
  have HX := Lib.hid X
  clear hbr hxd hKd X hK ho
  go_enter Try.func151, Try.ntmps151
  go_upto_region 1 with fail
  go_region_held3 (fun w' => w'.cell? ⟨wp, 4, none⟩ = some (.pointer (some ⟨p1, 0, none⟩)) ∧ w'.cell? ⟨wp, 5, none⟩ = some (.pointer (some ⟨rp, 0, none⟩)))
    (first | go_keep | exact keep_two hf5 hwr (by first | assumption | exact ⟨by assumption, by assumption⟩))
    (first | (go_at_call 63; refine HBR.out.mono ?_; rintro e5 w5 ⟨rfl, hx5, hf5⟩))
  have hf5' : Fp rp w w5 := ((Fr.refl _ w).drew).trans hf5
  have X5 := HX.out.keep hf5' hwr hgr
  have hkb : m + k ≤ 8 * Bs.length := hx5.le
  clear c4 c5 hf5
  by_cases he : er = 0
  · subst he
    rw [errE_nil2]
    have e1 : ((s : Nat) : Int).tmod 16 = ((s % 16 : Nat) : Int) := by rw [Int.tmod_eq_emod_of_nonneg (by omega)]; omega
    have e2 : ((s : Nat) : Int).tdiv 16 = ((s / 16 : Nat) : Int) := by rw [Int.tdiv_eq_ediv_of_nonneg (by omega)]; omega
    obtain ⟨sz, hsz⟩ : ∃ z, z = s % 16 := ⟨_, rfl⟩
    obtain ⟨nz, hnz⟩ : ∃ z, z = s / 16 := ⟨_, rfl⟩
    rw [← hsz] at e1
    rw [← hnz] at e2
    have HSZ := Lib.hid hsz
    have HNZ := Lib.hid hnz
    have hszb : sz ≤ 15 := by omega
    have hnzb : nz ≤ 15 := by omega
    by_cases hend : s % 16 = 0 ∧ s ≠ 240
    · have d1 : ((sz : Int) == 0) = true := by simp; omega
      have d2 : ((s : Int) != 240) = true := by simp; omega
      have HEND := Lib.hid hend
      clear hend hsz hnz
      by_cases hf : 8 * Bs.length < m + k + nz
      · have hR : rdE (bitsOf true Bs) left (m + k) nz y = ([], 0, 0, 8) := if_pos (by rw [bitsOf_len]; omega)
        have hte := take_end hx5 hm nz (by omega) (by omega)
        have HTE := Lib.hid hte
        have HR := Lib.hid hR
        clear hte hR hf
        go_wp2_with (go_at_call 111; refine HTE.out.mono ?_; rintro e6 w6 ⟨rfl, hb6⟩; unfold errV)
        refine bodyPost_ret (results_tmp4 rfl _ _ _) rfl (SymAP.end_ HEND.out ?_)
        rw [← HNZ.out, HR.out]
        exact ⟨rfl, ⟨m + k, en, hx5.below hb6, X5.below hb6, fun q => absurd q (by decide)⟩, (hf5'.trans (Fp.of_below hb6)).mono (fun b hb => .inr hb)⟩
      · have hto := rtk_ok hx5 hm nz (by omega) hf
        have hvb := hv_bd (((bitsOf_01 true Bs).drop (m + k)).take nz)
        have hvl : (((bitsOf true Bs).drop (m + k)).take nz).length ≤ nz := List.length_take_le _ _
        have hp2 : (2 : Int) ^ (((bitsOf true Bs).drop (m + k)).take nz).length ≤ 2 ^ nz := by
          rw [← two_cast, ← two_cast]; exact Int.ofNat_le.2 (Nat.pow_le_pow_right (by omega) hvl)
        have hb2 : (2 : Int) ^ nz ≤ 32768 ∧ 1 ≤ (2 : Int) ^ nz := by
          have h1 : 2 ^ nz ≤ 2 ^ 15 := Nat.pow_le_pow_right (by omega) hnzb
          have h2 := two_cast nz
          have h3 := two_pos nz
          omega
        have hRg : ¬ (left : Int) < 2 ^ nz + hv (((bitsOf true Bs).drop (m + k)).take nz) → rdE (bitsOf true Bs) left (m + k) nz y = (y, m + k + nz, (2 ^ nz + hv (((bitsOf true Bs).drop (m + k)).take nz)).toNat, 0) := fun q => by
          unfold rdE; rw [if_neg (by rw [bitsOf_len]; omega), if_neg q]
        have hRb : (left : Int) < 2 ^ nz + hv (((bitsOf true Bs).drop (m + k)).take nz) → rdE (bitsOf true Bs) left (m + k) nz y = ([], 0, 0, 2) := fun q => by
          unfold rdE; rw [if_neg (by rw [bitsOf_len]; omega), if_pos q]
        generalize hv (((bitsOf true Bs).drop (m + k)).take nz) = v at *
        obtain ⟨u, hu⟩ := Int.eq_ofNat_of_zero_le (show 0 ≤ (2 : Int) ^ nz + v by omega)
        have hub : (u : Int) ≤ 65536 := by rw [← hu]; omega
        rw [hu] at hRg hRb
        have hw1 : wrap64 ((2 : Int) ^ nz + v) = (u : Int) := by rw [hu]; unfold wrap64; omega
        have hw2 : IntKind.i64.wrap ((2 : Int) ^ nz) = 2 ^ nz := IntWalk.i64_in _ (by omega)
        have hw3 : wrap64 ((2 : Int) ^ nz) = 2 ^ nz := by unfold wrap64; omega
        have HTO := Lib.hid hto
        have HRG := Lib.hid hRg
        have HRB := Lib.hid hRb
        have c5' := X5.c5
        clear hto hRg hRb hp2 hvl hvb hf hb2 hu
        go_upto_region 9 with (go_at_call 111; refine HTO.out.mono ?_; rintro e6 w6 ⟨rfl, hx6, hf6⟩)
        have X6 := X5.keep hf6 hwr hgr
        have f7 := X6.fz (i := 7) (by omega)
        have c7 := X6.c7
        clear c5'
        obtain ⟨X7, hf7⟩ := X6.setEn hgw u
        have hx7 := hx6.keep hf7 (fun e => hwr e.symm) hAw
        have hf57 : Fr (fun b => b = wp ∨ b = rp) w (w6.setCell ⟨wp, 7, none⟩ (.int .i64 (u : Nat))) := ((hf5'.trans hf6).mono (fun b hb => .inr hb)).trans (hf7.mono (fun b hb => .inl hb))
        go_upto_region 10 with fail
        generalize w6.setCell ⟨wp, 7, none⟩ (.int .i64 (u : Nat)) = w7 at *
        have k6 := X7.c6
        have k7 := X7.c7
        clear c7 f7
        by_cases hgt : left < u
        · have dg : decide (left < u) = true := decide_eq_true hgt
          have hR := HRB.out (by omega)
          have HR := Lib.hid hR
          clear hR
          go_quiet (fail)
          go_wp2
          refine bodyPost_ret (results_tmp4 rfl _ _ _) rfl (SymAP.end_ HEND.out ?_)
          rw [← HNZ.out, HR.out]
          exact ⟨rfl, ⟨m + k + nz, u, hx7.drewN nq, X7.drewN nq, fun q => absurd q (by decide)⟩, hf57.drewN nq⟩
        · have dg : decide (left < u) = false := decide_eq_false hgt
          have hR := HRG.out (by omega)
          have HR := Lib.hid hR
          clear hR
          go_quiet (fail)
          go_wp2
          refine bodyPost_ret (results_tmp4 rfl _ _ _) rfl (SymAP.end_ HEND.out ?_)
          rw [← HNZ.out, HR.out]
          exact ⟨rfl, ⟨m + k + nz, u, hx7.drewN nq, X7.drewN nq, fun _ => ⟨rfl, rfl⟩⟩, hf57.drewN nq⟩
    · have HEND := Lib.hid hend
      have d1 : ((sz : Int) == 0) = false ∨ ((sz : Int) == 0) = true ∧ ((s : Int) != 240) = false := by
        by_cases h : sz = 0
        · exact .inr ⟨by simp; omega, by simp; omega⟩
        · exact .inl (by simp; omega)
      have hfe : Fr (fun b => b = wp ∨ b = rp) w w5 := hf5'.mono (fun b hb => .inr hb)
      clear hend hsz hnz
      by_cases hgt : most < sz
      · have dg : decide ((most : Int) < (sz : Int)) = true := decide_eq_true (by omega)
        rcases d1 with d1 | ⟨d1, d2⟩
        · go_wp2
          refine bodyPost_ret (results_tmp4 rfl _ _ _) rfl (SymAP.mal HEND.out (by rw [← HSZ.out]; exact hgt) ?_)
          exact ⟨rfl, ⟨m + k, en, hx5, X5, fun q => absurd q (by decide)⟩, hfe⟩
        · have : sz = 0 := by simpa using d1
          omega
      · have dg : decide ((most : Int) < (sz : Int)) = false := decide_eq_false (by omega)
        rcases d1 with d1 | ⟨d1, d2⟩
        · go_wp2
          refine bodyPost_ret (results_tmp4 rfl _ _ _) rfl (SymAP.go HEND.out (by rw [← HSZ.out]; exact hgt) ?_)
          exact ⟨by rw [← HSZ.out, ← HNZ.out]; rfl, ⟨m + k, en, hx5, X5, fun _ => ⟨rfl, rfl⟩⟩, hfe⟩
        · go_wp2
          refine bodyPost_ret (results_tmp4 rfl _ _ _) rfl (SymAP.go HEND.out (by rw [← HSZ.out]; exact hgt) ?_)
          exact ⟨by rw [← HSZ.out, ← HNZ.out]; rfl, ⟨m + k, en, hx5, X5, fun _ => ⟨rfl, rfl⟩⟩, hfe⟩
  · have hne2 := errE_ne2 he
    have HNE := Lib.hid hne2
    have HE := Lib.hid he
    rw [hne2]
    unfold errV
    clear hne2 he
    go_wp2
    refine bodyPost_ret (results_tmp4 rfl _ _ _) rfl (SymAP.bad HE.out ?_)
    exact ⟨by rw [HNE.out]; rfl, ⟨m + k, en, hx5, X5, fun q => absurd q HE.out⟩, hf5'.mono (fun b hb => .inr hb)⟩
/-- a known number's bit, of a block in the rows that are read -/
def PbetP (rp : Nat) (A : Option Addr) (c : Nat) (Bs : List Int) (m : Nat) (B2 g cg N : Nat) (L : List (List Int)) (i z : Nat) (x : List Int) (K : Nat) (w : World) (e : Ending) (w' : World) : Prop :=
  (8 * Bs.length ≤ m → e = .returned (errE 8) ∧ Re w' rp true A c Bs m ∧ Gro w' B2 g cg N L) ∧
  (¬ 8 * Bs.length ≤ m → e = .returned (errE 0) ∧ Re w' rp true A c Bs (m + 1) ∧ Gro w' B2 g cg N (L.set i (x.set z (bet (x.getD z 0) ((bitsOf true Bs).getD m 0) (K : Nat))))) ∧ Fr (fun b => b = rp ∨ b = g) w w'
set_option maxHeartbeats 8000000 in
theorem pbetter_any {B2 g cg N : Nat} {L : List (List Int)} (x : Re w rp true A c Bs m) (hm : Bs.length ≤ 68719476736) (X : Wk w wp F T h K p1 rp left en gz n cz) (hwr : wp ≠ rp) (G : Gro w B2 g cg N L) (hgr : g ≠ rp) (hgw : g ≠ wp) (hAg : ∀ q, A = some q → q.block ≠ g)
    {i z : Nat} {y : List Int} (hy : L[i]? = some y) (hz : z < 64) (hb : -2000 ≤ y.getD z 0 ∧ y.getD z 0 ≤ 2000) :
    Calls Try.prog 154 #[.pointer (some ⟨wp, 0, none⟩), .pointer (some ⟨g, i * 64 + z, none⟩)] w (PbetP rp A c Bs m B2 g cg N L i z y K w) := by
  have c5 := X.c5
  have cg0 := G.cell hy hz
  have hK9 : K ≤ 9 := X.fn.2.2.2.2
  have hpK := two_int K (by omega)
  obtain ⟨q, hq⟩ : ∃ q, q = i * 64 + z := ⟨_, rfl⟩
  rw [← hq] at cg0
  have hle := x.le
  by_cases hf : 8 * Bs.length ≤ m
  · have hte := take_end x hm 1 (by omega) (by omega)
    have HTE := Lib.hid hte
    have HQ := Lib.hid hq
    rw [← hq]
    clear hte hq
    go_enter Try.func154, Try.ntmps154
    go_wp2_with (go_at_call 111; refine HTE.out.mono ?_; rintro e6 w6 ⟨rfl, hb6⟩; unfold errV)
    go_ret
    exact ⟨fun _ => ⟨rfl, x.below hb6, G.below hb6⟩, fun h9 => absurd hf h9, Fr.of_below hb6⟩
  · have hto := rtk_ok x hm 1 (by omega) (by omega)
    have hbit : hv (((bitsOf true Bs).drop m).take 1) = (bitsOf true Bs).getD m 0 ∧ (hv (((bitsOf true Bs).drop m).take 1) = 0 ∨ hv (((bitsOf true Bs).drop m).take 1) = 1) := by
      have hlt : m < (bitsOf true Bs).length := by rw [bitsOf_len]; omega
      rw [List.drop_eq_getElem_cons hlt, List.take_succ_cons, List.take_zero, List.getD_eq_getElem?_getD, List.getElem?_eq_getElem hlt]
      have h01 := bitsOf_01 true Bs _ (List.getElem_mem hlt)
      simp [hv]
      exact h01
    obtain ⟨hbq, hb01⟩ := hbit
    have HBQ := Lib.hid hbq
    clear hbq
    generalize hv (((bitsOf true Bs).drop m).take 1) = bt at *
    obtain ⟨v, hv⟩ : ∃ v, v = y.getD z 0 := ⟨_, rfl⟩
    rw [← hv] at cg0 hb
    have HV := Lib.hid hv
    have HQ := Lib.hid hq
    have hbp : 0 ≤ bt * 2 ^ K ∧ bt * 2 ^ K ≤ 1024 := by
      rcases hb01 with h | h
      · rw [h]; omega
      · rw [h]; omega
    have hw1 : wrap64 (bt * (2 : Int) ^ K) = bt * 2 ^ K := by unfold wrap64; omega
    have hw2 : IntKind.i64.wrap (bt * (2 : Int) ^ K) = bt * 2 ^ K := IntWalk.i64_in _ (by omega)
    have hw3 : wrap64 (v + bt * (2 : Int) ^ K) = v + bt * 2 ^ K := by unfold wrap64; omega
    have hw5 : wrap64 (v - bt * (2 : Int) ^ K) = v - bt * 2 ^ K := by unfold wrap64; omega
    have HTO := Lib.hid hto
    have HX := Lib.hid X
    rw [← hq]
    clear hto X hq hv
    go_enter Try.func154, Try.ntmps154
    go_upto_region 4 with (go_at_call 111; refine HTO.out.mono ?_; rintro e6 w6 ⟨rfl, hx6, hf6⟩)
    have G6 := G.keep hf6 hgr
    have c3 := (HX.out.keep (S := fun _ => False) ((Fr.refl _ w)) (fun f => f) (fun f => f)).c3
    have c3' := (Fr.cell hf6 (p := ⟨wp, 3, none⟩) HX.out.blk.lt hwr).trans c3
    have cg6 := (Fr.cell hf6 (p := ⟨g, q, none⟩) G.lt.2 hgr).trans cg0
    have fg6 := G6.fz q
    clear c3 cg0 c5
    by_cases hneg : v < 0
    · have dn : decide (v < 0) = true := decide_eq_true hneg
      have G7 := G6.set hy hz (v - bt * 2 ^ K)
      rw [← HQ.out] at G7
      have hx7 := hx6.keep (S := fun b => b = g) (Fr.setCell (S := fun b => b = g) (Fr.refl _ _) (p := ⟨g, q, none⟩) (.inl rfl) (.int .i64 (v - bt * 2 ^ K))) (fun e => hgr e.symm) hAg
      have hf7 : Fr (fun b => b = rp ∨ b = g) w (w6.setCell ⟨g, q, none⟩ (.int .i64 (v - bt * 2 ^ K))) := (hf6.mono (fun b hb => .inl hb)).setCell (p := ⟨g, q, none⟩) (.inl (.inr rfl)) _
      have hbe : v - bt * 2 ^ K = bet v bt (K : Nat) := by unfold bet; rw [if_pos hneg, Int.toNat_natCast]
      have HBE := Lib.hid hbe
      have HG := Lib.hid (And.intro G7 (And.intro hx7 hf7))
      clear hneg hbe G7 hx7 hf7
      go_wp2
      go_ret
      refine ⟨fun h9 => absurd h9 hf, fun _ => ⟨rfl, HG.out.2.1, ?_⟩, HG.out.2.2⟩
      rw [← HBQ.out, ← HV.out, ← HBE.out]
      exact HG.out.1
    · have dn : decide (v < 0) = false := decide_eq_false hneg
      have G7 := G6.set hy hz (v + bt * 2 ^ K)
      rw [← HQ.out] at G7
      have hx7 := hx6.keep (S := fun b => b = g) (Fr.setCell (S := fun b => b = g) (Fr.refl _ _) (p := ⟨g, q, none⟩) (.inl rfl) (.int .i64 (v + bt * 2 ^ K))) (fun e => hgr e.symm) hAg
      have hf7 : Fr (fun b => b = rp ∨ b = g) w (w6.setCell ⟨g, q, none⟩ (.int .i64 (v + bt * 2 ^ K))) := (hf6.mono (fun b hb => .inl hb)).setCell (p := ⟨g, q, none⟩) (.inl (.inr rfl)) _
      have hbe : v + bt * 2 ^ K = bet v bt (K : Nat) := by unfold bet; rw [if_neg hneg, Int.toNat_natCast]
      have HBE := Lib.hid hbe
      have HG := Lib.hid (And.intro G7 (And.intro hx7 hf7))
      clear hneg hbe G7 hx7 hf7
      go_wp2
      go_ret
      refine ⟨fun h9 => absurd h9 hf, fun _ => ⟨rfl, HG.out.2.1, ?_⟩, HG.out.2.2⟩
      rw [← HBQ.out, ← HV.out, ← HBE.out]
      exact HG.out.1
end
end Go.Proofs.Ytlhappecjjbopaa
