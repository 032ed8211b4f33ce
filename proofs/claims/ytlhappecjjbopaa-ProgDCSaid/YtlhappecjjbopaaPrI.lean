/-
  Prog: a block of a finer band is put, by a contract. Conditions: at most 20000 ends, at most 900000 pieces.
-/
import Derived.Test.YtlhappecjjbopaaPrH
namespace Go.Proofs.Ytlhappecjjbopaa
open Go.RowKit
set_option linter.unusedVariables false
set_option maxRecDepth 100000

theorem Pn.keep {w w' : World} {B p : Nat} {f t h l : Int} {vo vh : Value} {s : Pen} {S : Nat → Prop} (x : Pn w B p f t h l vo vh s) (hf : Fr S w w') (h1 : ¬ S p) (h2 : ∀ k, vo.ownBlock = some k → ¬ S k) (h3 : ∀ k, vh.ownBlock = some k → ¬ S k) : Pn w' B p f t h l vo vh s :=
  ⟨x.blk.keep hf h1, hf.ownN x.out h2, hf.ownN x.held h3, x.po, x.ph, x.oh⟩
theorem Pt.more {p : Nat} {w1 w w' : World} {a b a' b' : Value} {S : Nat → Prop} (h : Pt p w1 a b w a' b') (hf : Fr S w w') (hS : ∀ k, S k → w1.heap.size ≤ k) : Pt p w1 a b w' a' b' :=
  ⟨h.fr.trans' hf (fun i hi hs => by have := hS i hs; omega), h.out, h.held⟩
/-- a row of pieces beside a pen -/
structure Bes (w : World) (B1 p : Nat) (vo vh vl : Value) (hd : List Pc) : Prop where
  own : w.ownsRow B1 27 4 vl hd.length (pcRows hd)
  lp : vl.ownBlock ≠ some p
  lo : ∀ k, vl.ownBlock = some k → vo.ownBlock ≠ some k ∧ vh.ownBlock ≠ some k
theorem Bes.nil_ (w : World) (B1 p : Nat) (vo vh : Value) : Bes w B1 p vo vh (.slice none 0 0) [] :=
  ⟨World.ownsRow_nil _ _ _ _, fun e => by simp [Value.ownBlock] at e, fun k e => by simp [Value.ownBlock] at e⟩
theorem Bes.pt {w w' : World} {B1 p : Nat} {vo vh vl vo' vh' : Value} {hd : List Pc} (h : Bes w B1 p vo vh vl hd) (hT : Pt p w vo vh w' vo' vh') : Bes w' B1 p vo' vh' vl hd := by
  refine ⟨hT.fr.ownN h.own (fun k hk e => ?_), h.lp, fun k hk => ⟨fun e => ?_, fun e => ?_⟩⟩
  · rcases e with e | e | e
    · exact h.lp (by rw [hk, e])
    · exact (h.lo k hk).1 e
    · exact (h.lo k hk).2 e
  · rcases hT.out k e with h1 | h1
    · exact (h.lo k hk).1 h1
    · have := (h.own.lt k hk).2; omega
  · rcases hT.held k e with h1 | h1
    · exact (h.lo k hk).2 h1
    · have := (h.own.lt k hk).2; omega
/-- a piece more in it -/
theorem Bes.app {w w7 w8 : World} {B B1 p : Nat} {f t h l : Int} {vo vh vl v7 : Value} {s : Pen} {hd nw : List Pc} {k : Nat} (x : Pn w B p f t h l vo vh s) (y : Bes w B1 p vo vh vl hd) (hb : Below w.heap.size w w7)
    (ho : w8.ownsRow B1 27 4 v7 k (pcRows hd ++ pcRows nw)) (hk : k = hd.length + nw.length) (ha : Ap w7 w8 vl v7) :
    Pn w8 B p f t h l vo vh s ∧ Bes w8 B1 p vo vh v7 (hd ++ nw) ∧ Fr (fun i => vl.ownBlock = some i) w w8 := by
  have x7 := x.below hb
  subst hk
  refine ⟨x7.keep ha.fr (fun e => y.lp e) (fun i hi e => (y.lo i e).1 hi) (fun i hi e => (y.lo i e).2 hi), ⟨?_, fun e => ?_, fun i hi => ⟨fun e => ?_, fun e => ?_⟩⟩, (Fr.of_below hb).trans ha.fr⟩
  · rw [List.length_append, pcRows_app]; exact ho
  · rcases ha.row p e with h1 | h1
    · exact y.lp h1
    · have := x7.lt; omega
  · rcases ha.row i hi with h1 | h1
    · exact (y.lo i h1).1 e
    · have := (x7.out.lt i e).2; omega
  · rcases ha.row i hi with h1 | h1
    · exact (y.lo i h1).2 e
    · have := (x7.held.lt i e).2; omega
/-- a row in place of another: it, or a new one -/
structure Ax (w w' : World) (v v' : Value) : Prop where
  fr : Fr (fun b => v.ownBlock = some b) w w'
  row : ∀ k, v'.ownBlock = some k → v.ownBlock = some k ∨ w.heap.size ≤ k
theorem Ap.ax {w w' : World} {v v' : Value} (h : Ap w w' v v') : Ax w w' v v' := ⟨h.fr, h.row⟩
theorem Ax.trans {w w1 w2 : World} {v v1 v2 : Value} (h : Ax w w1 v v1) (k : Ax w1 w2 v1 v2) : Ax w w2 v v2 :=
  ⟨h.fr.trans' k.fr (fun i hi hs => by
    rcases h.row i hs with h1 | h1
    · exact h1
    · omega), fun i hi => by
    rcases k.row i hi with h1 | h1
    · exact h.row i h1
    · exact .inr (Nat.le_trans h.fr.size h1)⟩
theorem Ax.off {w w' : World} {v v' : Value} (h : Ax w w' v v') {k : Nat} (hk : k < w.heap.size) (h1 : v.ownBlock ≠ some k) : v'.ownBlock ≠ some k := fun e => by
  rcases h.row k e with h2 | h2
  · exact h1 h2
  · omega
theorem Pn.setX {w w' : World} {B p : Nat} {f t h l : Int} {vo vh vo' : Value} {s : Pen} {nw : List Pc} (x : Pn w B p f t h l vo vh s)
    {n : Nat} (ho : w'.ownsRow B 27 4 vo' n (pcRows s.out ++ pcRows nw)) (hn : n = s.out.length + nw.length) (ha : Ax w w' vo vo') :
    Pn (w'.setCell ⟨p, 4, none⟩ vo') B p f t h l vo' vh (s.put nw) ∧ Pt p w vo vh (w'.setCell ⟨p, 4, none⟩ vo') vo' vh := by
  subst hn
  have hpo : vo'.ownBlock ≠ some p := ha.off x.lt x.po
  have hb := x.blk.keep ha.fr (fun e => x.po e)
  refine ⟨⟨hb.set 4 vo', ?_, ?_, hpo, x.ph, fun k hk hk2 => ?_⟩, ⟨(ha.fr.mono (fun i hi => .inr (.inl hi))).setCell (p := ⟨p, 4, none⟩) (.inl (.inl rfl)) vo', fun k hk => ha.row k hk, fun k hk => .inl hk⟩⟩
  · have := ownsRow_setCell_other ho (a := ⟨p, 4, none⟩) hpo vo'
    show World.ownsRow _ B _ 4 vo' (s.out ++ nw).length (pcRows (s.out ++ nw))
    rw [List.length_append, pcRows_app]; exact this
  · exact ownsRow_setCell_other (ha.fr.ownN x.held (fun k hk hk2 => x.oh k hk2 hk)) (a := ⟨p, 4, none⟩) x.ph vo'
  · rcases ha.row k hk with h1 | h1
    · exact x.oh k h1 hk2
    · have := (x.held.lt k hk2).2; omega
theorem Pn.appX {w w7 : World} {B p : Nat} {f t h l : Int} {vo vh v7 : Value} {s : Pen} {nw : List Pc} {k : Nat} (x : Pn w B p f t h l vo vh s) (hb : Below w.heap.size w w7) (w8 : World)
    (ho : w8.ownsRow B 27 4 v7 k (pcRows s.out ++ pcRows nw)) (hk : k = s.out.length + nw.length) (ha : Ax w7 w8 vo v7) :
    Pn (w8.setCell ⟨p, 4, none⟩ v7) B p f t h l v7 vh (s.put nw) ∧ Pt p w vo vh (w8.setCell ⟨p, 4, none⟩ v7) v7 vh := by
  obtain ⟨h1, h2⟩ := (x.below hb).setX ho hk ha
  exact ⟨h1, (Pt.of_below hb).trans h2⟩
theorem Bes.rd {w w1 w7 : World} {B1 p lh cl : Nat} {vo vh v7 : Value} {Al : Option Addr} {hd : List Pc} (y : Bes w B1 p vo vh (.slice Al lh cl) hd) (hl : hd.length = lh) (hb : Below w.heap.size w w1) (ha : Ax w1 w7 vo v7) : Rd w7 w7.heap.size Al (pcRows hd) := by
  have h1 := own_keepN y.own hb
  have h2 := ha.fr.ownN h1 (fun k hk e => (y.lo k hk).1 e)
  obtain ⟨A, c, he, _, _, hR⟩ := own_sliceN h2
  injection he with he1
  subst he1
  exact hR
def NwR (B p f n b0 gz : Nat) (t h l : Int) (x : List Int) (s : Pen) (vo vh : Value) (w1 : World) (nw ix : Value) (wr : World) : Prop :=
  ∃ (i : Nat) (z : Int), i ≤ n ∧ ix = .int .i64 i ∧ nw = .int .i64 z ∧ nwst x f l i = z ∧ (-1 ≤ z ∧ z < 64) ∧ Pn wr B p (f : Nat) t h l vo vh s ∧ Pt p w1 vo vh wr vo vh ∧ Rnd wr b0 gz f n 0 x
def FiR (B p f n b0 gz : Nat) (t h l nw : Int) (x : List Int) (s : Pen) (vo vh : Value) (w1 : World) (nz hv ix : Value) (wr : World) : Prop :=
  ∃ (i : Nat) (s' : Pen) (z : Nat) (hd : List Pc) (vo' vh' : Value), i ≤ n ∧ ix = .int .i64 i ∧ nz = .int .i64 z ∧ fiN x f l nw s i = (s', z, hd) ∧ Pn wr B p (f : Nat) t h l vo' vh' s' ∧ Bes wr w1.heap.size p vo' vh' hv hd ∧ Pt p w1 vo vh wr vo' vh' ∧ Rnd wr b0 gz f n 0 x
theorem nwst_on {x : List Int} {f i : Nat} {l : Int} (h : tn x f l i = 1 ∨ tn x f l i = -1) : nwst x f l (i + 1) = i := by rw [nwst, if_pos h]
theorem nwst_off {x : List Int} {f i : Nat} {l : Int} (h : ¬ (tn x f l i = 1 ∨ tn x f l i = -1)) : nwst x f l (i + 1) = nwst x f l i := by rw [nwst, if_neg h]
set_option maxHeartbeats 32000000 in
theorem fine_any {w : World} {B p f t : Nat} {h l : Int} {vo vh : Value} {s : Pen} (X : Pn w B p (f : Nat) (t : Nat) h l vo vh s) (hB : B ≤ w.heap.size) (he : s.ends ≤ 20000) (hn : s.len ≤ 900000)
    (hf : f ≤ t) (ht : t ≤ 63) (x : List Int) (hx : x.length = 64) (hg : GoodB x) :
    Calls Try.prog 118 #[.pointer (some ⟨p, 0, none⟩), .agg (iv x).toArray] w (BlkP B p (f : Nat) (t : Nat) h l vo vh (fiB x f (t + 1 - f) l s) w) := by
  obtain ⟨i0, ii0, iz0, iz1, iz2⟩ := info_parts Try.info_pc
  have hfo : ∀ q : Pc, List.foldl (fun (cs : Array Value) (x : Value × Nat) => cs.setIfInBounds x.2 x.1) #[.bool false, .int .i64 0, .int .i64 0, .int .i64 0] (pcV q).zipIdx = (pcV q).toArray := fun _ => rfl
  have hp4 : ∀ q : Pc, (pcV q).length = 4 := fun _ => rfl
  have hba : Below w.heap.size w (w.alloc (.cells (iv x).toArray 70)) := (Below.refl _ _).alloc (Nat.le_refl _) _
  have XB := Bln.new w 70 (iv x)
  have X0 := X.below hba
  have HX := Lib.hid hx
  have HG := Lib.hid hg
  have hplt := X.lt
  obtain ⟨n, hnq⟩ : ∃ n, n = t + 1 - f := ⟨_, rfl⟩
  rw [← hnq]
  have hfn : f + n ≤ 64 := by omega
  have hn1 : 1 ≤ n := by omega
  have HNQ := Lib.hid hnq
  have hao := fun k hk => (X.out.lt k hk).2
  have hah := fun k hk => (X.held.lt k hk).2
  clear hx hg X hnq
  go_enter Try.func118, Try.ntmps118
  go_upto_region 1 with fail
  generalize w.alloc (.cells (iv x).toArray 70) = w0 at *
  have hs0 := XB.lt
  have hrb := X0.blk.range 0 [.int .i64 (f : Nat), .int .i64 (t : Nat), .int .i64 h, .int .i64 l] (fun j v hv => by
    rw [Nat.zero_add]
    have hj : j < 4 := (List.getElem?_eq_some_iff.1 hv).1
    match j, hj with
    | 0, _ => exact hv | 1, _ => exact hv | 2, _ => exact hv | 3, _ => exact hv)
  go_wp2_with (refine wpList_load_mid rfl 107 (.tmp 16) rfl _ _ rfl [.int .i64 (f : Nat), .int .i64 (t : Nat), .int .i64 h, .int .i64 l] _ hrb Try.underlying107 rfl (by kernel_rfl) ?_)
  refine (places_any f t h l hf ht w0).mono ?_; rintro e w1 ⟨vz, rfl, hoz, hb1⟩
  rw [← HNQ.out] at hoz
  obtain ⟨gz, cz, hze, hcn, hcm, hgzl, hgz⟩ := own_pos hoz hn1
  subst hze
  have hba' := hba.trans (hb1.mono hba.size)
  have hs1 := hb1.size
  have R1 : Rnd w1 w.heap.size gz f n 0 x := ⟨XB.below hb1, Rd.of_own hoz⟩
  have P1 := X0.below hb1
  have hT1 : Pt p w vo vh w1 vo vh := Pt.of_below hba'
  obtain ⟨b0, hb0⟩ : ∃ b, b = w.heap.size := ⟨_, rfl⟩
  rw [← hb0] at R1 hs0 hplt hao hah hB ⊢
  have hb0g : b0 ≠ p := by omega
  have hgzp : gz ≠ p := by omega
  have hbo : vo.ownBlock ≠ some b0 ∧ vh.ownBlock ≠ some b0 := ⟨fun e => by have := hao _ e; omega, fun e => by have := hah _ e; omega⟩
  have hgo : vo.ownBlock ≠ some gz ∧ vh.ownBlock ≠ some gz := ⟨fun e => by have := hao _ e; omega, fun e => by have := hah _ e; omega⟩
  have hb01 : b0 < w1.heap.size := by omega
  clear hb1 hoz hrb XB X0 hba hba' hao hah hcm
  have HB0 := Lib.hid hb0
  clear hb0
  go_wp2
  go_loopw [5, 21] (NwR B p f n b0 gz (t : Nat) h l x s vo vh w1) (fun _ ix _ => n - (intOf ix).toNat)
  case atStart => exact ⟨0, -1, Nat.zero_le _, rfl, rfl, rfl, by omega, P1, Pt.refl _ _ _ _, R1⟩
  case round =>
    obtain ⟨i, nw, hi, rfl, rfl, hst, hnwb, P, hT, R⟩ := hrel
    obtain ⟨wi, rfl⟩ : ∃ wi : World, wi = wr := ⟨_, rfl⟩
    have HST := Lib.hid hst
    clear P1 R1 hst
    by_cases hlt : i < n
    · have dl : decide (i < n) = true := decide_eq_true hlt
      obtain ⟨hz1, hz2, hz3⟩ := zzN_bd (f + i) (by omega)
      obtain ⟨b1, o1, hbe, _, hcr⟩ := R.plc.at_ (k := i) (by rw [iv_len, plc_len hfn]; exact hlt)
      injection hbe with hbe
      injection hbe with hbe1 hbe2
      subst hbe1 hbe2
      have cz1 := hcr i (.int .i64 ((zzN (f + i) : Nat) : Int)) (by unfold iv; rw [List.getElem?_map, plc_at hfn hlt]; rfl)
      rw [Nat.zero_add] at cz1
      have cx1 := R.box.cell (i := zzN (f + i)) (ivs_get (by rw [HX.out]; exact hz1))
      have c3 := P.blk.cell (i := 3) (u := .int .i64 l) rfl
      have hvb := tn_bd HX.out HG.out f l i (by omega)
      have htn : tn x f l i = tl (x.getD (zzN (f + i)) 0) l false := rfl
      have hub := tl_bd l hvb.1 hvb.2 false
      have hi0 : (0 : Int) ≤ (i : Int) := by omega
      have hi1 : (i : Int) < (n : Int) := by omega
      have hq0 : (0 : Int) ≤ ((zzN (f + i) : Nat) : Int) := by omega
      have hq1 : ((zzN (f + i) : Nat) : Int) < 64 := by omega
      generalize zzN (f + i) = zi at *
      generalize x.getD zi 0 = v at *
      have hte := fun W : World => tell_any v l false (by omega) W
      obtain ⟨u, huq⟩ : ∃ u, u = tl v l false := ⟨_, rfl⟩
      rw [← huq] at htn hub
      have HTE := Lib.hid hte
      have HTN := Lib.hid htn
      have HUQ := Lib.hid huq
      clear hcr hz2 hz3 hte htn huq
      go_upto_region 6 with fail
      go_quiet ((go_at_call 96; exact quiet_l (HTE.out _)))
      rw [← HUQ.out]
      have P' := P.drewN nq
      have R' := R.drewN nq
      have hT' := hT.drewN nq
      clear P R hT c3 cx1 cz1
      generalize wi.drewN nq = wd at *
      by_cases hu1 : u = 1
      · have d1 : (u == 1) = true := by simp; exact hu1
        have hnx := nwst_on (x := x) (f := f) (l := l) (i := i) (.inl (HTN.out.trans hu1))
        have HNX := Lib.hid hnx
        clear hnx hu1
        go_wp2
        go_roundw
        case rel => exact ⟨i + 1, i, by omega, by go_num, rfl, HNX.out, by omega, P', hT', R'⟩
        case measure => simp [intOf]; omega
      · have d1 : (u == 1) = false := by simp; exact hu1
        by_cases hu2 : u = -1
        · have d2 : (u == -1) = true := by simp; exact hu2
          have hnx := nwst_on (x := x) (f := f) (l := l) (i := i) (.inr (HTN.out.trans hu2))
          have HNX := Lib.hid hnx
          clear hnx hu1 hu2
          go_wp2
          go_roundw
          case rel => exact ⟨i + 1, i, by omega, by go_num, rfl, HNX.out, by omega, P', hT', R'⟩
          case measure => simp [intOf]; omega
        · have d2 : (u == -1) = false := by simp; exact hu2
          have hnx := nwst_off (x := x) (f := f) (l := l) (i := i) (by rw [HTN.out]; omega)
          rw [HST.out] at hnx
          have HNX := Lib.hid hnx
          clear hnx hu1 hu2
          go_wp2
          go_roundw
          case rel => exact ⟨i + 1, nw, by omega, by go_num, rfl, HNX.out, hnwb, P', hT', R'⟩
          case measure => simp [intOf]; omega
    · have dl : decide (i < n) = false := decide_eq_false hlt
      have hin : i = n := by omega
      rw [hin] at HST
      clear hin
      go_wp2
      have P1 := P
      have hT1' := hT1.trans hT
      have HT1 := Lib.hid hT1'
      have hgz1 : gz < wi.heap.size := by have := hT.fr.size; omega
      have hb11 : b0 < wi.heap.size := by have := hT.fr.size; omega
      clear hT hT1 hT1' hb01 hgz
      go_loopw [9, 10, 45] (FiR B p f n b0 gz (t : Nat) h l nw x s vo vh wi) (fun _ _ ix _ => n - (intOf ix).toNat)
      case atStart => exact ⟨0, s, 0, [], vo, vh, Nat.zero_le _, rfl, rfl, rfl, P1, Bes.nil_ _ _ _ _ _, Pt.refl _ _ _ _, R⟩
      case round =>
        clear P P1 R
        obtain ⟨i, s', z, hd, vo', vh', hi, rfl, rfl, hst, P, Q, hT, R⟩ := hrel
        obtain ⟨wj, rfl⟩ : ∃ wj : World, wj = wr := ⟨_, rfl⟩
        have hbd := fiN_bd x f l nw s i
        rw [hst] at hbd
        simp only at hbd
        have hBn : B ≤ wj.heap.size := by have := hT.fr.size; omega
        have hob := hT.off hb11 hbo
        have hog := hT.off hgz1 hgo
        have HST2 := Lib.hid hst
        have hwl := hT.fr.size
        have hlQ := Q.own
        obtain ⟨lh, hlh⟩ : ∃ lh, lh = hd.length := ⟨_, rfl⟩
        rw [← hlh] at hlQ hbd
        have HLH := Lib.hid hlh
        obtain ⟨Al, cl, hvl, _, _, hRl⟩ := own_sliceN hlQ
        subst hvl
        have hrl4 : (pcRows hd).length = lh * 4 := by rw [pcRows_len, hlh]
        have HQ := Lib.hid Q
        have hlb : ∀ k, (Value.slice Al lh cl).ownBlock = some k → wi.heap.size ≤ k := fun k hk => (Q.own.lt k hk).1
        clear hst hlh
        by_cases hlt : i < n
        · have dl : decide (i < n) = true := decide_eq_true hlt
          obtain ⟨hz1, hz2, hz3⟩ := zzN_bd (f + i) (by omega)
          obtain ⟨b1, o1, hbe, _, hcr⟩ := R.plc.at_ (k := i) (by rw [iv_len, plc_len hfn]; exact hlt)
          injection hbe with hbe
          injection hbe with hbe1 hbe2
          subst hbe1 hbe2
          have cz1 := hcr i (.int .i64 ((zzN (f + i) : Nat) : Int)) (by unfold iv; rw [List.getElem?_map, plc_at hfn hlt]; rfl)
          rw [Nat.zero_add] at cz1
          have cx1 := R.box.cell (i := zzN (f + i)) (ivs_get (by rw [HX.out]; exact hz1))
          have c3 := P.blk.cell (i := 3) (u := .int .i64 l) rfl
          have hvb := tn_bd HX.out HG.out f l i (by omega)
          have htn : tn x f l i = tl (x.getD (zzN (f + i)) 0) l false := rfl
          have hub := tl_bd l hvb.1 hvb.2 false
          have hi0 : (0 : Int) ≤ (i : Int) := by omega
          have hi1 : (i : Int) < (n : Int) := by omega
          have hq0 : (0 : Int) ≤ ((zzN (f + i) : Nat) : Int) := by omega
          have hq1 : ((zzN (f + i) : Nat) : Int) < 64 := by omega
          generalize zzN (f + i) = zi at *
          generalize x.getD zi 0 = v at *
          have hte := fun W : World => tell_any v l false (by omega) W
          obtain ⟨u, huq⟩ : ∃ u, u = tl v l false := ⟨_, rfl⟩
          rw [← huq] at htn hub
          have HTE := Lib.hid hte
          have HTN := Lib.hid htn
          have HUQ := Lib.hid huq
          clear hcr hz2 hz3 hte htn huq
          go_upto_region 15 with fail
          go_quiet ((go_at_call 96; exact quiet_l (HTE.out _)))
          rw [← HUQ.out]
          have P' := P.drewN nq
          have R' := R.drewN nq
          have hT' := hT.drewN nq
          have Q' : Bes (wj.drewN nq) wi.heap.size p vo' vh' (.slice Al lh cl) hd := Q.pt ((Pt.refl p wj vo' vh').drewN nq)
          have hBn' : B ≤ (wj.drewN nq).heap.size := hBn
          have hwl' : wi.heap.size ≤ (wj.drewN nq).heap.size := hwl
          clear P R hT hBn c3 cx1 cz1 Q HQ hwl hRl hlQ
          generalize wj.drewN nq = wd at *
          have hsl : s'.out.length + s'.held.length = s'.len := rfl
          by_cases hu : u = 0
          · have du : (u == 0) = true := by simp; exact hu
            have htz := HTN.out.trans hu
            have HTZ := Lib.hid htz
            clear htz hu
            by_cases h15 : z = 15
            · have d15 : ((z : Int) + 1 == 16) = true := by simp; omega
              by_cases hnw : (i : Int) < nw
              · have dnw : decide ((i : Int) < nw) = true := decide_eq_true hnw
                have hnx := fi_skip (HST2.out.trans (by rw [h15])) HTZ.out hnw
                have HNX := Lib.hid hnx
                clear hnx
                go_wp2_with fail
                refine (flush_any P' hBn' (by omega) (by omega)).mono ?_; rintro e w3 ⟨rfl, vf, P3, hT3⟩
                have R3 := R'.pt hT3 ⟨hb0g, hob⟩ ⟨hgzp, hog⟩
                have Q3 := Q'.pt hT3
                have hT3' := hT'.trans hT3
                have hB3 : B ≤ w3.heap.size := by have := hT3.fr.size; omega
                have hob3 := hT3'.off hb11 hbo
                have hog3 := hT3'.off hgz1 hgo
                have hfl := fl_len s'
                have hlo3 : s'.fl.out.length ≤ 900300 := by have : s'.fl.len = s'.fl.out.length + s'.fl.held.length := rfl; omega
                clear P' R' Q' hT' hT3 hob hog hBn' hwl'
                generalize hSF : s'.fl = sf at *
                clear hSF
                obtain ⟨lo, hlo⟩ : ∃ lo, lo = sf.out.length := ⟨_, rfl⟩
                have ho := P3.out
                rw [← hlo] at ho hlo3
                obtain ⟨Av, cv, hve, _⟩ := own_sliceN ho
                subst hve
                have HLO := Lib.hid hlo
                have c4 := P3.blk.cell (i := 4) (u := .slice Av lo cv) rfl
                have HP := Lib.hid P3
                have hba : Below w3.heap.size w3 (w3.alloc (.cells (pcV skipP).toArray 27)) := (Below.refl _ _).alloc (Nat.le_refl _) _
                have hoa := own_keepN ho hba
                have XD := P3.blk.below hba
                have hsza : B ≤ (w3.alloc (.cells (pcV skipP).toArray 27)).heap.size := Nat.le_trans hB3 hba.size
                have hpa : p < (w3.alloc (.cells (pcV skipP).toArray 27)).heap.size := Nat.lt_of_lt_of_le P3.lt hba.size
                have hrn := Rd.newN w3 27 (pcV skipP)
                clear hlo P3 ho
                go_wp2_with (first | (at_builtin; refine wpList_appN0 _ rfl (.tmp 76) (.tmp 78) 23 rfl Try.underlying23 ii0 iz0 iz1 iz2 rfl (by omega) hoa rfl rfl hrn rfl (pcV_one _) (by omega) (by omega) hsza ?_; intro v7 w7 hown7 hap7; obtain ⟨A7, c7, rfl, _⟩ := own_sliceN hown7; have hax7 := Ap.ax hap7; have hR7 := Q3.rd HLH.out.symm hba hax7; have hB7 : B ≤ w7.heap.size := Nat.le_trans hsza hap7.fr.size) | (at_builtin; refine wpList_appN0 _ rfl (.tmp 79) (.tmp 80) 23 rfl Try.underlying23 ii0 iz0 iz1 iz2 rfl (by omega) hown7 rfl rfl hR7 hrl4 (pcRows_one _) (by omega) (by omega) hB7 ?_; intro v8 w8 hown8 hap8; obtain ⟨A8, c8, rfl, _⟩ := own_sliceN hown8; have hax8 := hax7.trans (Ap.ax hap8); have Xb := XD.keep hax8.fr HP.out.po; have q4 := Xb.cell (i := 4) (u := .slice Av lo cv) rfl; have f4 := Xb.fz (i := 4) (show 4 < 7 by decide)))
                obtain ⟨P7, hT7⟩ := HP.out.appX (nw := skipP :: hd) hba w8 (by simpa [pcRows] using hown8) (by rw [HLO.out, List.length_cons, ← HLH.out]; omega) hax8
                have R7 := R3.pt hT7 ⟨hb0g, hob3⟩ ⟨hgzp, hog3⟩
                go_roundw
                case rel => exact ⟨i + 1, _, 0, [], _, _, by omega, by go_num, rfl, HNX.out, P7, Bes.nil_ _ _ _ _ _, hT3'.trans hT7, R7⟩
                case measure => simp [intOf]; omega
              · have dnw : decide ((i : Int) < nw) = false := decide_eq_false hnw
                have hnx := fi_zero HST2.out HTZ.out (fun h => hnw h.2)
                have HNX := Lib.hid hnx
                clear hnx
                go_wp2
                go_roundw
                case rel => exact ⟨i + 1, s', z + 1, hd, vo', vh', by omega, by go_num, by go_num, HNX.out, P', Q', hT', R'⟩
                case measure => simp [intOf]; omega
            · have d15 : ((z : Int) + 1 == 16) = false := by simp; omega
              have hnx := fi_zero HST2.out HTZ.out (fun h => h15 h.1)
              have HNX := Lib.hid hnx
              clear hnx
              go_wp2
              go_roundw
              case rel => exact ⟨i + 1, s', z + 1, hd, vo', vh', by omega, by go_num, by go_num, HNX.out, P', Q', hT', R'⟩
              case measure => simp [intOf]; omega
          · have du : (u == 0) = false := by simp; exact hu
            have htz : tn x f l i ≠ 0 := by rw [HTN.out]; exact hu
            have HTZ := Lib.hid htz
            clear htz
            by_cases hu1 : u = 1 ∨ u = -1
            · have hnx := fi_on HST2.out (show tn x f l i = 1 ∨ tn x f l i = -1 by rw [HTN.out]; exact hu1)
              rw [HTN.out] at hnx
              have HNX := Lib.hid hnx
              have dg : decide (1 < u) = false := decide_eq_false (by omega)
              have dk : decide (u < -1) = false := decide_eq_false (by omega)
              obtain ⟨ex, hex⟩ : ∃ ex : Int, ex = if u = 1 then 1 else 0 := ⟨_, rfl⟩
              have hmx : max u 0 = ex := by rw [hex]; split <;> omega
              have hon : onP u z = (true, 16 * (z : Int) + 1, ex, 1) := by rw [hex]; rfl
              rw [hon] at hnx
              have HNX := Lib.hid hnx
              clear hnx hex hon hu1 hu
              go_wp2_with fail
              refine (flush_any P' hBn' (by omega) (by omega)).mono ?_; rintro e w3 ⟨rfl, vf, P3, hT3⟩
              have R3 := R'.pt hT3 ⟨hb0g, hob⟩ ⟨hgzp, hog⟩
              have Q3 := Q'.pt hT3
              have hT3' := hT'.trans hT3
              have hB3 : B ≤ w3.heap.size := by have := hT3.fr.size; omega
              have hob3 := hT3'.off hb11 hbo
              have hog3 := hT3'.off hgz1 hgo
              have hfl := fl_len s'
              have hlo3 : s'.fl.out.length ≤ 900300 := by have : s'.fl.len = s'.fl.out.length + s'.fl.held.length := rfl; omega
              clear P' R' Q' hT' hT3 hob hog hBn' hwl'
              generalize hSF : s'.fl = sf at *
              clear hSF
              obtain ⟨lo, hlo⟩ : ∃ lo, lo = sf.out.length := ⟨_, rfl⟩
              have ho := P3.out
              rw [← hlo] at ho hlo3
              obtain ⟨Av, cv, hve, _⟩ := own_sliceN ho
              subst hve
              have HLO := Lib.hid hlo
              have c4 := P3.blk.cell (i := 4) (u := .slice Av lo cv) rfl
              have HP := Lib.hid P3
              have hba : Below w3.heap.size w3 (w3.alloc (.cells (pcV (true, 16 * (z : Int) + 1, ex, 1)).toArray 27)) := (Below.refl _ _).alloc (Nat.le_refl _) _
              have hoa := own_keepN ho hba
              have XD := P3.blk.below hba
              have hsza : B ≤ (w3.alloc (.cells (pcV (true, 16 * (z : Int) + 1, ex, 1)).toArray 27)).heap.size := Nat.le_trans hB3 hba.size
              have hpa : p < (w3.alloc (.cells (pcV (true, 16 * (z : Int) + 1, ex, 1)).toArray 27)).heap.size := Nat.lt_of_lt_of_le P3.lt hba.size
              have hrn := Rd.newN w3 27 (pcV (true, 16 * (z : Int) + 1, ex, 1))
              clear hlo P3 ho
              go_wp2_with (first | (at_builtin; refine wpList_appN0 _ rfl (.tmp 105) (.tmp 112) 23 rfl Try.underlying23 ii0 iz0 iz1 iz2 rfl (by omega) hoa rfl rfl hrn rfl (pcV_one _) (by omega) (by omega) hsza ?_; intro v7 w7 hown7 hap7; obtain ⟨A7, c7, rfl, _⟩ := own_sliceN hown7; have hax7 := Ap.ax hap7; have hR7 := Q3.rd HLH.out.symm hba hax7; have hB7 : B ≤ w7.heap.size := Nat.le_trans hsza hap7.fr.size) | (at_builtin; refine wpList_appN0 _ rfl (.tmp 113) (.tmp 114) 23 rfl Try.underlying23 ii0 iz0 iz1 iz2 rfl (by omega) hown7 rfl rfl hR7 hrl4 (pcRows_one _) (by omega) (by omega) hB7 ?_; intro v8 w8 hown8 hap8; obtain ⟨A8, c8, rfl, _⟩ := own_sliceN hown8; have hax8 := hax7.trans (Ap.ax hap8); have Xb := XD.keep hax8.fr HP.out.po; have q4 := Xb.cell (i := 4) (u := .slice Av lo cv) rfl; have f4 := Xb.fz (i := 4) (show 4 < 7 by decide)))
              obtain ⟨P7, hT7⟩ := HP.out.appX (nw := (true, 16 * (z : Int) + 1, ex, 1) :: hd) hba w8 (by simpa [pcRows] using hown8) (by rw [HLO.out, List.length_cons, ← HLH.out]; omega) hax8
              have R7 := R3.pt hT7 ⟨hb0g, hob3⟩ ⟨hgzp, hog3⟩
              go_roundw
              case rel => exact ⟨i + 1, _, 0, [], _, _, by omega, by go_num, rfl, HNX.out, P7, Bes.nil_ _ _ _ _ _, hT3'.trans hT7, R7⟩
              case measure => simp [intOf]; omega
            · have hnx := fi_bit HST2.out HTZ.out (show ¬ (tn x f l i = 1 ∨ tn x f l i = -1) by rw [HTN.out]; exact hu1)
              rw [HTN.out] at hnx
              have HNX := Lib.hid hnx
              clear hnx
              have hbx : bits BinOp.and IntKind.i64 (max u (-u)) 1 = ((u.natAbs % 2 : Nat) : Int) := by rw [i64_bit]; omega
              obtain ⟨ex, hex⟩ : ∃ ex : Int, ex = ((u.natAbs % 2 : Nat) : Int) := ⟨_, rfl⟩
              rw [← hex] at hbx
              have hon : bitP u = (true, -1, ex, 1) := by rw [hex]; rfl
              have HON := Lib.hid hon
              have hba : Below wd.heap.size wd (wd.alloc (.cells (pcV (true, -1, ex, 1)).toArray 27)) := (Below.refl _ _).alloc (Nat.le_refl _) _
              have hoa := own_keepN Q'.own hba
              rw [← HLH.out] at hoa
              have hrn := Rd.newN wd 27 (pcV (true, -1, ex, 1))
              have hsza : wi.heap.size ≤ (wd.alloc (.cells (pcV (true, -1, ex, 1)).toArray 27)).heap.size := Nat.le_trans hwl' hba.size
              have hcase : decide (1 < u) = true ∨ (decide (1 < u) = false ∧ decide (u < -1) = true) := by
                by_cases hup : 1 < u
                · exact .inl (decide_eq_true hup)
                · exact .inr ⟨decide_eq_false hup, decide_eq_true (by omega)⟩
              clear hex hon hu1
              rcases hcase with dg | ⟨dg, dk⟩
              all_goals
                go_wp2_with (at_builtin; refine wpList_appN0 _ rfl (.tmp 90) (.tmp 97) 23 rfl Try.underlying23 ii0 iz0 iz1 iz2 rfl (by omega) hoa rfl rfl hrn rfl (pcV_one _) (by omega) (by omega) hsza ?_; intro v8 w8 hown8 hap8; obtain ⟨A8, c8, rfl, _⟩ := own_sliceN hown8)
                obtain ⟨P8, Q8, hf8⟩ := Bes.app P' Q' hba (nw := [bitP u]) (by rw [HON.out]; simpa [pcRows] using hown8) (by rw [← HLH.out]; rfl) hap8
                have R8 := R'.keep hf8 (fun e => by have := hlb _ e; omega) (fun e => by have := hlb _ e; omega)
                go_roundw
                case rel => exact ⟨i + 1, s', z, hd ++ [bitP u], vo', vh', by omega, by go_num, rfl, HNX.out, P8, Q8, hT'.more hf8 (fun k hk => hlb k hk), R8⟩
                case measure => simp [intOf]; omega
        · have dl : decide (i < n) = false := decide_eq_false hlt
          have hin : i = n := by omega
          have hst2 := HST2.out
          rw [hin] at hst2
          have hAp : ∀ a, Al = some a → a.block ≠ p := fun a ha e => HQ.out.lp (by rw [ha]; exact congrArg some e)
          have hfe0 : fiB x f n l s = fiE (s', z, hd) := by unfold fiB; rw [HST.out, hst2]
          by_cases hz : 0 < z
          · have dz : decide ((0 : Int) < (z : Int)) = true := decide_eq_true (by omega)
            have hfe : fiB x f n l s = s'.end_ hd := by rw [hfe0]; exact if_pos (.inl hz)
            have HFE := Lib.hid hfe
            clear hin hst2 hfe hfe0
            go_wp2_with fail
            refine (end_any P hBn (by omega) HLH.out.symm hRl hAp (by have : s'.len = s'.out.length + s'.held.length := rfl; omega)).mono ?_; rintro e w3 ⟨rfl, vh3, P3, hT3⟩
            go_wp2
            go_end0
            rw [HFE.out]
            exact ⟨rfl, _, _, P3, HT1.out.trans (hT.trans hT3)⟩
          · have dz : decide ((0 : Int) < (z : Int)) = false := decide_eq_false (by omega)
            by_cases hl0 : 0 < lh
            · have dz2 : decide (0 < lh) = true := decide_eq_true hl0
              have hfe : fiB x f n l s = s'.end_ hd := by rw [hfe0]; exact if_pos (.inr (by rw [← HLH.out]; exact hl0))
              have HFE := Lib.hid hfe
              clear hin hst2 hfe hfe0
              go_wp2_with fail
              refine (end_any P hBn (by omega) HLH.out.symm hRl hAp (by have : s'.len = s'.out.length + s'.held.length := rfl; omega)).mono ?_; rintro e w3 ⟨rfl, vh3, P3, hT3⟩
              go_wp2
              go_end0
              rw [HFE.out]
              exact ⟨rfl, _, _, P3, HT1.out.trans (hT.trans hT3)⟩
            · have dz2 : decide (0 < lh) = false := decide_eq_false hl0
              have hno : ¬ (0 < z ∨ 0 < hd.length) := by
                have := HLH.out
                omega
              have hfe : fiB x f n l s = s' := by rw [hfe0]; exact if_neg hno
              have HFE := Lib.hid hfe
              clear hin hst2 hfe hfe0
              go_wp2
              go_end0
              rw [HFE.out]
              exact ⟨rfl, _, _, P, HT1.out.trans hT⟩
end Go.Proofs.Ytlhappecjjbopaa
