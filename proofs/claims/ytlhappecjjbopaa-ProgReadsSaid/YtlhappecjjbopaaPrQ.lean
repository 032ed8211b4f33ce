/-
  Prog: what the document reads with: take, fail, symbol, by contracts. Conditions: at most 15 bits at once; symbols below 512.
  Prog: the document's dc that is read, by a contract. No condition beyond the ranges that each names.
-/
import Derived.Test.YtlhappecjjbopaaPrU
import Derived.Deep.RegionHeld3
import Derived.Test.YtlhappecjjbopaaPrP
import Derived.Test.YtlhappecjjbopaaScB
namespace Go.Proofs.Ytlhappecjjbopaa
section
open Go.RowKit
set_option linter.unusedVariables false
set_option maxRecDepth 100000

def inL (v0 v1 : Value) (a : Nat) (bad en : Int) : List Value := [v0, v1, .int .i64 (a : Nat), .int .i64 bad, .int .i64 en]
/-- the document's reader -/
structure Inn (w : World) (p : Nat) (v0 : Value) (A : Option Addr) (c : Nat) (L : List Int) (a : Nat) (bad en : Int) : Prop where
  blk : Bln w p 175 (inL v0 (.slice A L.length c) a bad en)
  rd : Rd w w.heap.size A (iv L)
  ne : ∀ q, A = some q → q.block ≠ p
  le : a ≤ L.length
  hc : L.length ≤ c ∧ c ≤ 9223372036854775807 ∧ L.length ≤ 1000000000
section
variable {w w' : World} {p : Nat} {v0 : Value} {A : Option Addr} {c : Nat} {L : List Int} {a : Nat} {bad en : Int}
theorem Inn.keep {S : Nat → Prop} (x : Inn w p v0 A c L a bad en) (hf : Fr S w w') (h1 : ¬ S p) (h2 : ∀ q, A = some q → ¬ S q.block) : Inn w' p v0 A c L a bad en :=
  ⟨x.blk.keep hf h1, (hf.rd x.rd (Nat.le_refl _) h2).more hf.size, x.ne, x.le, x.hc⟩
theorem Inn.below (x : Inn w p v0 A c L a bad en) (hb : Below w.heap.size w w') : Inn w' p v0 A c L a bad en :=
  x.keep (S := fun _ => False) (Fr.of_below hb) (fun f => f) (fun _ _ f => f)
theorem Inn.drewN (x : Inn w p v0 A c L a bad en) (n : Nat) : Inn (w.drewN n) p v0 A c L a bad en :=
  x.keep (S := fun _ => False) ((Fr.refl _ _).drewN n) (fun f => f) (fun _ _ f => f)
theorem Inn.lt (x : Inn w p v0 A c L a bad en) : p < w.heap.size := x.blk.lt
theorem Inn.set (x : Inn w p v0 A c L a bad en) {i : Nat} {u : Value} {a' : Nat} {bad' en' : Int} (he : (inL v0 (.slice A L.length c) a bad en).set i u = inL v0 (.slice A L.length c) a' bad' en') (hle : a' ≤ L.length) :
    Inn (w.setCell ⟨p, i, none⟩ u) p v0 A c L a' bad' en' ∧ Fp p w (w.setCell ⟨p, i, none⟩ u) := by
  have hf : Fp p w (w.setCell ⟨p, i, none⟩ u) := Fr.setCell (S := fun k => k = p) (Fr.refl _ _) (p := ⟨p, i, none⟩) (.inl rfl) u
  refine ⟨⟨?_, (hf.rd x.rd (Nat.le_refl _) (fun q hq e => x.ne q hq e)).more hf.size, x.ne, hle, x.hc⟩, hf⟩
  have := x.blk.set i u
  rw [he] at this; exact this
theorem Inn.c0 (x : Inn w p v0 A c L a bad en) : w.cell? ⟨p, 0, none⟩ = some v0 := x.blk.cell (i := 0) rfl
theorem Inn.c1 (x : Inn w p v0 A c L a bad en) : w.cell? ⟨p, 1, none⟩ = some (.slice A L.length c) := x.blk.cell (i := 1) rfl
theorem Inn.c2 (x : Inn w p v0 A c L a bad en) : w.cell? ⟨p, 2, none⟩ = some (.int .i64 (a : Nat)) := x.blk.cell (i := 2) rfl
theorem Inn.c3 (x : Inn w p v0 A c L a bad en) : w.cell? ⟨p, 3, none⟩ = some (.int .i64 bad) := x.blk.cell (i := 3) rfl
theorem Inn.c4 (x : Inn w p v0 A c L a bad en) : w.cell? ⟨p, 4, none⟩ = some (.int .i64 en) := x.blk.cell (i := 4) rfl
theorem Inn.fz (x : Inn w p v0 A c L a bad en) {i : Nat} (hi : i < 5) : w.frozen? ⟨p, i, none⟩ = false := x.blk.fz (show i < 5 from hi)

def InP (p : Nat) (v0 : Value) (A : Option Addr) (c : Nat) (L : List Int) (r : Value) (a' : Nat) (bad' en' : Int) (w : World) (e : Ending) (w' : World) : Prop :=
  e = .returned r ∧ Inn w' p v0 A c L a' bad' en' ∧ Fp p w w'
theorem ifail_any (x : Inn w p v0 A c L a bad en) : Calls Try.prog 133 #[.pointer (some ⟨p, 0, none⟩)] w (InP p v0 A c L (.tuple #[]) a (if bad = 0 then 2 else bad) en w) := by
  have c3 := x.c3
  have f3 := x.fz (i := 3) (by omega)
  by_cases hb : bad = 0
  · rw [if_pos hb]
    have db : (bad == 0) = true := by simp; exact hb
    obtain ⟨h1, h2⟩ := x.set (i := 3) (u := .int .i64 2) (a' := a) (bad' := 2) (en' := en) rfl x.le
    go_enter Try.func133, Try.ntmps133
    clear hb
    go_wp2
    go_end0
    exact ⟨rfl, h1, h2⟩
  · rw [if_neg hb]
    have db : (bad == 0) = false := by simp; exact hb
    go_enter Try.func133, Try.ntmps133
    clear hb
    go_wp2
    go_end0
    exact ⟨rfl, x, Fp.refl _ _⟩
theorem itake_bad (x : Inn w p v0 A c L a bad en) (hb : bad ≠ 0) (n : Int) : Calls Try.prog 131 #[.pointer (some ⟨p, 0, none⟩), .int .i64 n] w (InP p v0 A c L (.int .i64 0) a bad en w) := by
  have c3 := x.c3
  have db : (bad == 0) = false := by simp; exact hb
  have db2 : (bad != 0) = true := by simp; exact hb
  have HX := Lib.hid x
  clear x hb
  go_enter Try.func131, Try.ntmps131
  go_wp2_with fail
  go_quiet (fail)
  have c3' := (HX.out.drewN nq).c3
  go_wp2
  go_ret
  exact ⟨rfl, HX.out.drewN nq, (Fr.refl _ _).drewN nq⟩
theorem itake_few (x : Inn w p v0 A c L a 0 en) (n : Nat) (hn : n ≤ 15) (hl : L.length < a + n) : Calls Try.prog 131 #[.pointer (some ⟨p, 0, none⟩), .int .i64 (n : Nat)] w (InP p v0 A c L (.int .i64 0) a 8 en w) := by
  have c1 := x.c1
  have c2 := x.c2
  have c3 := x.c3
  have hle := x.le
  have hcc := x.hc
  have dl : decide (((L.length : Nat) : Int) - ((a : Nat) : Int) < (n : Int)) = true := decide_eq_true (by omega)
  have HX := Lib.hid x
  clear x
  go_enter Try.func131, Try.ntmps131
  go_wp2_with fail
  go_quiet (fail)
  have X1 := HX.out.drewN nq
  have hf1 : Fp p w (w.drewN nq) := (Fr.refl _ _).drewN nq
  generalize w.drewN nq = w1 at *
  obtain ⟨X2, hf2⟩ := X1.set (i := 3) (u := .int .i64 8) (a' := a) (bad' := 8) (en' := en) rfl X1.le
  have d3 := X1.c3
  have f3 := X1.fz (i := 3) (by omega)
  go_wp2
  go_ret
  exact ⟨rfl, X2, hf1.trans hf2⟩
/-- a part of the bits, as a slice -/
theorem Inn.cut (x : Inn w p v0 A c L a bad en) (k : Nat) : ∃ A', A' = (if c = a then A else Option.map (fun q => q.add a) A) ∧ Rd w w.heap.size A' (iv (L.drop a)) ∧ Rd w w.heap.size A' (iv ((L.drop a).take k)) := by
  refine ⟨_, rfl, ?_, ?_⟩
  · obtain ⟨A2, c2, he, _, _, h1, _⟩ := Lf.cut x.hc.1 x.hc.2.1 x.rd x.ne a x.le
    injection he with he1
    rw [he1]; exact h1
  · obtain ⟨A2, c2, he, _, _, h1, _⟩ := Lf.cut x.hc.1 x.hc.2.1 x.rd x.ne a x.le
    injection he with he1
    rw [he1]
    rcases h1 with h | ⟨b, o, h2, h3, h4⟩
    · left
      have : L.drop a = [] := by simpa [iv] using h
      rw [this]; simp [iv]
    · refine .inr ⟨b, o, h2, h3, fun j u hu => h4 j u ?_⟩
      unfold iv at hu ⊢
      rw [List.getElem?_map, List.getElem?_take] at hu
      rw [List.getElem?_map]
      split at hu
      · exact hu
      · cases hu
set_option maxHeartbeats 4000000 in
theorem itake_ok (x : Inn w p v0 A c L a 0 en) (hB : B01 L) (n : Nat) (hn : n ≤ 15) (hl : a + n ≤ L.length) : Calls Try.prog 131 #[.pointer (some ⟨p, 0, none⟩), .int .i64 (n : Nat)] w (InP p v0 A c L (.int .i64 (hv ((L.drop a).take n))) (a + n) 0 en w) := by
  have c1 := x.c1
  have c2 := x.c2
  have c3 := x.c3
  have hle := x.le
  have hcc := x.hc
  have dl : decide (((L.length : Nat) : Int) - ((a : Nat) : Int) < (n : Int)) = false := decide_eq_false (by omega)
  have HX := Lib.hid x
  clear x
  go_enter Try.func131, Try.ntmps131
  go_wp2_with fail
  go_quiet (fail)
  have X1 := HX.out.drewN nq
  have hf1 : Fp p w (w.drewN nq) := (Fr.refl _ _).drewN nq
  generalize w.drewN nq = w1 at *
  obtain ⟨X2, hf2⟩ := X1.set (i := 2) (u := .int .i64 ((a : Int) + (n : Int))) (a' := a + n) (bad' := 0) (en' := en) (by unfold inL; simp) hl
  have d2 := X1.c2
  have d3 := X1.c3
  have f2 := X1.fz (i := 2) (by omega)
  clear c1 c2 c3
  go_upto_region 6 with fail
  generalize w1.setCell ⟨p, 2, none⟩ (.int .i64 ((a : Int) + (n : Int))) = w2 at *
  have e1 := X2.c1
  have e2 : w2.cell? ⟨p, 2, none⟩ = some (.int .i64 ((a : Int) + (n : Int))) := by have := X2.c2; simpa using this
  obtain ⟨A', hA', _, hRA⟩ := HX.out.cut n
  have hf3 := hf1.trans hf2
  have hRB : Rd w2 w.heap.size A' (iv ((L.drop a).take n)) := by
    rcases hRA with h | ⟨b1, o1, h1, h2, h3⟩
    · exact .inl h
    · refine .inr ⟨b1, o1, h1, h2, fun k u hu => (hf3.cell (p := ⟨b1, o1 + k, none⟩) h2 (fun e => ?_)).trans (h3 k u hu)⟩
      rcases A with _ | q
      · rw [hA'] at h1; split at h1 <;> simp at h1
      · have hq := HX.out.ne q rfl
        rw [hA'] at h1
        split at h1
        · injection h1 with h1; rw [h1] at hq; exact hq e
        · injection h1 with h1
          have h9 : q.add a = ⟨b1, o1, none⟩ := h1
          have : (q.add a).block = b1 := by rw [h9]
          rw [add_block] at this
          exact hq (this.trans e)
  have hll : ((L.drop a).take n).length = n := by rw [List.length_take, List.length_drop]; omega
  have hb1 : B01 ((L.drop a).take n) := (hB.drop a).take n
  have hpt := part_hv n _ hll
  have hw1 : wrap64 ((a : Int) + (n : Int) - (n : Int)) = (a : Int) := by rw [IntWalk.wrap64_in _ (by omega)]; omega
  have hw2 : IntKind.i64.wrap ((a : Int) + (n : Int) - (n : Int)) = (a : Int) := by rw [IntWalk.i64_in _ (by omega)]; omega
  have g1 : (0 : Int) ≤ (a : Int) := by omega
  have g2 : (a : Int) ≤ (a : Int) + (n : Int) := by omega
  have g3 : (a : Int) + (n : Int) ≤ (c : Int) := by omega
  have HN : ∀ (c' : Nat) W, Rd W w.heap.size A' (iv ((L.drop a).take n)) → Calls Try.prog 127 #[.slice A' n c', .bool true] W fun e w' => e = .returned (.int .i64 (hv ((L.drop a).take n))) ∧ W = w' := fun c' W h => by
    have := number_any A' n c' ((L.drop a).take n) true w.heap.size W hll h hb1 (by omega)
    rwa [hpt] at this
  have HNN := Lib.hid HN
  have HRB := Lib.hid hRB
  have HX2 := Lib.hid X2
  have hA2 := hA'.symm
  clear d2 d3 f2 hA' hRA hRB hll hb1 hpt HN X1 X2 hf1 hf2
  go_quiet ((go_at_call 127; exact quiet_l (HNN.out _ _ HRB.out)))
  go_wp2
  go_ret
  exact ⟨rfl, HX2.out.drewN nq, hf3.drewN nq⟩
theorem keep_in {W w5 : World} {b o o' o'' : Nat} {x y z : Value} (hb : Below W.heap.size W w5) (h : W.cell? ⟨b, o, none⟩ = some x ∧ W.cell? ⟨b, o', none⟩ = some y ∧ W.cell? ⟨b, o'', none⟩ = some z) : w5.cell? ⟨b, o, none⟩ = some x ∧ w5.cell? ⟨b, o', none⟩ = some y ∧ w5.cell? ⟨b, o'', none⟩ = some z :=
  ⟨(hb.cell (p := ⟨b, o, none⟩) (World.block_lt_of_cell? W _ h.1)).trans h.1, (hb.cell (p := ⟨b, o', none⟩) (World.block_lt_of_cell? W _ h.2.1)).trans h.2.1, (hb.cell (p := ⟨b, o'', none⟩) (World.block_lt_of_cell? W _ h.2.2)).trans h.2.2⟩
set_option maxHeartbeats 8000000 in
theorem isym_any {A1 : Option Addr} {n1 c1 K : Nat} {S Z : List Int} (x : Inn w p (.slice A1 n1 c1) A c L a 0 en) (hB : B01 L) (hS : Cs w K A1 S Z) (hz : Zs Z) (hn : Z.length = n1) (hm : n1 ≤ 100000) {s : Int} {m : Nat} {e : Int} (hF : rdF S Z (L.drop a) = (s, m, e)) :
    Calls Try.prog 132 #[.pointer (some ⟨p, 0, none⟩)] w (InP p (.slice A1 n1 c1) A c L (.int .i64 (if e = 0 then s else -1)) (a + m) e en w) := by
  have c0 := x.c0
  have c1' := x.c1
  have c2 := x.c2
  have c3 := x.c3
  have hle := x.le
  have hcc := x.hc
  have HX := Lib.hid x
  obtain ⟨A', hA', hRA, _⟩ := x.cut 0
  have hA2 := hA'.symm
  have hll : (L.drop a).length = L.length - a := List.length_drop
  have hca : (a : Int) ≤ (c : Int) := by omega
  have hca2 : (a : Int) ≤ (L.length : Int) := by omega
  have g1 : (0 : Int) ≤ (a : Int) := by omega
  have hRAd : Rd w.drew w.drew.heap.size A' (iv (L.drop a)) := hRA
  have hSd : Cs w.drew K A1 S Z := hS.keep ((Below.refl _ w).drew.mono (Nat.le_refl _))
  have HF := Lib.hid hF
  clear hA' x hF
  go_enter Try.func132, Try.ntmps132
  go_upto_region 3 with fail
  go_region_held3 (fun w' => w'.cell? ⟨p, 0, none⟩ = some (.slice A1 n1 c1) ∧ w'.cell? ⟨p, 1, none⟩ = some (.slice A L.length c) ∧ w'.cell? ⟨p, 2, none⟩ = some (.int .i64 (a : Nat)))
    (first | go_keep | exact keep_in hb5 (by first | assumption | exact ⟨by assumption, by assumption, by assumption⟩))
    (first | (go_at_call 108; refine (refread_any A1 A' n1 c1 (L.length - a) _ K S Z (L.drop a) w.drew hn hll hSd hRAd hz (hB.drop a) hm (by omega)).mono ?_; rintro e5 w5 ⟨sym, k, er, hr, rfl, hb5⟩))
  have hEq := rdF_eq hz (hB.drop a) hr
  rw [HF.out] at hEq
  simp only [Prod.mk.injEq] at hEq
  obtain ⟨rfl, rfl, rfl⟩ := hEq
  have hkb := hr.bd
  have X5 := (HX.out.keep (S := fun _ => False) ((Fr.refl _ w).drew) (fun f => f) (fun _ _ f => f)).below hb5
  have hf5 : Fp p w w5 := ((Fr.refl _ w).drew).trans (Fp.of_below (p := p) hb5)
  have hak : a + m ≤ L.length := by have := hkb.1; rw [List.length_drop] at this; omega
  have d2 := X5.c2
  have f2 := X5.fz (i := 2) (by omega)
  obtain ⟨X6, hf6⟩ := X5.set (i := 2) (u := .int .i64 ((a : Int) + (m : Int))) (a' := a + m) (bad' := 0) (en' := en) (by unfold inL; simp) hak
  have f3 := X6.fz (i := 3) (by omega)
  have c3' := X6.c3
  obtain ⟨X7, hf7⟩ := X6.set (i := 3) (u := .int .i64 e) (a' := a + m) (bad' := e) (en' := en) rfl hak
  have hf := hf5.trans (hf6.trans hf7)
  have HX7 := Lib.hid X7
  clear X5 X6 X7 hf5 hf6 hf7 hr hSd hRAd hRA hB hS c0 c1' c2 c3 HF
  by_cases he : e = 0
  · rw [if_pos he]
    subst he
    go_wp2
    go_ret
    exact ⟨rfl, HX7.out, hf⟩
  · have de : (e != 0) = true := by simp; exact he
    have de2 : (e == 0) = false := by simp; exact he
    rw [if_neg he]
    have HE := Lib.hid he
    clear he
    go_wp2
    go_ret
    exact ⟨rfl, HX7.out, hf⟩
end
end
section
open Go.RowKit
set_option linter.unusedVariables false
set_option maxRecDepth 100000

theorem Inn.new_ {w : World} {v0 : Value} {A : Option Addr} {c : Nat} {L : List Int} (hR : Rd w w.heap.size A (iv L)) (hA : ∀ q, A = some q → q.block < w.heap.size) (hc : L.length ≤ c ∧ c ≤ 9223372036854775807 ∧ L.length ≤ 1000000000) :
    Inn (w.alloc (.cells #[v0, .slice A L.length c, .int .i64 0, .int .i64 0, .int .i64 0] 175)) w.heap.size v0 A c L 0 0 0 := by
  have hb : Below w.heap.size w (w.alloc (.cells #[v0, .slice A L.length c, .int .i64 0, .int .i64 0, .int .i64 0] 175)) := (Below.refl _ _).alloc (Nat.le_refl _) _
  exact ⟨Bln.new w _ _, (hR.below hb).more hb.size, fun q hq e => by have := hA q hq; omega, Nat.zero_le _, hc⟩
theorem rdF_sy {S Z : List Int} (hS : ∀ x ∈ S, 0 ≤ x ∧ x ≤ 511) (l : List Int) : 0 ≤ (rdF S Z l).1 ∧ (rdF S Z l).1 ≤ 511 ∧ (rdF S Z l).2.1 ≤ l.length := by
  unfold rdF
  split
  · rename_i h
    have h1 := (Classical.choose_spec h).sy_bd hS
    exact ⟨h1.1, h1.2, (Classical.choose_spec h).bd.1⟩
  · exact ⟨by decide, by decide, Nat.zero_le _⟩
def RrdP (R : Int × Nat × Int) (w : World) (e : Ending) (w' : World) : Prop := e = .returned (.tuple #[.int .i64 R.1, .int .i64 (R.2.1 : Nat), .int .i64 R.2.2]) ∧ Below w.heap.size w w'
theorem bit_hv (L : List Int) (hB : B01 L) : hv (L.take 1) = 0 ∨ hv (L.take 1) = 1 := by
  have h1 := hv_bd (hB.take 1)
  have h2 : (L.take 1).length ≤ 1 := List.length_take_le _ _
  have h3 : (2 : Int) ^ (L.take 1).length ≤ 2 := by
    rcases Nat.lt_or_ge (L.take 1).length 1 with h | h
    · rw [show (L.take 1).length = 0 by omega]; decide
    · rw [show (L.take 1).length = 1 by omega]; decide
  omega
theorem keep_fp {W w5 : World} {p b o : Nat} {x : Value} (hf : Fp p W w5) (hne : b ≠ p) (h : W.cell? ⟨b, o, none⟩ = some x) : w5.cell? ⟨b, o, none⟩ = some x := (hf.cell (p := ⟨b, o, none⟩) (World.block_lt_of_cell? W _ h) hne).trans h
set_option maxHeartbeats 16000000 in
theorem rreadDC_any {A1 A : Option Addr} {n1 c1 c K : Nat} {S Z L : List Int} {w : World} (hS : Cs w K A1 S Z) (hz : Zs Z) (hn : Z.length = n1) (hm : n1 ≤ 100000) (hSy : ∀ x ∈ S, 0 ≤ x ∧ x ≤ 511) (hB : B01 L) (hR0 : Rd w w.heap.size A (iv L)) (hA : ∀ q, A = some q → q.block < w.heap.size) (hc : L.length ≤ c ∧ c ≤ 9223372036854775807 ∧ L.length ≤ 1000000000)
    (n a f t h l : Int) (hok : DcOk f t h l n a) {R : Int × Nat × Int} (hR : rdD S Z L n a h l = R) :
    Calls Try.prog 92 #[.slice A1 n1 c1, .slice A L.length c, .int .i64 n, .int .i64 a, .agg #[.int .i64 f, .int .i64 t, .int .i64 h, .int .i64 l]] w (RrdP R w) := by
  have X := Box4.new w 33 (.int .i64 f) (.int .i64 t) (.int .i64 h) (.int .i64 l)
  have hb0 : Below w.heap.size w (w.alloc (.cells #[.int .i64 f, .int .i64 t, .int .i64 h, .int .i64 l] 33)) := (Below.refl _ _).alloc (Nat.le_refl _) _
  have HOK := Lib.hid hok
  have HR := Lib.hid hR
  have hgd := hok.1
  have hll : 0 ≤ l ∧ l ≤ 9 ∧ 0 ≤ h ∧ h ≤ 10 := by unfold Gd at hgd; omega
  obtain ⟨H, rfl⟩ := Int.eq_ofNat_of_zero_le hll.2.2.1
  obtain ⟨l0, rfl⟩ := Int.eq_ofNat_of_zero_le hll.1
  have hn1 := hok.2.2.1.1
  have hn2 := hok.2.2.1.2
  have ha1 := hok.2.2.2.1
  have ha2 := hok.2.2.2.2
  have hpL := two_int l0 (by omega)
  clear hok hR hgd
  go_enter Try.func92, Try.ntmps92
  go_upto_region 1 with fail
  have hsz : (w.alloc (.cells #[.int .i64 f, .int .i64 t, .int .i64 (H : Int), .int .i64 (l0 : Int)] 33)).heap.size = w.heap.size + 1 := by simp
  have I0 := Inn.new_ (w := w.alloc (.cells #[.int .i64 f, .int .i64 t, .int .i64 (H : Int), .int .i64 (l0 : Int)] 33)) (v0 := .slice A1 n1 c1) ((hR0.below hb0).more hb0.size) (fun q hq => by have := hA q hq; omega) hc
  have hS0 := hS.keep (hb0.mono hS.size)
  generalize w.alloc (.cells #[.int .i64 f, .int .i64 t, .int .i64 (H : Int), .int .i64 (l0 : Int)] 33) = w0 at *
  have hba : Below w0.heap.size w0 (w0.alloc (.cells #[.slice A1 n1 c1, .slice A L.length c, .int .i64 0, .int .i64 0, .int .i64 0] 175)) := (Below.refl _ _).alloc (Nat.le_refl _) _
  have X0 := X.below hba X.lt
  have hb1 := hb0.trans (hba.mono (by omega))
  have hS1 := hS0.keep (hba.mono hS0.size)
  go_upto_region 2 with fail
  generalize w0.alloc (.cells #[.slice A1 n1 c1, .slice A L.length c, .int .i64 0, .int .i64 0, .int .i64 0] 175) = w1 at *
  rw [hsz] at I0
  obtain ⟨_, x0, x1, x2, x3⟩ := id X0
  clear hba hb0 hS0 hS hR0 hA X
  by_cases hh : 0 < H
  · have dh : decide (0 < (H : Int)) = true := decide_eq_true (by omega)
    have x3d : w1.drew.cell? ⟨w.heap.size, 3, none⟩ = some (.int .i64 (l0 : Int)) := x3
    have Id := I0.drewN 0
    go_upto_region 3 with fail
    by_cases hl : L.length < 1
    · have hRR : R = (0, 0, 8) := by
        rw [← HR.out]; unfold rdD
        rw [if_pos (by omega), if_pos hl]
      have HRR := Lib.hid hRR
      have I1 : Inn w1.drew (w.heap.size + 1) (.slice A1 n1 c1) A c L 0 0 0 := I0.keep (S := fun _ => False) ((Fr.refl _ w1).drew) (fun f => f) (fun _ _ f => f)
      have ht := itake_few I1 1 (by omega) (by omega)
      clear hRR
      go_region_held3 (fun w' => w'.cell? ⟨w.heap.size, 3, none⟩ = some (.int .i64 (l0 : Int)))
        (first | go_keep | exact keep_fp hf2 (by omega) (by assumption))
        (first | (go_at_call 131; refine ht.mono ?_; rintro e2 w2 ⟨rfl, I2, hf2⟩) | (go_at_call 122; refine (power22_any l0 (by omega) _).mono ?_; rintro e w' ⟨rfl, rfl⟩))
      have hf2' : Fp (w.heap.size + 1) w1 w2 := ((Fr.refl _ w1).drew).trans hf2
      have hb2 := hb1.trans (hf2'.below (B := w.heap.size) (by omega) (by have := hb1.size; omega))
      have b3 := I2.c3
      have d8 : ((8 : Int) == 0) = false := rfl
      have HI := Lib.hid I2
      clear x0 x1 x2 x3 x3d Id I0 I1 ht I2
      go_upto_region 5 with fail
      go_quiet (fail)
      go_wp2
      go_ret3
      exact ⟨by rw [HRR.out]; rfl, below_drewN hb2 nq⟩
    · have hbit := bit_hv L hB
      have hRR : R = (n + hv (L.take 1) * 2 ^ l0, 1, 0) := by
        rw [← HR.out]; unfold rdD
        rw [if_pos (by omega), if_neg hl, Int.toNat_natCast]
      have HRR := Lib.hid hRR
      have I1 : Inn w1.drew (w.heap.size + 1) (.slice A1 n1 c1) A c L 0 0 0 := I0.keep (S := fun _ => False) ((Fr.refl _ w1).drew) (fun f => f) (fun _ _ f => f)
      have ht := itake_ok I1 hB 1 (by omega) (by omega)
      rw [List.drop_zero] at ht
      generalize hv (L.take 1) = bt at *
      have hbb : bt * (2 : Int) ^ l0 = 0 ∨ bt * (2 : Int) ^ l0 = 2 ^ l0 := by
        rcases hbit with h | h
        · left; rw [h, Int.zero_mul]
        · right; rw [h, Int.one_mul]
      have hw1 : IntKind.i64.wrap (bt * (2 : Int) ^ l0) = bt * 2 ^ l0 := IntWalk.i64_in _ (by omega)
      have hw2 : IntKind.i64.wrap (n + bt * (2 : Int) ^ l0) = n + bt * 2 ^ l0 := IntWalk.i64_in _ (by omega)
      clear hRR
      go_region_held3 (fun w' => w'.cell? ⟨w.heap.size, 3, none⟩ = some (.int .i64 (l0 : Int)))
        (first | go_keep | exact keep_fp hf2 (by omega) (by assumption))
        (first | (go_at_call 131; refine ht.mono ?_; rintro e2 w2 ⟨rfl, I2, hf2⟩) | (go_at_call 122; refine (power22_any l0 (by omega) _).mono ?_; rintro e w' ⟨rfl, rfl⟩))
      have hf2' : Fp (w.heap.size + 1) w1 w2 := ((Fr.refl _ w1).drew).trans hf2
      have hb2 := hb1.trans (hf2'.below (B := w.heap.size) (by omega) (by have := hb1.size; omega))
      have b3 := I2.c3
      have b2 := I2.c2
      have HI := Lib.hid I2
      clear x0 x1 x2 x3 x3d Id I0 I1 ht I2
      go_upto_region 6 with fail
      go_quiet (fail)
      go_wp2
      go_ret3
      exact ⟨by rw [HRR.out]; rfl, below_drewN hb2 nq⟩
  · obtain rfl : H = 0 := by omega
    rw [show (((0 : Nat) : Int)) = 0 from rfl] at *
    obtain ⟨si, k, er, hF⟩ : ∃ si k er, rdF S Z L = (si, k, er) := ⟨_, _, _, rfl⟩
    have hsy := rdF_sy (Z := Z) hSy L
    rw [hF] at hsy
    simp only at hsy
    obtain ⟨s, rfl⟩ := Int.eq_ofNat_of_zero_le hsy.1
    have HF := Lib.hid hF
    have hkl := hsy.2.2
    have hs511 := hsy.2.1
    have hF0 : rdF S Z (L.drop 0) = ((s : Int), k, er) := hF
    clear hF hsy
    go_wp2_with fail
    refine (isym_any I0 hB hS1 hz hn hm hF0).mono ?_; rintro e w2 ⟨rfl, I2, hf2⟩
    rw [Nat.zero_add] at I2
    have hb2 := hb1.trans (hf2.below (B := w.heap.size) (by omega) (by have := hb1.size; omega))
    have y3 := keep_fp hf2 (show w.heap.size ≠ w.heap.size + 1 by omega) x3
    clear x0 x1 x2 x3 I0 hF0
    by_cases he : er = 0
    · subst he
      rw [if_pos rfl]
      by_cases h11 : 11 < s
      · have d1 : decide ((11 : Int) < (s : Int)) = true := decide_eq_true (by omega)
        have hRR : R = (0, 0, 2) := by rw [← HR.out]; exact rdD_big (by omega) HF.out h11
        have HRR := Lib.hid hRR
        clear hRR
        go_wp2_with fail
        refine (ifail_any I2).mono ?_; rintro e w3 ⟨rfl, I3, hf3⟩
        rw [if_pos rfl] at I3
        have hb3 := hb2.trans (hf3.below (B := w.heap.size) (by omega) (by have := hb2.size; omega))
        have b3 := I3.c3
        clear I2 y3
        go_upto_region 11 with fail
        go_quiet (fail)
        go_wp2
        go_ret3
        exact ⟨by rw [HRR.out]; rfl, below_drewN hb3 nq⟩
      · have d1 : decide ((11 : Int) < (s : Int)) = false := decide_eq_false (by omega)
        have b3 := I2.c3
        have hva0 := vaN_bd 0 s (by omega)
        have hta := tl_bd (n := a) (l0 : Int) ha1 ha2 true
        have HRT := Lib.hid (fun W : World => rtell_any a (l0 : Int) true (by omega) W)
        obtain ⟨u, huq⟩ : ∃ u, u = tl a (l0 : Int) true := ⟨_, rfl⟩
        have HUQ := Lib.hid huq
        have hub : -1024 ≤ u ∧ u ≤ 1023 := by omega
        have hmulq : ∀ v : Int, -32768 ≤ v ∧ v ≤ 32768 → -35651584 ≤ (u + v) * (2 : Int) ^ l0 ∧ (u + v) * (2 : Int) ^ l0 ≤ 35651584 := fun v hv => by
          generalize (2 : Int) ^ l0 = P at *
          have q1 : (u + v) * P ≤ 33791 * P := Int.mul_le_mul_of_nonneg_right (by omega) (by omega)
          have q2 : -33792 * P ≤ (u + v) * P := Int.mul_le_mul_of_nonneg_right (by omega) (by omega)
          omega
        by_cases hl : L.length < k + s
        · have hRR : R = (0, 0, 8) := by rw [← HR.out]; exact rdD_few (by omega) HF.out h11 (by omega)
          have HRR := Lib.hid hRR
          clear hRR
          go_wp2_with fail
          refine (itake_few I2 s (by omega) (by omega)).mono ?_; rintro e w3 ⟨rfl, I3, hf3⟩
          have hb3 := hb2.trans (hf3.below (B := w.heap.size) (by omega) (by have := hb2.size; omega))
          have z3 := keep_fp hf3 (show w.heap.size ≠ w.heap.size + 1 by omega) y3
          clear I2 y3 b3
          go_wp2_with fail
          refine (rvalue_any 0 (s : Int) w3).mono ?_; rintro e w' ⟨rfl, rfl⟩
          obtain ⟨va, hvq⟩ : ∃ va, va = vaZ 0 (s : Int) := ⟨_, rfl⟩
          rw [← hvq] at hva0 ⊢
          have hm2 := hmulq va hva0
          have hw1 : wrap64 (u + va) = u + va := IntWalk.wrap64_in _ (by omega)
          have hw2 : wrap64 ((u + va) * (2 : Int) ^ l0) = (u + va) * 2 ^ l0 := IntWalk.wrap64_in _ (by omega)
          go_upto_region 13 with fail
          go_quiet ((first | (go_at_call 91; exact quiet_l (HRT.out _)) | (go_at_call 122; exact quiet_l (power22_any l0 (by omega) _))))
          rw [← HUQ.out]
          have I4 := I3.drewN nq
          have hb4 := below_drewN hb3 nq
          clear I3 z3 hb3
          generalize w3.drewN nq = w4 at *
          have b3 := I4.c3
          go_upto_region 17 with fail
          go_quiet (fail)
          go_wp2
          go_ret3
          exact ⟨by rw [HRR.out]; rfl, below_drewN hb4 nq⟩
        · have hhv := hv_bd ((hB.drop k).take s)
          have hsl : ((L.drop k).take s).length ≤ 11 := by have := List.length_take_le s (L.drop k); omega
          have hp11 : (2 : Int) ^ ((L.drop k).take s).length ≤ 2048 := by
            have h2 := Nat.pow_le_pow_right (show 0 < 2 by omega) hsl
            have h3 := two_cast ((L.drop k).take s).length
            rw [show 2 ^ 11 = 2048 from rfl] at h2
            omega
          have hva := vaN_bd (hv ((L.drop k).take s)) s (by omega)
          have HGO := Lib.hid (@rdD_go S Z L n a 0 (l0 : Int) s k (by omega) HF.out h11 (by omega) _ rfl)
          have HOUT := Lib.hid (@rdD_out S Z L n a 0 (l0 : Int) s k (by omega) HF.out h11 (by omega) _ rfl)
          rw [Int.toNat_natCast] at HGO HOUT
          have htk := itake_ok I2 hB s (by omega) (by omega)
          generalize hv ((L.drop k).take s) = y at *
          obtain ⟨va, hvq⟩ : ∃ va, va = vaZ y (s : Int) := ⟨_, rfl⟩
          rw [← hvq] at hva HGO HOUT
          rw [← huq] at HGO HOUT
          have HVQ := Lib.hid hvq
          have hm2 := hmulq va hva
          have hw1 : wrap64 (u + va) = u + va := IntWalk.wrap64_in _ (by omega)
          have hw2 : wrap64 ((u + va) * (2 : Int) ^ l0) = (u + va) * 2 ^ l0 := IntWalk.wrap64_in _ (by omega)
          obtain ⟨o, hoq⟩ : ∃ o, o = (u + va) * (2 : Int) ^ l0 := ⟨_, rfl⟩
          rw [← hoq] at HGO HOUT
          replace hw2 : wrap64 ((u + va) * (2 : Int) ^ l0) = o := hw2.trans hoq.symm
          clear hhv hsl hp11 hvq hm2 huq hoq
          go_wp2_with fail
          refine htk.mono ?_; rintro e w3 ⟨rfl, I3, hf3⟩
          have hb3 := hb2.trans (hf3.below (B := w.heap.size) (by omega) (by have := hb2.size; omega))
          have z3 := keep_fp hf3 (show w.heap.size ≠ w.heap.size + 1 by omega) y3
          clear I2 y3 b3 htk
          go_wp2_with fail
          refine (rvalue_any y (s : Int) w3).mono ?_; rintro e w' ⟨rfl, rfl⟩
          rw [← HVQ.out]
          go_upto_region 13 with fail
          go_quiet ((first | (go_at_call 91; exact quiet_l (HRT.out _)) | (go_at_call 122; exact quiet_l (power22_any l0 (by omega) _))))
          rw [← HUQ.out, hw2]
          have I4 := I3.drewN nq
          have hb4 := below_drewN hb3 nq
          clear I3 z3 hb3 hw1 hw2
          generalize w3.drewN nq = w4 at *
          have b3 := I4.c3
          have b2 := I4.c2
          by_cases hd : DcB o
          · have HD := Lib.hid (decide_eq_true hd)
            have hRR : R = (o, k + s, 0) := by rw [← HR.out]; exact HGO.out hd
            have HRR := Lib.hid hRR
            clear hRR hd
            go_upto_region 18 with (go_at_call 51; refine (rdc_any _ _).mono ?_; rintro e w' ⟨rfl, rfl⟩; rw [HD.out])
            go_quiet (fail)
            go_wp2
            go_ret3
            exact ⟨by rw [HRR.out]; rfl, below_drewN hb4 nq⟩
          · have HD := Lib.hid (decide_eq_false hd)
            have hRR : R = (0, 0, 2) := by rw [← HR.out]; exact HOUT.out hd
            have HRR := Lib.hid hRR
            clear hRR hd
            go_wp2_with (first | (go_at_call 51; refine (rdc_any _ _).mono ?_; rintro e w' ⟨rfl, rfl⟩; rw [HD.out]) | (go_at_call 133; refine (ifail_any I4).mono ?_; rintro e w5 ⟨rfl, I5, hf5⟩; rw [if_pos rfl] at I5; have hb5 := hb4.trans (hf5.below (B := w.heap.size) (by omega) (by have := hb4.size; omega)); have b3' := I5.c3; clear b3 b2))
            go_quiet (fail)
            go_wp2
            go_ret3
            exact ⟨by rw [HRR.out]; rfl, below_drewN hb5 nq⟩
    · have hRR : R = (0, 0, er) := by rw [← HR.out]; exact rdD_bad (by omega) HF.out he
      have HRR := Lib.hid hRR
      have b3 := I2.c3
      rw [if_neg he]
      have de : (er != 0) = true := by simp; exact he
      have de2 : (er == 0) = false := by simp; exact he
      clear hRR he y3
      go_upto_region 11 with fail
      go_quiet (fail)
      go_wp2
      go_ret3
      exact ⟨by rw [HRR.out]; rfl, below_drewN hb2 nq⟩
end
end Go.Proofs.Ytlhappecjjbopaa
