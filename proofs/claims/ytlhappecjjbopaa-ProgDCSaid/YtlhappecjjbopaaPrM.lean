/-
  Prog: what the document reads with: take, fail, symbol, by contracts. Conditions: at most 15 bits at once; symbols below 512.
-/
import Derived.Test.YtlhappecjjbopaaPrK
import Derived.Deep.RegionHeld3
namespace Go.Proofs.Ytlhappecjjbopaa
open Go.RowKit
set_option linter.unusedVariables false
set_option maxRecDepth 100000

def inL (v0 v1 : Value) (a : Nat) (bad en : Int) : List Value := [v0, v1, .int .i64 (a : Nat), .int .i64 bad, .int .i64 en]
/-- the document's reader -/
structure Inn (w : World) (p : Nat) (v0 : Value) (A : Option Addr) (c : Nat) (L : List Int) (a : Nat) (bad en : Int) : Prop where
  blk : Bln w p 175 (inL v0 (.slice A L.length c) a bad en)
  rd : Rd w w.heap.size A (iv L)
  ne : ∀ q, A = some q → q.block ≠ p
  le : a ≤ L.length
  hc : L.length ≤ c ∧ c ≤ 9223372036854775807 ∧ L.length ≤ 100000
section
variable {w w' : World} {p : Nat} {v0 : Value} {A : Option Addr} {c : Nat} {L : List Int} {a : Nat} {bad en : Int}
theorem Inn.keep {S : Nat → Prop} (x : Inn w p v0 A c L a bad en) (hf : Fr S w w') (h1 : ¬ S p) (h2 : ∀ q, A = some q → ¬ S q.block) : Inn w' p v0 A c L a bad en :=
  ⟨x.blk.keep hf h1, (hf.rd x.rd (Nat.le_refl _) h2).more hf.size, x.ne, x.le, x.hc⟩
theorem Inn.below (x : Inn w p v0 A c L a bad en) (hb : Below w.heap.size w w') : Inn w' p v0 A c L a bad en :=
  x.keep (S := fun _ => False) (Fr.of_below hb) (fun f => f) (fun _ _ f => f)
theorem Inn.drewN (x : Inn w p v0 A c L a bad en) (n : Nat) : Inn (w.drewN n) p v0 A c L a bad en :=
  x.keep (S := fun _ => False) ((Fr.refl _ _).drewN n) (fun f => f) (fun _ _ f => f)
theorem Inn.lt (x : Inn w p v0 A c L a bad en) : p < w.heap.size := x.blk.lt
theorem Inn.set (x : Inn w p v0 A c L a bad en) {i : Nat} {u : Value} {a' : Nat} {bad' en' : Int} (he : (inL v0 (.slice A L.length c) a bad en).set i u = inL v0 (.slice A L.length c) a' bad' en') (hle : a' ≤ L.length) :
    Inn (w.setCell ⟨p, i, none⟩ u) p v0 A c L a' bad' en' ∧ Fp p w (w.setCell ⟨p, i, none⟩ u) := by
  have hf : Fp p w (w.setCell ⟨p, i, none⟩ u) := Fr.setCell (S := fun k => k = p) (Fr.refl _ _) (p := ⟨p, i, none⟩) (.inl rfl) u
  refine ⟨⟨?_, (hf.rd x.rd (Nat.le_refl _) (fun q hq e => x.ne q hq e)).more hf.size, x.ne, hle, x.hc⟩, hf⟩
  have := x.blk.set i u
  rw [he] at this; exact this
theorem Inn.c0 (x : Inn w p v0 A c L a bad en) : w.cell? ⟨p, 0, none⟩ = some v0 := x.blk.cell (i := 0) rfl
theorem Inn.c1 (x : Inn w p v0 A c L a bad en) : w.cell? ⟨p, 1, none⟩ = some (.slice A L.length c) := x.blk.cell (i := 1) rfl
theorem Inn.c2 (x : Inn w p v0 A c L a bad en) : w.cell? ⟨p, 2, none⟩ = some (.int .i64 (a : Nat)) := x.blk.cell (i := 2) rfl
theorem Inn.c3 (x : Inn w p v0 A c L a bad en) : w.cell? ⟨p, 3, none⟩ = some (.int .i64 bad) := x.blk.cell (i := 3) rfl
theorem Inn.c4 (x : Inn w p v0 A c L a bad en) : w.cell? ⟨p, 4, none⟩ = some (.int .i64 en) := x.blk.cell (i := 4) rfl
theorem Inn.fz (x : Inn w p v0 A c L a bad en) {i : Nat} (hi : i < 5) : w.frozen? ⟨p, i, none⟩ = false := x.blk.fz (show i < 5 from hi)

def InP (p : Nat) (v0 : Value) (A : Option Addr) (c : Nat) (L : List Int) (r : Value) (a' : Nat) (bad' en' : Int) (w : World) (e : Ending) (w' : World) : Prop :=
  e = .returned r ∧ Inn w' p v0 A c L a' bad' en' ∧ Fp p w w'
theorem ifail_any (x : Inn w p v0 A c L a bad en) : Calls Try.prog 133 #[.pointer (some ⟨p, 0, none⟩)] w (InP p v0 A c L (.tuple #[]) a (if bad = 0 then 2 else bad) en w) := by
  have c3 := x.c3
  have f3 := x.fz (i := 3) (by omega)
  by_cases hb : bad = 0
  · rw [if_pos hb]
    have db : (bad == 0) = true := by simp; exact hb
    obtain ⟨h1, h2⟩ := x.set (i := 3) (u := .int .i64 2) (a' := a) (bad' := 2) (en' := en) rfl x.le
    go_enter Try.func133, Try.ntmps133
    clear hb
    go_wp2
    go_end0
    exact ⟨rfl, h1, h2⟩
  · rw [if_neg hb]
    have db : (bad == 0) = false := by simp; exact hb
    go_enter Try.func133, Try.ntmps133
    clear hb
    go_wp2
    go_end0
    exact ⟨rfl, x, Fp.refl _ _⟩
theorem itake_bad (x : Inn w p v0 A c L a bad en) (hb : bad ≠ 0) (n : Int) : Calls Try.prog 131 #[.pointer (some ⟨p, 0, none⟩), .int .i64 n] w (InP p v0 A c L (.int .i64 0) a bad en w) := by
  have c3 := x.c3
  have db : (bad == 0) = false := by simp; exact hb
  have db2 : (bad != 0) = true := by simp; exact hb
  have HX := Lib.hid x
  clear x hb
  go_enter Try.func131, Try.ntmps131
  go_wp2_with fail
  go_quiet (fail)
  have c3' := (HX.out.drewN nq).c3
  go_wp2
  go_ret
  exact ⟨rfl, HX.out.drewN nq, (Fr.refl _ _).drewN nq⟩
theorem itake_few (x : Inn w p v0 A c L a 0 en) (n : Nat) (hn : n ≤ 15) (hl : L.length < a + n) : Calls Try.prog 131 #[.pointer (some ⟨p, 0, none⟩), .int .i64 (n : Nat)] w (InP p v0 A c L (.int .i64 0) a 8 en w) := by
  have c1 := x.c1
  have c2 := x.c2
  have c3 := x.c3
  have hle := x.le
  have hcc := x.hc
  have dl : decide (((L.length : Nat) : Int) - ((a : Nat) : Int) < (n : Int)) = true := decide_eq_true (by omega)
  have HX := Lib.hid x
  clear x
  go_enter Try.func131, Try.ntmps131
  go_wp2_with fail
  go_quiet (fail)
  have X1 := HX.out.drewN nq
  have hf1 : Fp p w (w.drewN nq) := (Fr.refl _ _).drewN nq
  generalize w.drewN nq = w1 at *
  obtain ⟨X2, hf2⟩ := X1.set (i := 3) (u := .int .i64 8) (a' := a) (bad' := 8) (en' := en) rfl X1.le
  have d3 := X1.c3
  have f3 := X1.fz (i := 3) (by omega)
  go_wp2
  go_ret
  exact ⟨rfl, X2, hf1.trans hf2⟩
/-- a part of the bits, as a slice -/
theorem Inn.cut (x : Inn w p v0 A c L a bad en) (k : Nat) : ∃ A', A' = (if c = a then A else Option.map (fun q => q.add a) A) ∧ Rd w w.heap.size A' (iv (L.drop a)) ∧ Rd w w.heap.size A' (iv ((L.drop a).take k)) := by
  refine ⟨_, rfl, ?_, ?_⟩
  · obtain ⟨A2, c2, he, _, _, h1, _⟩ := Lf.cut x.hc.1 x.hc.2.1 x.rd x.ne a x.le
    injection he with he1
    rw [he1]; exact h1
  · obtain ⟨A2, c2, he, _, _, h1, _⟩ := Lf.cut x.hc.1 x.hc.2.1 x.rd x.ne a x.le
    injection he with he1
    rw [he1]
    rcases h1 with h | ⟨b, o, h2, h3, h4⟩
    · left
      have : L.drop a = [] := by simpa [iv] using h
      rw [this]; simp [iv]
    · refine .inr ⟨b, o, h2, h3, fun j u hu => h4 j u ?_⟩
      unfold iv at hu ⊢
      rw [List.getElem?_map, List.getElem?_take] at hu
      rw [List.getElem?_map]
      split at hu
      · exact hu
      · cases hu
set_option maxHeartbeats 4000000 in
theorem itake_ok (x : Inn w p v0 A c L a 0 en) (hB : B01 L) (n : Nat) (hn : n ≤ 15) (hl : a + n ≤ L.length) : Calls Try.prog 131 #[.pointer (some ⟨p, 0, none⟩), .int .i64 (n : Nat)] w (InP p v0 A c L (.int .i64 (hv ((L.drop a).take n))) (a + n) 0 en w) := by
  have c1 := x.c1
  have c2 := x.c2
  have c3 := x.c3
  have hle := x.le
  have hcc := x.hc
  have dl : decide (((L.length : Nat) : Int) - ((a : Nat) : Int) < (n : Int)) = false := decide_eq_false (by omega)
  have HX := Lib.hid x
  clear x
  go_enter Try.func131, Try.ntmps131
  go_wp2_with fail
  go_quiet (fail)
  have X1 := HX.out.drewN nq
  have hf1 : Fp p w (w.drewN nq) := (Fr.refl _ _).drewN nq
  generalize w.drewN nq = w1 at *
  obtain ⟨X2, hf2⟩ := X1.set (i := 2) (u := .int .i64 ((a : Int) + (n : Int))) (a' := a + n) (bad' := 0) (en' := en) (by unfold inL; simp) hl
  have d2 := X1.c2
  have d3 := X1.c3
  have f2 := X1.fz (i := 2) (by omega)
  clear c1 c2 c3
  go_upto_region 6 with fail
  generalize w1.setCell ⟨p, 2, none⟩ (.int .i64 ((a : Int) + (n : Int))) = w2 at *
  have e1 := X2.c1
  have e2 : w2.cell? ⟨p, 2, none⟩ = some (.int .i64 ((a : Int) + (n : Int))) := by have := X2.c2; simpa using this
  obtain ⟨A', hA', _, hRA⟩ := HX.out.cut n
  have hf3 := hf1.trans hf2
  have hRB : Rd w2 w.heap.size A' (iv ((L.drop a).take n)) := by
    rcases hRA with h | ⟨b1, o1, h1, h2, h3⟩
    · exact .inl h
    · refine .inr ⟨b1, o1, h1, h2, fun k u hu => (hf3.cell (p := ⟨b1, o1 + k, none⟩) h2 (fun e => ?_)).trans (h3 k u hu)⟩
      rcases A with _ | q
      · rw [hA'] at h1; split at h1 <;> simp at h1
      · have hq := HX.out.ne q rfl
        rw [hA'] at h1
        split at h1
        · injection h1 with h1; rw [h1] at hq; exact hq e
        · injection h1 with h1
          have h9 : q.add a = ⟨b1, o1, none⟩ := h1
          have : (q.add a).block = b1 := by rw [h9]
          rw [add_block] at this
          exact hq (this.trans e)
  have hll : ((L.drop a).take n).length = n := by rw [List.length_take, List.length_drop]; omega
  have hb1 : B01 ((L.drop a).take n) := (hB.drop a).take n
  have hpt := part_hv n _ hll
  have hw1 : wrap64 ((a : Int) + (n : Int) - (n : Int)) = (a : Int) := by rw [IntWalk.wrap64_in _ (by omega)]; omega
  have hw2 : IntKind.i64.wrap ((a : Int) + (n : Int) - (n : Int)) = (a : Int) := by rw [IntWalk.i64_in _ (by omega)]; omega
  have g1 : (0 : Int) ≤ (a : Int) := by omega
  have g2 : (a : Int) ≤ (a : Int) + (n : Int) := by omega
  have g3 : (a : Int) + (n : Int) ≤ (c : Int) := by omega
  have HN : ∀ (c' : Nat) W, Rd W w.heap.size A' (iv ((L.drop a).take n)) → Calls Try.prog 127 #[.slice A' n c', .bool true] W fun e w' => e = .returned (.int .i64 (hv ((L.drop a).take n))) ∧ W = w' := fun c' W h => by
    have := number_any A' n c' ((L.drop a).take n) true w.heap.size W hll h hb1 (by omega)
    rwa [hpt] at this
  have HNN := Lib.hid HN
  have HRB := Lib.hid hRB
  have HX2 := Lib.hid X2
  have hA2 := hA'.symm
  clear d2 d3 f2 hA' hRA hRB hll hb1 hpt HN X1 X2 hf1 hf2
  go_quiet ((go_at_call 127; exact quiet_l (HNN.out _ _ HRB.out)))
  go_wp2
  go_ret
  exact ⟨rfl, HX2.out.drewN nq, hf3.drewN nq⟩
theorem keep_in {W w5 : World} {b o o' o'' : Nat} {x y z : Value} (hb : Below W.heap.size W w5) (h : W.cell? ⟨b, o, none⟩ = some x ∧ W.cell? ⟨b, o', none⟩ = some y ∧ W.cell? ⟨b, o'', none⟩ = some z) : w5.cell? ⟨b, o, none⟩ = some x ∧ w5.cell? ⟨b, o', none⟩ = some y ∧ w5.cell? ⟨b, o'', none⟩ = some z :=
  ⟨(hb.cell (p := ⟨b, o, none⟩) (World.block_lt_of_cell? W _ h.1)).trans h.1, (hb.cell (p := ⟨b, o', none⟩) (World.block_lt_of_cell? W _ h.2.1)).trans h.2.1, (hb.cell (p := ⟨b, o'', none⟩) (World.block_lt_of_cell? W _ h.2.2)).trans h.2.2⟩
set_option maxHeartbeats 8000000 in
theorem isym_any {A1 : Option Addr} {n1 c1 K : Nat} {S Z : List Int} (x : Inn w p (.slice A1 n1 c1) A c L a 0 en) (hB : B01 L) (hS : Cs w K A1 S Z) (hz : Zs Z) (hn : Z.length = n1) (hm : n1 ≤ 100000) {s : Int} {m : Nat} {e : Int} (hF : rdF S Z (L.drop a) = (s, m, e)) :
    Calls Try.prog 132 #[.pointer (some ⟨p, 0, none⟩)] w (InP p (.slice A1 n1 c1) A c L (.int .i64 (if e = 0 then s else -1)) (a + m) e en w) := by
  have c0 := x.c0
  have c1' := x.c1
  have c2 := x.c2
  have c3 := x.c3
  have hle := x.le
  have hcc := x.hc
  have HX := Lib.hid x
  obtain ⟨A', hA', hRA, _⟩ := x.cut 0
  have hA2 := hA'.symm
  have hll : (L.drop a).length = L.length - a := List.length_drop
  have hca : (a : Int) ≤ (c : Int) := by omega
  have hca2 : (a : Int) ≤ (L.length : Int) := by omega
  have g1 : (0 : Int) ≤ (a : Int) := by omega
  have hRAd : Rd w.drew w.drew.heap.size A' (iv (L.drop a)) := hRA
  have hSd : Cs w.drew K A1 S Z := hS.keep ((Below.refl _ w).drew.mono (Nat.le_refl _))
  have HF := Lib.hid hF
  clear hA' x hF
  go_enter Try.func132, Try.ntmps132
  go_upto_region 3 with fail
  go_region_held3 (fun w' => w'.cell? ⟨p, 0, none⟩ = some (.slice A1 n1 c1) ∧ w'.cell? ⟨p, 1, none⟩ = some (.slice A L.length c) ∧ w'.cell? ⟨p, 2, none⟩ = some (.int .i64 (a : Nat)))
    (first | go_keep | exact keep_in hb5 (by first | assumption | exact ⟨by assumption, by assumption, by assumption⟩))
    (first | (go_at_call 108; refine (refread_any A1 A' n1 c1 (L.length - a) _ K S Z (L.drop a) w.drew hn hll hSd hRAd hz (hB.drop a) hm (by omega)).mono ?_; rintro e5 w5 ⟨sym, k, er, hr, rfl, hb5⟩))
  have hEq := rdF_eq hz (hB.drop a) hr
  rw [HF.out] at hEq
  simp only [Prod.mk.injEq] at hEq
  obtain ⟨rfl, rfl, rfl⟩ := hEq
  have hkb := hr.bd
  have X5 := (HX.out.keep (S := fun _ => False) ((Fr.refl _ w).drew) (fun f => f) (fun _ _ f => f)).below hb5
  have hf5 : Fp p w w5 := ((Fr.refl _ w).drew).trans (Fp.of_below (p := p) hb5)
  have hak : a + m ≤ L.length := by have := hkb.1; rw [List.length_drop] at this; omega
  have d2 := X5.c2
  have f2 := X5.fz (i := 2) (by omega)
  obtain ⟨X6, hf6⟩ := X5.set (i := 2) (u := .int .i64 ((a : Int) + (m : Int))) (a' := a + m) (bad' := 0) (en' := en) (by unfold inL; simp) hak
  have f3 := X6.fz (i := 3) (by omega)
  have c3' := X6.c3
  obtain ⟨X7, hf7⟩ := X6.set (i := 3) (u := .int .i64 e) (a' := a + m) (bad' := e) (en' := en) rfl hak
  have hf := hf5.trans (hf6.trans hf7)
  have HX7 := Lib.hid X7
  clear X5 X6 X7 hf5 hf6 hf7 hr hSd hRAd hRA hB hS c0 c1' c2 c3 HF
  by_cases he : e = 0
  · rw [if_pos he]
    subst he
    go_wp2
    go_ret
    exact ⟨rfl, HX7.out, hf⟩
  · have de : (e != 0) = true := by simp; exact he
    have de2 : (e == 0) = false := by simp; exact he
    rw [if_neg he]
    have HE := Lib.hid he
    clear he
    go_wp2
    go_ret
    exact ⟨rfl, HX7.out, hf⟩
end
end Go.Proofs.Ytlhappecjjbopaa
