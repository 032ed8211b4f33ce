/-
  CanonAll: which symbols a book has, in the order of their codes, as many as are asked for, and how long they are. No condition.
-/
import Derived.Test.YtlhappecjjbopaaCbA1
import Derived.Test.YtlhappecjjbopaaCaF
import Derived.Test.YtlhappecjjbopaaCaV
import Derived.Test.YtlhappecjjbopaaCbH
namespace Go.Proofs.Ytlhappecjjbopaa
open Go.ChangeShapes Go.WideShapes Go.ChangeAt Go.WideMaps Go.WideElems Go.RowKit Go.Joins Go.Shelf
set_option linter.unusedVariables false
set_option maxRecDepth 100000
attribute [local go_sem] Oper.semAt_some

/-- the document's codes of lengths in form, as a slice -/
theorem refCodes_all (A : Option Addr) (n c : Nat) (ls : List Int) (w : World) (hn : ls.length = n) (hR : Rd w w.heap.size A (iv ls)) (hI : Is ls) (hf : Fm ls) :
    Calls Try.prog 36 #[.slice A n c] w fun e w' => ∃ A' c', e = .returned (.slice A' (ordU ls 16).length c') ∧ Cs w' w'.heap.size A' (sy (ordU ls 16)) (sz ls (ordU ls 16)) ∧ Below w.heap.size w w' := by
  refine (refCodes_any A n c ls w hn hR hI hf).mono ?_
  rintro e w' ⟨v, rows, rfl, ho, hc, hb⟩
  obtain ⟨A', c', rfl, _, _, hR'⟩ := own_sliceN ho
  exact ⟨A', c', rfl, Cs.of hR' hc, hb⟩
/-- NewBook, and that what it holds is new -/
def BookL (ls : List Int) (w : World) (e : Ending) (w' : World) : Prop :=
  (Fm ls → ∃ p C, e = .returned (.tuple #[.pointer (some ⟨p, 0, none⟩), .nilIface]) ∧ BkL w' w.heap.size p ls (ordU ls 16) C ∧ Cd ls C) ∧
  (¬ Fm ls → e = .returned (.tuple #[.pointer none, errV 6])) ∧ Below w.heap.size w w'
set_option maxHeartbeats 2000000 in
theorem newBookL_any (A : Option Addr) (n c : Nat) (ls : List Int) (w : World) (hn : ls.length = n) (hR : Rd w w.heap.size A (iv ls)) (hI : Is ls) :
    Calls Try.prog 44 #[.slice A n c] w (BookL ls w) := by
  have HN := Lib.hid hn
  by_cases hf : Fm ls
  · have hm : n ≤ 512 := by rw [← hn]; exact hf.1
    have HF := Lib.hid hf
    clear hn hf
    go_enter Try.func44, Try.ntmps44
    go_wp2_with fail
    refine (free_any A n c ls w.heap.size w HN.out hR hI).mono ?_; rintro e w1 ⟨h1, _, rfl⟩
    obtain rfl := h1 HF.out
    clear h1
    go_wp2_with fail
    refine (order_any A n c ls w HN.out hR hI (by omega)).mono ?_; rintro e w1 ⟨v, rfl, ho, hb⟩
    have hs := hb.size
    have hol2 := ho.lt
    obtain ⟨A2, c2, rfl, _, _, hR2⟩ := own_sliceN ho
    have hA2 : ∀ a, A2 = some a → w.heap.size ≤ a.block := fun a ha => (hol2 a.block (by rw [ha]; rfl)).1
    have hol := ordU_len ls 16
    rw [HN.out] at hol
    have hom : (ordU ls 16).length ≤ 10000 := by omega
    have hmem : ∀ s ∈ ordU ls 16, s < n ∧ 1 ≤ ls.getD s 0 ∧ ls.getD s 0 ≤ 16 := fun s hs => by
      rw [← HN.out]; exact ordU_mem.1 hs
    have hK : ∀ C, Cd ls C → C.length = n ∧ ∀ s, -9223372036854775808 ≤ C.getD s 0 ∧ C.getD s 0 ≤ 9223372036854775807 := fun C hC =>
      ⟨by rw [hC.1, HN.out], fun s => by have := cd_bd HF.out hC s; omega⟩
    have hR1 := (hR.below hb).more hs
    clear hol hol2
    go_wp2_with fail
    refine (bindL_any w.heap.size (Cd ls) A A2 n c _ c2 ls (ordU ls 16) w1 HN.out hR1 hm rfl hR2 hom hs hA2 hmem hK (fun W h1 h2 => assign_any A A2 n c _ c2 ls W HN.out h1 HF.out rfl h2)).mono ?_; rintro e w2 ⟨p, C, rfl, hB, hC, hp, hb2⟩
    go_wp2
    go_ret2
    exact ⟨fun _ => ⟨p, C, rfl, hB, hC⟩, fun h => absurd HF.out h, hb.trans (hb2.mono hs)⟩
  · refine (newBook_any A n c ls w HN.out hR hI).mono ?_
    rintro e w' ⟨_, h2, h3⟩
    exact ⟨fun h => absurd h hf, h2, h3⟩
def lastI (pre : List (Int × Int)) : Int := match pre.getLast? with
  | none => -1
  | some x => x.1
theorem lastI_snoc (pre : List (Int × Int)) (x : Int × Int) : lastI (pre ++ [x]) = x.1 := by simp [lastI]
/-- a first loop that says no: it was handed what the example's book does not have -/
def Odd1 (pre : List (Int × Int)) : Prop := (∃ x ∈ pre, x.1 < 0) ∨ ∃ x r, pre = x :: r ∧ ¬ (x.1 = 5 ∧ x.2 = 2)
theorem ex_prs : prs exL (ordU exL 16) = [(5, 2), (0, 3), (1, 3), (2, 3), (3, 3), (4, 3), (6, 4), (7, 4)] := by decide +kernel
theorem not_odd1 {pre : List (Int × Int)} (h : pre <+: prs exL (ordU exL 16)) : ¬ Odd1 pre := by
  rw [ex_prs] at h
  obtain ⟨r, hr⟩ := h
  rintro (⟨x, hx, h0⟩ | ⟨x, q, rfl, h0⟩)
  · have hm : x ∈ pre ++ r := List.mem_append_left _ hx
    rw [hr] at hm
    simp only [List.mem_cons, List.not_mem_nil, or_false] at hm
    rcases hm with rfl | rfl | rfl | rfl | rfl | rfl | rfl | rfl <;> omega
  · simp only [List.cons_append, List.cons.injEq] at hr
    rw [hr.1] at h0
    exact h0 ⟨rfl, rfl⟩
theorem odd_of {pre : List (Int × Int)} {x : Int × Int} (h : lastI pre < 0) (hx : ¬ (x.1 = 5 ∧ x.2 = 2)) : Odd1 (pre ++ [x]) := by
  rcases hp : pre.getLast? with _ | y
  · obtain rfl : pre = [] := List.getLast?_eq_none_iff.1 hp
    exact .inr ⟨x, [], rfl, hx⟩
  · have h1 : lastI pre = y.1 := by unfold lastI; rw [hp]
    exact .inl ⟨y, List.mem_append_left _ (List.mem_of_getLast? hp), by omega⟩
theorem KpA.set {n₀ B fb : Nat} (hn : n₀ ≤ fb) (hne : fb ≠ B) (W : World) (hB : B < W.heap.size) (u : Value) : KpA n₀ B W (W.setCell ⟨fb, 0, none⟩ u) :=
  ⟨(Below.refl _ _).setCell (p := ⟨fb, 0, none⟩) hn _, (grownBy_setCell' W fb u).block B hB (fun e => by cases e; exact hne rfl)⟩
def AllI2 (kb T D : Nat) (P : List (Int × Int)) (w12 : World) (pre : List (Int × Int)) (W : World) : Prop :=
  Boxed W kb 3 (.int .i64 (pre.length : Nat)) ∧ Below kb w12 W ∧ pre <+: P ∧ pre.length < T ∧ W.heap[D]? = some (.deferred (some []))
def AllX2 (kb T D : Nat) (P : List (Int × Int)) (w12 : World) (c : Code) (pre : List (Int × Int)) (W : World) : Prop :=
  ¬ pre <+: P ∨ (c = .exit 2 ∧ Boxed W kb 3 (.int .i64 (pre.length : Nat)) ∧ Below kb w12 W ∧ pre.length = T ∧ W.heap[D]? = some (.deferred (some [])))
theorem own_heap {β : Type} {B D : Nat} (hD : D < B) (o : Obj) : OwnFrom B (fun (_ : β) W => W.heap[D]? = some o) := fun s W W' row hs hg hr =>
  (hg.block D (Array.getElem?_eq_some_iff.1 hs).1 (fun e => by have := (hr D e.symm).1; omega)).trans hs
theorem allI2_own {kb T D : Nat} {P : List (Int × Int)} {w12 : World} (hk : kb ≤ w12.heap.size) (hD : D < w12.heap.size) : OwnFrom w12.heap.size (AllI2 kb T D P w12) :=
  OwnFrom.and (Own.from (boxed_own kb 3 (fun pre : List (Int × Int) => .int .i64 (pre.length : Nat))) _) (OwnFrom.and (ownFrom_below hk hk) (OwnFrom.and (fun _ _ _ _ hs _ _ => hs) (OwnFrom.and (fun _ _ _ _ hs _ _ => hs) (own_heap hD _))))
theorem allX2_own {kb T D : Nat} {P : List (Int × Int)} {w12 : World} (hk : kb ≤ w12.heap.size) (hD : D < w12.heap.size) (c : Code) : OwnFrom w12.heap.size (AllX2 kb T D P w12 c) := fun s W W' row hs hg hr => by
  rcases hs with h | ⟨h1, h2, h3, h4, h5⟩
  · exact .inl h
  · exact .inr ⟨h1, (Own.from (boxed_own kb 3 (fun pre : List (Int × Int) => .int .i64 (pre.length : Nat))) _) s W W' row h2 hg hr, ownFrom_below (β := List (Int × Int)) hk hk s W W' row h3 hg hr, h4, own_heap hD _ s W W' row h5 hg hr⟩
set_option maxHeartbeats 4000000 in
theorem canonAll_any (w : World) (A : Option Addr) (n c : Nat) (ls : List Int) (hn : ls.length = n) (hcc : n ≤ c) (hmm : c ≤ 9223372036854775807) (hR : Rd w w.heap.size A (iv ls)) (hI : Is ls) (m : Int) (hm : -9223372036854775808 ≤ m ∧ m ≤ 9223372036854775807) :
    Calls Try.prog 9 #[.slice A n c, .int .i64 m] w (RetB (.bool true) w) := by
  have HN := Lib.hid hn
  clear hn
  refine callsIn_wide.1 (callsIn_of_wp_marks (F := Fence.wide) (n := 20) Try.func9 rfl trivial (wpIn_wide.2 ?_) rfl)
  simp only [Try.ntmps9, List.size_toArray, List.length_cons, List.length_nil, Nat.reduceAdd, Nat.reduceSub, Array.replicate_succ, Array.replicate_zero, List.push_toArray, List.append_toArray, List.nil_append, List.cons_append]
  go_upto_region 1 with fail
  have bM := Boxed.new w 3 (.int .i64 m)
  have bR := Boxed.new (w.alloc (.cells #[.int .i64 m] 3)) 4 (.bool false)
  rw [World.size_alloc] at bR
  have bM0 := bM.alloc (.cells #[.bool false] 4)
  have hb0 : Below w.heap.size w ((w.alloc (.cells #[.int .i64 m] 3)).alloc (.cells #[.bool false] 4)) := ((Below.refl _ _).alloc (Nat.le_refl _) _).alloc (by rw [World.size_alloc]; omega) _
  generalize (w.alloc (.cells #[.int .i64 m] 3)).alloc (.cells #[.bool false] 4) = w0 at *
  generalize hqq : w.heap.size = mb at *
  have HQQ := Lib.hid hqq
  have hs0 : mb + 1 < w0.heap.size := bR.lt
  clear bM hqq
  by_cases h600 : 600 < n
  · have d1 : decide ((600 : Int) < (n : Int)) = true := decide_eq_true (by omega)
    have cR := bR.cell
    have fR := bR.frozen
    have hcs := (bR.set (.bool true)).cell
    go_wp2
    refine ⟨.bool true, ?_, rfl, ?_⟩
    · simp [results, Try.f9, go_sem, hcs]
    · rw [HQQ.out]; exact hb0.setCell (p := ⟨mb + 1, 0, none⟩) (by show mb ≤ mb + 1; omega) _
  have d1 : decide ((600 : Int) < (n : Int)) = false := decide_eq_false (by omega)
  go_wp2_with fail
  refine (newBookL_any A n c ls w0 HN.out ((hR.below hb0).more (by omega)) hI).mono ?_; rintro e w1 ⟨h3, h4, hb1⟩
  obtain ⟨bv, ev, rfl, hbook⟩ : ∃ (bv : Option Addr) (ev : Value), e = .returned (.tuple #[.pointer bv, ev]) ∧
      ((Fm ls ∧ ∃ p C, bv = some ⟨p, 0, none⟩ ∧ ev = .nilIface ∧ BkL w1 w0.heap.size p ls (ordU ls 16) C ∧ Cd ls C) ∨ (¬ Fm ls ∧ ev = .iface 53 (.int .i64 6))) := by
    by_cases hf : Fm ls
    · obtain ⟨p, C, rfl, hBk, hCd⟩ := h3 hf
      exact ⟨_, _, rfl, .inl ⟨hf, p, C, rfl, rfl, hBk, hCd⟩⟩
    · obtain rfl := h4 hf
      exact ⟨none, _, rfl, .inr ⟨hf, rfl⟩⟩
  have HBK := Lib.hid hbook
  have hb1' := hb0.trans (hb1.mono (by omega))
  have bM1 := (hb1.block mb (by omega)).trans bM0
  have bR1 := (hb1.block (mb + 1) hs0).trans bR
  have bR1 : Boxed w1 (mb + 1) 4 (.bool false) := bR1
  have bM1 : Boxed w1 mb 3 (.int .i64 m) := bM1
  have hs1 := hb1.size
  clear h3 h4 hbook bM0 bR hb0
  go_upto_region 4 with fail
  have bB := Boxed.new w1 63 (.pointer bv)
  have hba : Below w1.heap.size w1 (w1.alloc (.cells #[.pointer bv] 63)) := (Below.refl _ _).alloc (Nat.le_refl _) _
  generalize w1.alloc (.cells #[.pointer bv] 63) = w2 at *
  have bM2 : Boxed w2 mb 3 (.int .i64 m) := (hba.block mb (by omega)).trans bM1
  have bR2 : Boxed w2 (mb + 1) 4 (.bool false) := (hba.block (mb + 1) (by omega)).trans bR1
  have hb2 := hb1'.trans (hba.mono (by omega))
  generalize hbq : w1.heap.size = bb at *
  have HBQ := Lib.hid hbq
  have hs2 : bb < w2.heap.size := bB.lt
  clear hbq bM1 bR1 hb1 hb1'
  go_wp2_with fail
  refine (example_any _).mono ?_; rintro e w3 ⟨rfl, hR3, hb3⟩
  go_wp2_with fail
  refine (newBook_any _ 8 8 exL w3 rfl hR3 ex_is).mono ?_; rintro e w4 ⟨h3, _, hb4⟩
  obtain ⟨p1, C1, rfl, hB1, hC1, hp1⟩ := h3 ex_fm
  have hb34 := hb3.trans (hb4.mono hb3.size)
  have bM4 : Boxed w4 mb 3 (.int .i64 m) := (hb34.block mb (by omega)).trans bM2
  have bR4 : Boxed w4 (mb + 1) 4 (.bool false) := (hb34.block (mb + 1) (by omega)).trans bR2
  have bB4 : Boxed w4 bb 63 (.pointer bv) := (hb34.block bb (by omega)).trans bB
  have hb4' := hb2.trans (hb34.mono (by omega))
  have hba4 := hba.trans (hb34.mono (by omega))
  have hs4 := hb34.size
  have hol : 0 < (ordU exL 16).length ∧ (ordU exL 16).length ≤ 512 := by decide +kernel
  have ho5 : lenL exL 5 = 2 := by decide +kernel
  have ho8 : lenL exL 8 = 0 := by decide +kernel
  have ho1 : lenL exL (-1) = 0 := by decide +kernel
  have HO5 := Lib.hid ho5
  have HO8 := Lib.hid ho8
  have HO1 := Lib.hid ho1
  have hK1 := BkS.of hB1
  clear h3 hR3 hb3 hb4 hp1 hC1 ho5 ho8 ho1 hba hb2 bM2 bR2 bB hol
  go_wp2_with fail
  refine (length_any p1 exL (ordU exL 16) C1 5 w4 hB1 ex_fm.2.1).mono ?_; rintro e w' ⟨rfl, rfl⟩
  rw [HO5.out]
  go_upto_region 10 with fail
  obtain ⟨w4, rfl⟩ : ∃ w4 : World, w4 = w' := ⟨_, rfl⟩
  have bF := Boxed.new w4 3 (.int .i64 (-1))
  have hba : Below w4.heap.size w4 (w4.alloc (.cells #[.int .i64 (-1)] 3)) := (Below.refl _ _).alloc (Nat.le_refl _) _
  generalize w4.alloc (.cells #[.int .i64 (-1)] 3) = w5 at *
  have bX := Boxed.new w5 63 (.pointer (some ⟨p1, 0, none⟩))
  have hbx : Below w5.heap.size w5 (w5.alloc (.cells #[.pointer (some ⟨p1, 0, none⟩)] 63)) := (Below.refl _ _).alloc (Nat.le_refl _) _
  have bF6 := bF.alloc (.cells #[.pointer (some ⟨p1, 0, none⟩)] 63)
  have hs5 := bF.lt
  have hb46 := hba.trans (hbx.mono (Nat.le_of_lt hs5))
  have hs6 := bX.lt
  go_wp2_with fail
  refine (all_any (some ⟨p1, 0, none⟩) w5).mono ?_; rintro e w6 ⟨rfl, rfl⟩
  go_wp2_with fail
  generalize w5.alloc (.cells #[.pointer (some ⟨p1, 0, none⟩)] 63) = w6 at *
  generalize hfq : w4.heap.size = fb at *
  have HFQ := Lib.hid hfq
  generalize w5.heap.size = bx at *
  have hK6 := hK1.keep hb46
  have bM6 : Boxed w6 mb 3 (.int .i64 m) := (hb46.block mb (by omega)).trans bM4
  have bR6 : Boxed w6 (mb + 1) 4 (.bool false) := (hb46.block (mb + 1) (by omega)).trans bR4
  have bB6 : Boxed w6 bb 63 (.pointer bv) := (hb46.block bb (by omega)).trans bB4
  have hb6' := hb4'.trans (hb46.mono (by omega))
  have hba6 := hba4.trans (hb46.mono (by omega))
  clear bF hba hbx hfq bM4 bR4 bB4 hb4' hba4 hb34 hB1
  refine (wpIn_wide (n := 20)).1 ?_
  refine wpIn_rangeFunc_ownG (F := Fence.wide) rfl (by decide) (gf := 105) (lb := #[.pointer (some ⟨bx, 0, none⟩)]) rfl trivial (enters_of Try.func105 (by kernel_rfl) rfl)
    (all_stops Fence.wide 19 trivial rfl (by omega) bx fb fb p1 exL (ordU exL 16) C1 (by decide +kernel) (by decide +kernel) (by decide) w6 bX hK6 (Nat.le_refl _) (by omega)) KpA.trans_ (KpA.put (by omega) hs6) (Below.refl _ _) (fun _ => rfl)
    (fun pre W => Boxed W fb 3 (.int .i64 (lastI pre)) ∧ Below fb w6 W) (fun _ pre _ => Odd1 pre) (OwnFrom.and (Own.from (boxed_own fb 3 (fun pre => .int .i64 (lastI pre))) _) (ownFrom_below (by omega) (by omega))) (fun _ _ _ _ _ hs _ _ => hs) ⟨bF6, Below.refl _ _⟩
    (fun x => { tmps := #[.slice A n c, .int .i64 m, undef, .pointer (some ⟨mb, 0, none⟩), .pointer (some ⟨mb + 1, 0, none⟩), .pointer (some ⟨bb, 0, none⟩), ev, .pointer (some ⟨p1, 0, none⟩), .nilIface, .pointer (some ⟨fb, 0, none⟩), .int .i64 x.1, .int .i64 x.2, undef, undef, undef, undef, .slice A n c, .int .i64 n, .bool false, .tuple #[.pointer bv, ev], .slice A n c, .tuple #[.pointer bv, ev], .pointer bv, ev, .tuple #[.pointer (some ⟨p1, 0, none⟩), .nilIface], .slice (some ⟨w2.heap.size, 0, none⟩) 8 8, .tuple #[.pointer (some ⟨p1, 0, none⟩), .nilIface], .pointer (some ⟨p1, 0, none⟩), .nilIface, .nilIface, .bool false, .pointer (some ⟨p1, 0, none⟩), .int .i64 2, .bool false, .pointer (some ⟨p1, 0, none⟩), .func (.func 105) #[] #[.pointer (some ⟨bx, 0, none⟩)], .int .i64 x.1, .int .i64 x.2, undef, undef, undef, undef, undef, undef, undef, undef, undef, undef, undef, undef, undef, undef, undef, undef, undef, undef, undef, undef, undef, undef, undef, undef, undef, undef, undef, undef, undef, undef, undef, undef, undef, undef, undef, undef, undef, undef, undef, undef, undef, undef, undef, undef, undef, undef, undef, undef, undef, undef, undef, undef, undef, undef, undef, undef, undef, undef, undef, undef, undef, undef, undef, undef, undef, undef, undef, undef, undef, undef, undef, undef, undef, undef, undef, undef, undef], defers := [] }) ?assign ?body ?done ?stop
  case assign =>
    intro l x W K hK
    gi_wp2
    exact hK
  case body =>
    rintro l pre x W ⟨bF, hB⟩ hlen
    have bR : Boxed W (mb + 1) 4 (.bool false) := (hB.block (mb + 1) (by omega)).trans bR6
    have cF := bF.cell
    have fF := bF.frozen
    have cR := bR.cell
    have fR := bR.frozen
    have hszW := hB.size
    generalize hlp : lastI pre = lp at *
    have HLP := Lib.hid hlp
    clear hlp
    have kF : ∀ u : Int, KeepsFrom w6.heap.size W (W.setCell ⟨fb, 0, none⟩ (.int .i64 u)) ∧ KpA fb bx W (W.setCell ⟨fb, 0, none⟩ (.int .i64 u)) ∧ Boxed (W.setCell ⟨fb, 0, none⟩ (.int .i64 u)) fb 3 (.int .i64 u) ∧ Below fb w6 (W.setCell ⟨fb, 0, none⟩ (.int .i64 u)) := fun u =>
      ⟨(KeepsOthers.setCell _ _ _).from _, KpA.set (Nat.le_refl _) (by omega) W (by omega) _, bF.set _, hB.setCell (p := ⟨fb, 0, none⟩) (Nat.le_refl _) _⟩
    have KF := Lib.hid kF
    clear kF bF hB bR
    by_cases h0 : lp < 0
    · have hodd : ¬ (x.1 = 5 ∧ x.2 = 2) → Odd1 (pre ++ [x]) := fun h => odd_of (by rw [HLP.out]; exact h0) h
      have HOD := Lib.hid hodd
      clear hodd
      by_cases h5 : x.1 = 5
      · by_cases h2 : x.2 = 2
        · have d5 : (x.1 != 5) = false := by simp [h5]
          have d2 : (x.2 != 2) = false := by simp [h2]
          clear h5 h2
          gi_wp2
          exact ⟨(KF.out _).1, (KF.out _).2.1, by show Boxed _ fb 3 (.int .i64 (lastI (pre ++ [x]))) ∧ _; rw [lastI_snoc]; exact (KF.out _).2.2⟩
        · have d5 : (x.1 != 5) = false := by simp [h5]
          have d2 : (x.2 != 2) = true := by simp [h2]
          have h9 := HOD.out (fun h => h2 h.2)
          have H9 := Lib.hid h9
          clear h5 h2 h9
          gi_wp2
          exact ⟨(KeepsOthers.setCell _ _ _).from _, H9.out⟩
      · have d5 : (x.1 != 5) = true := by simp [h5]
        have h9 := HOD.out (fun h => h5 h.1)
        have H9 := Lib.hid h9
        clear h5 h9
        gi_wp2
        exact ⟨(KeepsOthers.setCell _ _ _).from _, H9.out⟩
    · have d0 : decide (lp < 0) = false := decide_eq_false h0
      gi_wp2
      exact ⟨(KF.out _).1, (KF.out _).2.1, by show Boxed _ fb 3 (.int .i64 (lastI (pre ++ [x]))) ∧ _; rw [lastI_snoc]; exact (KF.out _).2.2⟩
  case done =>
    rintro D xs W hD rfl ⟨bF, hB⟩ hK
    have h7 : lastI (prs exL (ordU exL 16)) = 7 := by rw [ex_prs]; rfl
    rw [h7] at bF
    have cF := bF.cell
    have hK1W := hK6.keep hB
    have bM7 : Boxed W mb 3 (.int .i64 m) := (hB.block mb (by omega)).trans bM6
    have bR7 : Boxed W (mb + 1) 4 (.bool false) := (hB.block (mb + 1) (by omega)).trans bR6
    have bB7 : Boxed W bb 63 (.pointer bv) := (hB.block bb (by omega)).trans bB6
    have hb7 := hb6'.trans (hB.mono (by omega))
    have hba7 := hba6.trans (hB.mono (by omega))
    have hs7 := hB.size
    clear bF hB hK6 bM6 bR6 bB6 hb6' hba6 h7
    go_wp2_with fail
    refine (length_any p1 exL (ordU exL 16) C1 (-1) W hK1W.get ex_fm.2.1).mono ?_; rintro e w' ⟨rfl, rfl⟩
    rw [HO1.out]
    go_wp2_with fail
    refine (length_any p1 exL (ordU exL 16) C1 8 _ hK1W.get ex_fm.2.1).mono ?_; rintro e w8 ⟨rfl, rfl⟩
    rw [HO8.out]
    rcases HBK.out with ⟨hf, p, C, rfl, rfl, hKp, hCd⟩ | ⟨hf, rfl⟩
    · obtain ⟨T, hT, hT1, hT40⟩ : ∃ T : Nat, wrap64 (1 + wrap64 ((IntKind.u64.wrap m).tmod 40)) = (T : Int) ∧ 1 ≤ T ∧ T ≤ 40 := by
        have h1 : 0 ≤ IntKind.u64.wrap m := by simp only [IntKind.wrap, IntKind.signed, IntKind.bits]; exact Int.emod_nonneg _ (by decide)
        rw [Int.tmod_eq_emod_of_nonneg h1]
        have h2 := Int.emod_nonneg (IntKind.u64.wrap m) (show (40 : Int) ≠ 0 by decide)
        have h3 := Int.emod_lt_of_pos (IntKind.u64.wrap m) (show (0 : Int) < 40 by decide)
        generalize IntKind.u64.wrap m % 40 = z at *
        rw [IntWalk.wrap64_in z ⟨by omega, by omega⟩, IntWalk.wrap64_in (1 + z) ⟨by omega, by omega⟩]
        exact ⟨(1 + z).toNat, by omega, by omega, by omega⟩
      have cM := bM7.cell
      have fM := bM7.frozen
      go_upto_region 21 with fail
      have bM9 := bM7.set (.int .i64 (T : Int))
      have bR9 := bR7.other (show mb + 1 ≠ mb by omega) (.int .i64 (T : Int))
      have bB9 := bB7.other (show bb ≠ mb by omega) (.int .i64 (T : Int))
      have hb9 := hb7.setCell (p := ⟨mb, 0, none⟩) (Nat.le_refl _) (.int .i64 (T : Int))
      have hK9 := (KeepsOthers.setCell w8 ⟨mb, 0, none⟩ (.int .i64 (T : Int))).same D _ hK rfl
      have hBk9 : BkL (w8.setCell ⟨mb, 0, none⟩ (.int .i64 (T : Int))) w0.heap.size p ls (ordU ls 16) C := by
        have h := hba7
        rw [← HBQ.out] at h
        exact hKp.turn ((Fr.of_below h).setCell (p := ⟨mb, 0, none⟩) (.inl (by show mb < w0.heap.size; omega)) _)
      have hs9 : w6.heap.size ≤ (w8.setCell ⟨mb, 0, none⟩ (.int .i64 (T : Int))).heap.size := by rw [World.size_setCell]; exact hs7
      have hDlt : D < (w8.setCell ⟨mb, 0, none⟩ (.int .i64 (T : Int))).heap.size := (Array.getElem?_eq_some_iff.1 hK9).1
      generalize w8.setCell ⟨mb, 0, none⟩ (.int .i64 (T : Int)) = w9 at *
      generalize Value.int .u64 (IntKind.u64.wrap m) = v64 at *
      generalize Value.int .u64 ((IntKind.u64.wrap m).tmod 40) = v65 at *
      generalize Value.int .i64 (wrap64 ((IntKind.u64.wrap m).tmod 40)) = v66 at *
      generalize Value.int .i64 (wrap64 (1 + wrap64 ((IntKind.u64.wrap m).tmod 40))) = v67 at *
      have hR9 := (hR.below hb9).more (show mb ≤ w9.heap.size by omega)
      have hOr := ordd_U hf hCd
      have hKs := BkS.of hBk9.bk
      have HOR := Lib.hid hOr
      have HF := Lib.hid hf
      clear bM7 bR7 bB7 hb7 hK hba7 hs7 cM fM hT cF hK1W hBk9 hKp hOr hf hCd
      go_wp2_with fail
      refine (refCodes_all A n c ls w9 HN.out hR9 hI HF.out).mono ?_; rintro e w10 ⟨Aw, cw, rfl, hcs, hb10⟩
      have hol := HOR.out.len
      obtain ⟨ol, holq⟩ : ∃ ol, ol = (ordU ls 16).length := ⟨_, rfl⟩
      rw [← holq] at hol ⊢
      have HOL := Lib.hid holq
      clear holq
      have bW := Boxed.new w10 54 (.slice Aw ol cw)
      have bW2 := bW.alloc (.cells #[.int .i64 0] 3)
      have bK := Boxed.new (w10.alloc (.cells #[.slice Aw ol cw] 54)) 3 (.int .i64 0)
      rw [World.size_alloc] at bK
      have hbk : Below w10.heap.size w10 ((w10.alloc (.cells #[.slice Aw ol cw] 54)).alloc (.cells #[.int .i64 0] 3)) := ((Below.refl _ _).alloc (Nat.le_refl _) _).alloc (by rw [World.size_alloc]; omega) _
      go_upto_region 23 with fail
      generalize (w10.alloc (.cells #[.slice Aw ol cw] 54)).alloc (.cells #[.int .i64 0] 3) = w11 at *
      have hb911 := hb10.trans (hbk.mono hb10.size)
      have hs10 := hb10.size
      have bM11 : Boxed w11 mb 3 (.int .i64 (T : Int)) := (hb911.block mb (by omega)).trans bM9
      have bR11 : Boxed w11 (mb + 1) 4 (.bool false) := (hb911.block (mb + 1) (by omega)).trans bR9
      have bB11 : Boxed w11 bb 63 (.pointer (some ⟨p, 0, none⟩)) := (hb911.block bb (by omega)).trans bB9
      have hK11 : w11.heap[D]? = some (.deferred (some [])) := (hb911.block D hDlt).trans hK9
      have hcs11 := hcs.keep hbk
      have hKs11 := hKs.keep hb911
      have hb11 := hb9.trans (hb911.mono (by omega))
      generalize hwq : w10.heap.size = wb at *
      obtain ⟨kb, hkq⟩ : ∃ kb, kb = wb + 1 := ⟨_, rfl⟩
      rw [← hkq] at bK ⊢
      have hkq1 : kb ≤ wb + 1 := by omega
      have hkq2 : wb + 1 ≤ kb := by omega
      clear hkq
      have hs11 := bK.lt
      have bY := Boxed.new w11 63 (.pointer (some ⟨p, 0, none⟩))
      have hby : Below w11.heap.size w11 (w11.alloc (.cells #[.pointer (some ⟨p, 0, none⟩)] 63)) := (Below.refl _ _).alloc (Nat.le_refl _) _
      have cB := bB11.cell
      go_wp2_with fail
      refine (all_any (some ⟨p, 0, none⟩) w11).mono ?_; rintro e w12 ⟨rfl, rfl⟩
      go_wp2_with fail
      generalize w11.alloc (.cells #[.pointer (some ⟨p, 0, none⟩)] 63) = w12 at *
      have bW12 : Boxed w12 wb 54 (.slice Aw ol cw) := (hby.block wb (by omega)).trans bW2
      have bK12 : Boxed w12 kb 3 (.int .i64 0) := (hby.block kb hs11).trans bK
      have bM12 : Boxed w12 mb 3 (.int .i64 (T : Int)) := (hby.block mb (by omega)).trans bM11
      have bR12 : Boxed w12 (mb + 1) 4 (.bool false) := (hby.block (mb + 1) (by omega)).trans bR11
      have bB12 : Boxed w12 bb 63 (.pointer (some ⟨p, 0, none⟩)) := (hby.block bb (by omega)).trans bB11
      have hK12 : w12.heap[D]? = some (.deferred (some [])) := (hby.block D (by omega)).trans hK11
      have hcs12 := hcs11.keep (hby.mono (by omega))
      have hKs12 := hKs11.keep (hby.mono (by omega))
      have hb12 := hb11.trans (hby.mono (by omega))
      generalize w11.heap.size = by_ at *
      have hs12 := bY.lt
      clear bW bW2 bK hbk hb911 hb10 bM11 bR11 bB11 hK11 hcs11 hKs11 hb11 hcs hKs hby cB bM9 bR9 bB9 hK9 hb9
      refine (wpIn_wide (n := 20)).1 ?_
      refine wpIn_rangeFunc_ownG (F := Fence.wide) rfl (by decide) (gf := 105) (lb := #[.pointer (some ⟨by_, 0, none⟩)]) rfl trivial (enters_of Try.func105 (by kernel_rfl) rfl)
        (all_stops Fence.wide 19 trivial rfl (by omega) by_ kb w9.heap.size p ls (ordU ls 16) C (fun s hs => (HOR.out.mem s hs).1) HOR.out.len HOR.out.lls w12 bY hKs12 (by omega) (by omega)) KpA.trans_ (KpA.put (by omega) hs12) (Below.refl _ _) (fun _ => rfl)
        (AllI2 kb T D (prs ls (ordU ls 16)) w12) (AllX2 kb T D (prs ls (ordU ls 16)) w12) (allI2_own (by omega) (by omega)) (allX2_own (by omega) (by omega)) ⟨bK12, Below.refl _ _, List.nil_prefix, (show ([] : List (Int × Int)).length < T from hT1), hK12⟩
        (fun x => { tmps := #[.slice A n c, .int .i64 m, undef, .pointer (some ⟨mb, 0, none⟩), .pointer (some ⟨mb + 1, 0, none⟩), .pointer (some ⟨bb, 0, none⟩), .nilIface, .pointer (some ⟨p1, 0, none⟩), .nilIface, .pointer (some ⟨fb, 0, none⟩), undef, undef, .pointer (some ⟨wb, 0, none⟩), .pointer (some ⟨kb, 0, none⟩), .int .i64 x.1, .int .i64 x.2, .slice A n c, .int .i64 n, .bool false, .tuple #[.pointer (some ⟨p, 0, none⟩), .nilIface], .slice A n c, .tuple #[.pointer (some ⟨p, 0, none⟩), .nilIface], .pointer (some ⟨p, 0, none⟩), .nilIface, .tuple #[.pointer (some ⟨p1, 0, none⟩), .nilIface], .slice (some ⟨w2.heap.size, 0, none⟩) 8 8, .tuple #[.pointer (some ⟨p1, 0, none⟩), .nilIface], .pointer (some ⟨p1, 0, none⟩), .nilIface, .nilIface, .bool false, .pointer (some ⟨p1, 0, none⟩), .int .i64 2, .bool false, .pointer (some ⟨p1, 0, none⟩), .func (.func 105) #[] #[.pointer (some ⟨bx, 0, none⟩)], undef, undef, undef, undef, undef, undef, undef, undef, undef, undef, undef, undef, undef, .int .i64 7, .bool false, .bool false, .pointer (some ⟨p1, 0, none⟩), .int .i64 0, .bool false, .bool false, .bool false, .pointer (some ⟨p1, 0, none⟩), .int .i64 0, .bool false, .bool false, .nilIface, .bool false, .int .i64 m, v64, v65, v66, v67, .slice A n c, .slice Aw ol cw, .pointer (some ⟨p, 0, none⟩), .func (.func 105) #[] #[.pointer (some ⟨by_, 0, none⟩)], .int .i64 x.1, .int .i64 x.2, undef, undef, undef, undef, undef, undef, undef, undef, undef, undef, undef, undef, undef, undef, undef, undef, undef, undef, undef, undef, undef, undef, undef, undef, undef, undef, undef, undef, undef, undef, undef, undef, undef, undef, undef, undef, undef, undef, undef, undef, undef], defers := [] }) ?assign2 ?body2 ?done2 ?stop2
      case assign2 =>
        intro l x W K hK
        gi_wp2
        exact hK
      case body2 =>
        rintro l pre ⟨x1, x2⟩ W ⟨bK, hB, hpre, hlT, hKD⟩ hlen
        dsimp only
        obtain ⟨k, hkl⟩ : ∃ k, k = pre.length := ⟨_, rfl⟩
        rw [← hkl] at bK hlT hlen
        obtain ⟨s, hOs⟩ : ∃ s, (ordU ls 16)[k]? = some s := ⟨(ordU ls 16)[k]'hlen, List.getElem?_eq_getElem _⟩
        obtain ⟨v, hv⟩ : ∃ v, v = ls.getD s 0 := ⟨_, rfl⟩
        have hsm := HOR.out.mem s (List.mem_of_getElem? hOs)
        rw [← hv] at hsm
        have hszl := HOR.out.lenZ hOs
        rw [← hv] at hszl
        obtain ⟨rows, hRr, hCl⟩ := (hcs12.keep (hB.mono (by omega))).get
        have hcd := codesOf_at (sy (ordU ls 16)) (sz ls (ordU ls 16)) k hszl.1
        rw [sy_at hOs] at hcd
        obtain ⟨bw, ow, aw, ccw, rfl, c0, c1, _⟩ := hCl.cells hRr hcd
        obtain ⟨nv_, hnv⟩ : ∃ q, q = (cb (sz ls (ordU ls 16)) k).length := ⟨_, rfl⟩
        rw [← hnv] at c1 hszl
        have hvn : v = (nv_ : Int) := hszl.2.symm
        have cK := bK.cell
        have fK := bK.frozen
        have bW : Boxed W wb 54 (.slice (some ⟨bw, ow, none⟩) ol cw) := (hB.block wb (by omega)).trans bW12
        have bM : Boxed W mb 3 (.int .i64 (T : Int)) := (hB.block mb (by omega)).trans bM12
        have bR : Boxed W (mb + 1) 4 (.bool false) := (hB.block (mb + 1) (by omega)).trans bR12
        have bB : Boxed W bb 63 (.pointer (some ⟨p, 0, none⟩)) := (hB.block bb (by omega)).trans bB12
        have cW := bW.cell
        have cM := bM.cell
        have cR := bR.cell
        have fR := bR.frozen
        have cB := bB.cell
        have hKW := hKs12.keep (hB.mono (by omega))
        have hlL : lenL ls (s : Int) = (nv_ : Int) := by unfold lenL; rw [if_pos ⟨by omega, by omega, by rw [Int.toNat_natCast, ← hv]; omega⟩, Int.toNat_natCast, ← hv]; exact hvn
        have HLL := Lib.hid hlL
        have hlo : k < ol := by rw [HOL.out]; exact hlen
        have hko : (k : Int) < (ol : Int) := by omega
        have hk0 : (0 : Int) ≤ (k : Int) := by omega
        have hpe : (x1 = (s : Int) ∧ x2 = (nv_ : Int)) ↔ pre ++ [(x1, x2)] <+: prs ls (ordU ls 16) := by
          have hp1 : pre = (prs ls (ordU ls 16)).take k := by rw [hkl]; exact (List.prefix_iff_eq_take.1 hpre)
          have hat := prs_take (ls := ls) hOs
          rw [← hv, hvn] at hat
          constructor
          · rintro ⟨rfl, rfl⟩
            rw [hp1, ← hat]; exact List.take_prefix _ _
          · intro h
            have h2 := List.prefix_iff_eq_take.1 h
            rw [List.length_append, ← hkl, List.length_singleton, hat, ← hp1] at h2
            have h3 := List.append_cancel_left h2
            simp only [List.cons.injEq, Prod.mk.injEq, and_true] at h3
            exact h3
        have HPE := Lib.hid hpe
        have HKL := Lib.hid hkl
        have hkd : decide (ol ≤ k) = false := decide_eq_false (by omega)
        clear hpe hkl hOs hv hnv hvn hszl hcd hpre hlL hCl hRr hsm bW bB
        by_cases h1 : x1 = (s : Int)
        · by_cases h2 : x2 = (nv_ : Int)
          · have h3 := HPE.out.1 ⟨h1, h2⟩
            have H3 := Lib.hid h3
            subst h1 h2
            have ds : ((s : Int) != (s : Int)) = false := by simp
            have dv : ((nv_ : Int) != (nv_ : Int)) = false := by simp
            clear h3
            have kF : ∀ u : Int, KeepsFrom w12.heap.size W (W.setCell ⟨kb, 0, none⟩ (.int .i64 u)) ∧ KpA kb by_ W (W.setCell ⟨kb, 0, none⟩ (.int .i64 u)) ∧ Boxed (W.setCell ⟨kb, 0, none⟩ (.int .i64 u)) kb 3 (.int .i64 u) ∧ Below kb w12 (W.setCell ⟨kb, 0, none⟩ (.int .i64 u)) ∧ (W.setCell ⟨kb, 0, none⟩ (.int .i64 u)).heap[D]? = some (.deferred (some [])) := fun u =>
              ⟨(KeepsOthers.setCell _ _ _).from _, KpA.set (Nat.le_refl _) (by omega) W (by have := hB.size; omega) _, bK.set _, hB.setCell (p := ⟨kb, 0, none⟩) (Nat.le_refl _) _, (KeepsOthers.setCell W ⟨kb, 0, none⟩ (.int .i64 u)).same D _ hKD rfl⟩
            have KF := Lib.hid kF
            have bM3 := bM.other (show mb ≠ kb by omega) (.int .i64 ((k : Int) + 1))
            have bK3 := bK.set (.int .i64 ((k : Int) + 1))
            have cK3 := bK3.cell
            have cM3 := bM3.cell
            have hk1 : ((k + 1 : Nat) : Int) = (k : Int) + 1 := by omega
            have HK1 := Lib.hid hk1
            have hpl : (pre ++ [((s : Int), (nv_ : Int))]).length = k + 1 := by rw [List.length_append, ← HKL.out]; rfl
            have HPL := Lib.hid hpl
            clear kF bK hB bM bM3 bK3 hk1 hpl
            by_cases hkT : k + 1 = T
            · have dT : ((k : Int) + 1 == (T : Int)) = true := by simp; omega
              gi_wp2
              refine ⟨trivial, ?_⟩
              refine (CallsIn.inRound l (callsIn_wide.2 (length_any p ls (ordU ls 16) C (s : Int) W hKW.get HF.out.2.1))).mono ?_; rintro e W2 ⟨rfl, rfl⟩
              rw [HLL.out]
              gi_wp2
              refine ⟨(KF.out _).1, .inr ⟨rfl, ?_, (KF.out _).2.2.2.1, by rw [HPL.out]; exact hkT, (KF.out _).2.2.2.2⟩⟩
              rw [HPL.out, HK1.out]; exact (KF.out _).2.2.1
            · have dT : ((k : Int) + 1 == (T : Int)) = false := by simp; omega
              gi_wp2
              refine ⟨trivial, ?_⟩
              refine (CallsIn.inRound l (callsIn_wide.2 (length_any p ls (ordU ls 16) C (s : Int) W hKW.get HF.out.2.1))).mono ?_; rintro e W2 ⟨rfl, rfl⟩
              rw [HLL.out]
              gi_wp2
              refine ⟨(KF.out _).1, (KF.out _).2.1, ?_, (KF.out _).2.2.2.1, H3.out, by rw [HPL.out]; omega, (KF.out _).2.2.2.2⟩
              rw [HPL.out, HK1.out]; exact (KF.out _).2.2.1
          · have h3 : ¬ pre ++ [(x1, x2)] <+: prs ls (ordU ls 16) := fun h => h2 (HPE.out.2 h).2
            have H3 := Lib.hid h3
            subst h1
            have ds : ((s : Int) != (s : Int)) = false := by simp
            have dv : (x2 != (nv_ : Int)) = true := by simpa using h2
            clear h3 h2
            gi_wp2
            refine ⟨trivial, ?_⟩
            gi_wp2
            exact ⟨(KeepsOthers.setCell _ _ _).from _, .inl H3.out⟩
        · have h3 : ¬ pre ++ [(x1, x2)] <+: prs ls (ordU ls 16) := fun h => h1 (HPE.out.2 h).1
          have H3 := Lib.hid h3
          have ds : (x1 != (s : Int)) = true := by simpa using h1
          clear h3 h1
          gi_wp2
          refine ⟨trivial, ?_⟩
          gi_wp2
          exact ⟨(KeepsOthers.setCell _ _ _).from _, .inl H3.out⟩
      case done2 =>
        rintro D2 xs W hD2 rfl ⟨bK, hB, hpre, hlT, hKD⟩ hK2
        rw [prs_len] at bK hlT
        rw [← HOL.out] at bK hlT
        have bM : Boxed W mb 3 (.int .i64 (T : Int)) := (hB.block mb (by omega)).trans bM12
        have bR : Boxed W (mb + 1) 4 (.bool false) := (hB.block (mb + 1) (by omega)).trans bR12
        have bW : Boxed W wb 54 (.slice Aw ol cw) := (hB.block wb (by omega)).trans bW12
        have cK := bK.cell
        have cM := bM.cell
        have cW := bW.cell
        have cR := bR.cell
        have fR := bR.frozen
        have hcs := (bR.set (.bool true)).cell
        have hbW := hb12.trans (hB.mono (by omega))
        have hDD : D ≠ D2 := by have := (Array.getElem?_eq_some_iff.1 hK12).1; omega
        clear bK hB bM bR bW
        have hmin : ((ol : Int) == min (T : Int) (ol : Int)) = true := by rw [beq_iff_eq]; omega
        go_wp2_with fail
        have hK2' := (KeepsOthers.setCell W ⟨mb + 1, 0, none⟩ (.bool true)).same D2 _ hK2 rfl
        have hKD' := (KeepsOthers.setCell W ⟨mb + 1, 0, none⟩ (.bool true)).same D _ hKD rfl
        have hKD'' : ((W.setCell ⟨mb + 1, 0, none⟩ (.bool true)).putObj D2 (.deferred none)).heap[D]? = some (.deferred (some [])) := ((grownBy_putObj' _ D2 (.deferred none)).block D (Array.getElem?_eq_some_iff.1 hKD').1 (fun e => by cases e; exact hDD rfl)).trans hKD'
        refine ⟨by simp, .inl ⟨_, _, rfl, run_takeDeferred hK2', ?_⟩⟩
        refine ⟨by simp, .inl ⟨_, _, rfl, run_takeDeferred hKD'', ?_⟩⟩
        have hc5 := cell_kept hcs (grownBy_putObj' _ D2 (.deferred none)) (fun r e => by cases e; exact ⟨_, hK2', rfl⟩)
        have hc6 := cell_kept hc5 (grownBy_putObj' _ D (.deferred none)) (fun r e => by cases e; exact ⟨_, hKD'', rfl⟩)
        refine ⟨.bool true, by simp [results, Try.f9, go_sem, hc6], rfl, ?_⟩
        rw [HQQ.out]
        exact ((hbW.setCell (p := ⟨mb + 1, 0, none⟩) (by show mb ≤ mb + 1; omega) _).trans (belowK_b (w := w12) (by omega) _ D2 _ _ hD2 hK2' rfl rfl)).trans (belowK_b (w := w6) (by omega) _ D _ _ hD hKD'' rfl rfl)
      case stop2 =>
        rintro D2 c' pre W hD2 hS h hK2
        rcases h with h | ⟨rfl, bK, hB, hlT, hKD⟩
        · exact absurd hS h
        have hle : pre.length ≤ ol := by
          have := hS.length_le
          rw [prs_len, ← HOL.out] at this
          exact this
        rw [hlT] at bK hle
        have bM : Boxed W mb 3 (.int .i64 (T : Int)) := (hB.block mb (by omega)).trans bM12
        have bR : Boxed W (mb + 1) 4 (.bool false) := (hB.block (mb + 1) (by omega)).trans bR12
        have bW : Boxed W wb 54 (.slice Aw ol cw) := (hB.block wb (by omega)).trans bW12
        have cK := bK.cell
        have cM := bM.cell
        have cW := bW.cell
        have cR := bR.cell
        have fR := bR.frozen
        have hcs := (bR.set (.bool true)).cell
        have hbW := hb12.trans (hB.mono (by omega))
        have hDD : D ≠ D2 := by have := (Array.getElem?_eq_some_iff.1 hK12).1; omega
        clear bK hB bM bR bW
        have hmin : ((T : Int) == min (T : Int) (ol : Int)) = true := by rw [beq_iff_eq]; omega
        refine wpIn_wide.2 ?_
        go_wp2_with fail
        have hK2' := (KeepsOthers.setCell W ⟨mb + 1, 0, none⟩ (.bool true)).same D2 _ hK2 rfl
        have hKD' := (KeepsOthers.setCell W ⟨mb + 1, 0, none⟩ (.bool true)).same D _ hKD rfl
        have hKD'' : ((W.setCell ⟨mb + 1, 0, none⟩ (.bool true)).putObj D2 (.deferred none)).heap[D]? = some (.deferred (some [])) := ((grownBy_putObj' _ D2 (.deferred none)).block D (Array.getElem?_eq_some_iff.1 hKD').1 (fun e => by cases e; exact hDD rfl)).trans hKD'
        refine ⟨by simp, .inl ⟨_, _, rfl, run_takeDeferred hK2', ?_⟩⟩
        refine ⟨by simp, .inl ⟨_, _, rfl, run_takeDeferred hKD'', ?_⟩⟩
        have hc5 := cell_kept hcs (grownBy_putObj' _ D2 (.deferred none)) (fun r e => by cases e; exact ⟨_, hK2', rfl⟩)
        have hc6 := cell_kept hc5 (grownBy_putObj' _ D (.deferred none)) (fun r e => by cases e; exact ⟨_, hKD'', rfl⟩)
        refine ⟨.bool true, by simp [results, Try.f9, go_sem, hc6], rfl, ?_⟩
        rw [HQQ.out]
        exact ((hbW.setCell (p := ⟨mb + 1, 0, none⟩) (by show mb ≤ mb + 1; omega) _).trans (belowK_b (w := w12) (by omega) _ D2 _ _ hD2 hK2' rfl rfl)).trans (belowK_b (w := w6) (by omega) _ D _ _ hD hKD'' rfl rfl)
    · have cR := bR7.cell
      have fR := bR7.frozen
      have hcs := (bR7.set (.bool true)).cell
      go_wp2_with fail
      have hK' := (KeepsOthers.setCell _ ⟨mb + 1, 0, none⟩ (.bool true)).same D _ hK rfl
      refine ⟨by simp, .inl ⟨_, _, rfl, run_takeDeferred hK', ?_⟩⟩
      have hc5 := cell_kept hcs (grownBy_putObj' _ D (.deferred none)) (fun r e => by cases e; exact ⟨_, hK', rfl⟩)
      refine ⟨.bool true, by simp [results, Try.f9, go_sem, hc5], rfl, ?_⟩
      rw [HQQ.out]
      exact (hb7.setCell (p := ⟨mb + 1, 0, none⟩) (by show mb ≤ mb + 1; omega) _).trans (belowK_b (w := w6) (by omega) _ D _ _ hD hK' rfl rfl)
  case stop =>
    rintro D c' pre W hD hS h _
    exact absurd h (not_odd1 hS)
namespace CanonAll
set_option maxRecDepth 100000 in
theorem contract (H : Type) (enc : TypeId × Value → H) (W : World) (base : Nat) (args : Array Value) (ds gs : List (DataW H)) (before : List MemPlace)
    (hval : ∀ (j : Nat) t v, Try.f9.params[j]? = some t → args[j]? = some v → Value.okWide Try.prog W .any base t v)
    (hW : DataW.Whole enc Try.prog Try.f9.params.toList Rows.canonAllSpec.vars false W args.toList ds gs before) :
    Calls Try.prog 9 args W fun e W' => ∃ v, e = .returned v ∧ Rows.canonAllSpec.post enc Try.prog Try.f9 false true false false W args v W' := by
  have hW' := hW
  obtain ⟨p, q, hA0, hV, rfl, hfz, hnd⟩ := hW
  have hA : DataW.TrodAll enc Try.prog W 0 (fun _ => true) true Try.f9.params.toList args.toList ds p := hA0
  rw [Try.params9] at hA hval
  clear hA0
  obtain ⟨v0, vs0, d0, ds0, p0, q0, hargs, rfl, rfl, h0, r0⟩ := trodAll_cons hA
  obtain ⟨v1, vs1, d1, ds1, p1, q1, rfl, rfl, rfl, h1, r1⟩ := trodAll_cons r0
  obtain ⟨rfl, rfl, rfl⟩ := trodAll_nil r1
  obtain rfl : args = #[v0, v1] := by cases args; simp_all
  obtain ⟨rfl, rfl⟩ := trodVars_none hV
  obtain ⟨Ax0, nx0, cx0, rfl⟩ := okWide_slice Try.underlying24 (hval 0 _ _ rfl rfl)
  obtain ⟨fu0, hf0⟩ := h0
  obtain ⟨A', n', c', x0, ev0, hnx0, hcx0, hmx0, hRx0, hwx0⟩ := open_rd Try.underlying24 Try.underlying3 (by kernel_rfl) hf0
  injection ev0 with ea eb ec
  subst ea eb ec
  obtain ⟨x1, rfl, rfl, rfl, wx1⟩ := open_int Try.underlying3 (hval 1 _ _ rfl rfl) h1
  refine (canonAll_any W Ax0 nx0 cx0 x0 hnx0 hcx0 hmx0 hRx0 (wf_is hwx0) x1 (wf_i wx1)).mono fun e W' ⟨he, hb⟩ => ?_
  subst he
  exact ⟨_, rfl, post_true Facts.laid hW' rfl rfl Try.underlying4 (by kernel_rfl) rfl hb⟩

set_option maxRecDepth 100000 in
theorem lifted (os : Os) (started : os.Started) (H : Type) (enc : TypeId × Value → H) :
    ReturnsInHanded {} Try.checked os 9 .any (Rows.canonAllSpec.pre6 enc Try.prog Try.f9 Rows.canonAllRow.domain false) (Rows.canonAllSpec.post enc Try.prog Try.f9 false true false false) := by
  refine returnsInHanded_of_change (C := Try.checked) Facts.own started (by kernel_rfl) Try.func9
    (ChangeSpec.witness6 (enc := enc) (C := Try.checked) (os := os) false ⟨#[], #[.slice none 0 0, .int .i64 0], []⟩ 8 (by kernel_rfl) (by kernel_rfl) (by kernel_rfl) (by kernel_rfl)) ?_
  intro W base args ds gs before hval hW _ _
  exact contract H enc W base args ds gs before hval hW

theorem k_wf : Rows.canonAllRow.wf (OpenSpec.ofChange Rows.canonAllSpec) = true := by kernel_rfl
theorem k_inp : (Rows.canonAllRow.inPlace == Try.prog.inPlace 9) = true := by kernel_rfl
theorem k_unf : (Rows.canonAllRow.unfollowed == Try.prog.unfollowed 9) = true := by kernel_rfl
theorem k_rec : (Rows.canonAllRow.recurses == Try.prog.recurses 9) = true := by kernel_rfl
theorem k_nam : (Rows.canonAllRow.named == Try.prog.varsNamed 9) = true := by kernel_rfl
theorem k_pk : (Rows.canonAllRow.plainKeys == Try.prog.plainKeys) = true := (congrArg (fun x => Rows.canonAllRow.plainKeys == x) Facts.plainKeys).trans (by kernel_rfl)
theorem k_lf : (Rows.canonAllRow.lifted == Try.prog.liftsFinal) = true := (congrArg (fun x => Rows.canonAllRow.lifted == x) Facts.liftsFinal).trans (by kernel_rfl)
theorem k_mk : (Try.prog.make == some Rows.canonAllRow.make) = true := (congrArg (fun x => x == some Rows.canonAllRow.make) Facts.make).trans (by kernel_rfl)
theorem k_par : (Try.f9.params.all (Try.prog.readableRec ·)) = true := by kernel_rfl
theorem k_maps : (Rows.canonAllRow.maps == (Try.f9.params.toList ++ Rows.canonAllSpec.plain.varTypes Try.prog).any (Try.prog.mapsRec ·)) = true := by kernel_rfl
theorem k_ifs : (Rows.canonAllRow.ifaces == (Try.f9.params.toList ++ Rows.canonAllSpec.plain.varTypes Try.prog).any (Try.prog.ifacesRec ·)) = true := by kernel_rfl
theorem k_lps : (Rows.canonAllRow.loops == (Try.f9.params.toList ++ Rows.canonAllSpec.plain.varTypes Try.prog).any (Try.prog.loopsFrom ·)) = true := by kernel_rfl
theorem k_wk : (Rows.canonAllRow.wideKeys == (Try.f9.params.toList ++ Rows.canonAllSpec.plain.varTypes Try.prog ++ Try.f9.resultTypes.toList).any (Try.prog.wideKeysFrom ·)) = true := by kernel_rfl
theorem k_vl : (Rows.canonAllRow.veiled == (Try.f9.params.toList ++ Rows.canonAllSpec.plain.varTypes Try.prog ++ Try.f9.resultTypes.toList).any (Try.prog.veiledRec ·)) = true := by kernel_rfl
theorem closed : joinedFacts Try.prog 9 Try.f9 Rows.canonAllSpec Rows.canonAllRow = true :=
  Facts.and_i (Facts.and_i (Facts.and_i (Facts.and_i (Facts.and_i (Facts.and_i (Facts.and_i (Facts.and_i (Facts.and_i (Facts.and_i (Facts.and_i (Facts.and_i (Facts.and_i (Facts.and_i (Facts.and_i (Facts.and_i (Facts.and_i (Facts.and_i (Facts.and_i (Facts.and_i (Facts.and_i (Facts.and_i (Facts.and_i (Facts.and_i (Facts.and_i (Facts.and_i (Facts.and_i (Facts.and_i (Facts.and_i (Facts.and_i (Facts.and_i
    k_wf Facts.laid) Facts.mapsRowed_) k_par) rfl) rfl) Facts.stops) rfl) Facts.stopKnobs) k_inp) k_unf) k_rec) k_nam) k_maps) k_ifs) (by kernel_rfl)) k_lps) k_wk) rfl) (by kernel_rfl)) (by kernel_rfl)) (by kernel_rfl)) k_pk) rfl) Facts.stopsHeard) Facts.mayEnter) k_lf) k_mk) (by kernel_rfl)) (by kernel_rfl)) k_vl) (by kernel_rfl)
theorem named : Try.prog.funcNamed Rows.canonAllRow.func = some 9 := by kernel_rfl

theorem proved : Rows.CanonAllSaid :=
  OpenClaim.holds_of_wide 9 Try.f9 rfl rfl rfl rfl rfl rfl rfl ⟨rfl, rfl, rfl, rfl, rfl⟩ rfl rfl rfl rfl rfl named Try.func9 closed
    (of_decide_eq_true (by kernel_rfl)) (by unfold Func.isWrapper; first | (rw [if_pos (by decide +kernel)]; kernel_rfl) | (rw [if_neg (by decide +kernel)]; exact ⟨rfl, rfl⟩))
    (fun os started H enc _ => lifted os started H enc)
end CanonAll
#print axioms CanonAll.proved
end Go.Proofs.Ytlhappecjjbopaa
