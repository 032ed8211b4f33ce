/-
  ProgKnown: what is known of any blocks behind any band. No condition.
-/
import Derived.Test.YtlhappecjjbopaaPrX
import Derived.Test.YtlhappecjjbopaaPrP
import Derived.Test.YtlhappecjjbopaaPrB
import Derived.Test.YtlhappecjjbopaaScE
import Derived.Test.YtlhappecjjbopaaFacts
import Derived.Test.YtlhappecjjbopaaArw
namespace Go.Proofs.Ytlhappecjjbopaa
open Go.ChangeShapes Go.WideShapes Go.ChangeAt Go.WideMaps Go.WideElems Go.RowKit Go.Joins
set_option linter.unusedVariables false
set_option maxRecDepth 100000

theorem two_ranges {W W' : World} {b1 o1 b2 o2 : Nat} {xs ys : List Value} (hb : Below W.heap.size W W') (h : W.rangeAt b1 o1 xs ∧ W.rangeAt b2 o2 ys) (h1 : b1 < W.heap.size) (h2 : b2 < W.heap.size) : W'.rangeAt b1 o1 xs ∧ W'.rangeAt b2 o2 ys :=
  ⟨fun j v hv => (hb.cell (p := ⟨b1, o1 + j, none⟩) h1).trans (h.1 j v hv), fun j v hv => (hb.cell (p := ⟨b2, o2 + j, none⟩) h2).trans (h.2 j v hv)⟩
theorem yieldsIf_neq_agg {P : Program} {ops : Array Oper} {S : World → Prop} {op : Oper} {a : Act} (hw : Region.wanted op (yielded ops a.tmps) = true) (ty r : TypeId) (x y : Operand) (ho : op.op = .binOp .neq ty x y r)
    (A B : Array Value) (hx : a.eval x = .agg A) (hy : a.eval y = .agg B) (hg : P.eqGuardType P.depth ty = false) (z : Bool) (he : ∀ w, (Op.equalIn 10000 ty (.agg A) (.agg B)).run P w = .ok z w) : YieldsIf P ops S op (.bool (!z)) a :=
  .inl ⟨hw, fun w _ => by
    unfold execOp
    simp only [ho]
    rw [hx, hy]
    unfold eqGuard
    simp only [Sem.run_bind, Sem.run_pure, go_sem]
    simp only [Bool.not_true, Bool.false_eq_true, if_false, Sem.run_bind, run_program, Result.andThen_ok, hg, Bool.not_false, if_true, Sem.run_pure, he]⟩
set_option maxHeartbeats 4000000 in
theorem same22_any (A1 A2 : Option Addr) (n1 c1 n2 c2 : Nat) (G1 G2 : List (List Int)) (w : World) (h1 : Blk w A1 n1 G1) (h2 : Blk w A2 n2 G2) (hm : n1 ≤ 2000000) :
    Calls Try.prog 71 #[.slice A1 n1 c1, .slice A2 n2 c2] w (BoolP (decide (G1 = G2)) w) := by
  have H1 := Lib.hid h1
  have H2 := Lib.hid h2
  clear h1 h2
  go_enter Try.func71, Try.ntmps71
  by_cases hne : n1 = n2
  · subst hne
    have hLL : G1.length = G2.length := by rw [H1.out.len, H2.out.len]
    have HLL := Lib.hid hLL
    clear hLL
    go_wp2
    go_loopw [13] (fun i wr => ∃ k : Nat, k ≤ n1 ∧ i = .int .i64 k ∧ G1.take k = G2.take k ∧ Below w.heap.size w wr) (fun i _ => n1 - (intOf i).toNat)
    case atStart => exact ⟨0, Nat.zero_le _, rfl, rfl, Below.refl _ _⟩
    case round =>
      obtain ⟨k, hk, rfl, hok, hb⟩ := hrel
      have HOK := Lib.hid hok
      obtain ⟨wi, rfl⟩ : ∃ wi : World, wi = wr := ⟨_, rfl⟩
      clear hok
      by_cases hlt : k < n1
      · have dl : decide (k < n1) = true := decide_eq_true hlt
        obtain ⟨x, b1, o1, hx, hxm, hx64, hxI, rfl, hb1, hrx⟩ := (H1.out.below hb).at_ hlt
        obtain ⟨y, b2, o2, hy, hym, hy64, hyI, rfl, hb2, hry⟩ := (H2.out.below hb).at_ hlt
        have hk0 : (0 : Int) ≤ (k : Int) := by omega
        have hk1 : (k : Int) < (n1 : Int) := by omega
        have heq := eq_blk x y hx64 hy64
        have hu := Try.underlying70
        have hinf : (Try.prog.info? 70).map (·.size) = some (iv x).length := by rw [iv_len, hx64]; kernel_rfl
        have hinf2 : (Try.prog.info? 70).map (·.size) = some (iv y).length := by rw [iv_len, hy64]; kernel_rfl
        have heg := eqG70
        have HX := Lib.hid hx
        have HY := Lib.hid hy
        have HB := Lib.hid hb
        clear hx hy hxm hym hx64 hy64 hxI hyI hb
        by_cases he : x = y
        · have HE := Lib.hid he
          have hbe : (x == y) = true := beq_iff_eq.2 he
          rw [hbe] at heq
          clear he hbe
          go_upto_region 6 with fail
          refine wp_region_held_drew (S := fun w' : World => w'.rangeAt b1 (o1 + k * 64) (iv x) ∧ w'.rangeAt b2 (o2 + k * 64) (iv y)) (by kernel_rfl) ⟨hrx, hry⟩ (fun hHeld => ?_)
          refine wpAnyH_take (i := 0) (oi := { dst := some 16, op := Op.move (Operand.tmp 0), type := 105, pos := _, after := #[], guard := none }) (v := Value.slice (some ⟨b1, o1, none⟩) n1 c1) rfl (by kernel_rfl) (by kernel_rfl) (by kernel_rfl) (fun _ _ _ h => h) (Or.inl ⟨by rfl, fun w hSw => by go_simp⟩) hHeld ?_
          simp only [Act.put, List.setIfInBounds_toArray, List.set_cons_zero, List.set_cons_succ]
          refine wpAnyH_take (i := 1) (oi := { dst := some 17, op := Op.move (Operand.tmp 5), type := 3, pos := _, after := #[], guard := none }) (v := Value.int .i64 (k : Nat)) rfl (by kernel_rfl) (by kernel_rfl) (by kernel_rfl) (fun _ _ _ h => h) (Or.inl ⟨by rfl, fun w hSw => by go_simp⟩) hHeld ?_
          simp only [Act.put, List.setIfInBounds_toArray, List.set_cons_zero, List.set_cons_succ]
          refine wpAnyH_take (i := 2) (oi := { dst := some 18, op := Op.indexAddr 105 (Operand.tmp 16) (Operand.tmp 17), type := 0, pos := _, after := #[{ on := 0, ground := Ground.data }, { on := 1, ground := Ground.data }], guard := none }) (v := Value.pointer (some ⟨b1, o1 + k * 64, none⟩)) rfl (by kernel_rfl) (by kernel_rfl) (by kernel_rfl) (fun _ _ _ h => h) (Or.inl ⟨by rfl, fun w hSw => by go_simp⟩) hHeld ?_
          simp only [Act.put, List.setIfInBounds_toArray, List.set_cons_zero, List.set_cons_succ]
          refine wpAnyH_take (i := 3) (oi := { dst := some 19, op := Op.load 70 (Operand.tmp 18), type := 70, pos := _, after := #[{ on := 2, ground := Ground.data }], guard := none }) rfl (by kernel_rfl) (by kernel_rfl) (by kernel_rfl) (fun _ _ _ h => h) (yieldsIf_load_mid (by rfl) 70 (.tmp 18) rfl b1 (o1 + k * 64) rfl (iv x) _ (fun _ h => h.1) hu rfl hinf) hHeld ?_
          simp only [Act.put, List.setIfInBounds_toArray, List.set_cons_zero, List.set_cons_succ]
          refine wpAnyH_take (i := 4) (oi := { dst := some 20, op := Op.move (Operand.tmp 1), type := 105, pos := _, after := #[], guard := none }) (v := Value.slice (some ⟨b2, o2, none⟩) n1 c2) rfl (by kernel_rfl) (by kernel_rfl) (by kernel_rfl) (fun _ _ _ h => h) (Or.inl ⟨by rfl, fun w hSw => by go_simp⟩) hHeld ?_
          simp only [Act.put, List.setIfInBounds_toArray, List.set_cons_zero, List.set_cons_succ]
          refine wpAnyH_take (i := 5) (oi := { dst := some 21, op := Op.move (Operand.tmp 5), type := 3, pos := _, after := #[], guard := none }) (v := Value.int .i64 (k : Nat)) rfl (by kernel_rfl) (by kernel_rfl) (by kernel_rfl) (fun _ _ _ h => h) (Or.inl ⟨by rfl, fun w hSw => by go_simp⟩) hHeld ?_
          simp only [Act.put, List.setIfInBounds_toArray, List.set_cons_zero, List.set_cons_succ]
          refine wpAnyH_take (i := 6) (oi := { dst := some 22, op := Op.indexAddr 105 (Operand.tmp 20) (Operand.tmp 21), type := 0, pos := _, after := #[{ on := 4, ground := Ground.data }, { on := 5, ground := Ground.data }], guard := none }) (v := Value.pointer (some ⟨b2, o2 + k * 64, none⟩)) rfl (by kernel_rfl) (by kernel_rfl) (by kernel_rfl) (fun _ _ _ h => h) (Or.inl ⟨by rfl, fun w hSw => by go_simp⟩) hHeld ?_
          simp only [Act.put, List.setIfInBounds_toArray, List.set_cons_zero, List.set_cons_succ]
          refine wpAnyH_take (i := 7) (oi := { dst := some 23, op := Op.load 70 (Operand.tmp 22), type := 70, pos := _, after := #[{ on := 6, ground := Ground.data }], guard := none }) rfl (by kernel_rfl) (by kernel_rfl) (by kernel_rfl) (fun _ _ _ h => h) (yieldsIf_load_mid (by rfl) 70 (.tmp 22) rfl b2 (o2 + k * 64) rfl (iv y) _ (fun _ h => h.2) hu rfl hinf2) hHeld ?_
          simp only [Act.put, List.setIfInBounds_toArray, List.set_cons_zero, List.set_cons_succ]
          refine wpAnyH_take (i := 8) (oi := { dst := some 24, op := Op.binOp BinOp.neq 70 (Operand.tmp 19) (Operand.tmp 23) 70, type := 4, pos := _, after := #[{ on := 3, ground := Ground.data }, { on := 7, ground := Ground.data }], guard := none }) (v := .bool (!true)) rfl (by kernel_rfl) (by kernel_rfl) (by kernel_rfl) (fun _ _ _ h => h) ?yy hHeld ?rr
          case yy => refine yieldsIf_neq_agg (by rfl) 70 70 (.tmp 19) (.tmp 23) rfl (iv x).toArray (iv y).toArray ?_ ?_ heg true heq <;> simp [Act.eval]
          simp only [Act.put, List.setIfInBounds_toArray, List.set_cons_zero, List.set_cons_succ]
          refine wpAnyH_done (by kernel_rfl) ?_ _
          all_goals
            clear hrx hry
            go_wp2_with fail
            go_roundw
            case rel => exact ⟨k + 1, by omega, by go_num, by rw [List.take_add_one, List.take_add_one, HOK.out, HX.out, HY.out, HE.out], HB.out.drew⟩
            case measure => simp [intOf]; omega
        · have HE := Lib.hid he
          have hbe : (x == y) = false := beq_eq_false_iff_ne.2 he
          rw [hbe] at heq
          clear he hbe
          go_upto_region 6 with fail
          refine wp_region_held_drew (S := fun w' : World => w'.rangeAt b1 (o1 + k * 64) (iv x) ∧ w'.rangeAt b2 (o2 + k * 64) (iv y)) (by kernel_rfl) ⟨hrx, hry⟩ (fun hHeld => ?_)
          refine wpAnyH_take (i := 0) (oi := { dst := some 16, op := Op.move (Operand.tmp 0), type := 105, pos := _, after := #[], guard := none }) (v := Value.slice (some ⟨b1, o1, none⟩) n1 c1) rfl (by kernel_rfl) (by kernel_rfl) (by kernel_rfl) (fun _ _ _ h => h) (Or.inl ⟨by rfl, fun w hSw => by go_simp⟩) hHeld ?_
          simp only [Act.put, List.setIfInBounds_toArray, List.set_cons_zero, List.set_cons_succ]
          refine wpAnyH_take (i := 1) (oi := { dst := some 17, op := Op.move (Operand.tmp 5), type := 3, pos := _, after := #[], guard := none }) (v := Value.int .i64 (k : Nat)) rfl (by kernel_rfl) (by kernel_rfl) (by kernel_rfl) (fun _ _ _ h => h) (Or.inl ⟨by rfl, fun w hSw => by go_simp⟩) hHeld ?_
          simp only [Act.put, List.setIfInBounds_toArray, List.set_cons_zero, List.set_cons_succ]
          refine wpAnyH_take (i := 2) (oi := { dst := some 18, op := Op.indexAddr 105 (Operand.tmp 16) (Operand.tmp 17), type := 0, pos := _, after := #[{ on := 0, ground := Ground.data }, { on := 1, ground := Ground.data }], guard := none }) (v := Value.pointer (some ⟨b1, o1 + k * 64, none⟩)) rfl (by kernel_rfl) (by kernel_rfl) (by kernel_rfl) (fun _ _ _ h => h) (Or.inl ⟨by rfl, fun w hSw => by go_simp⟩) hHeld ?_
          simp only [Act.put, List.setIfInBounds_toArray, List.set_cons_zero, List.set_cons_succ]
          refine wpAnyH_take (i := 3) (oi := { dst := some 19, op := Op.load 70 (Operand.tmp 18), type := 70, pos := _, after := #[{ on := 2, ground := Ground.data }], guard := none }) rfl (by kernel_rfl) (by kernel_rfl) (by kernel_rfl) (fun _ _ _ h => h) (yieldsIf_load_mid (by rfl) 70 (.tmp 18) rfl b1 (o1 + k * 64) rfl (iv x) _ (fun _ h => h.1) hu rfl hinf) hHeld ?_
          simp only [Act.put, List.setIfInBounds_toArray, List.set_cons_zero, List.set_cons_succ]
          refine wpAnyH_take (i := 4) (oi := { dst := some 20, op := Op.move (Operand.tmp 1), type := 105, pos := _, after := #[], guard := none }) (v := Value.slice (some ⟨b2, o2, none⟩) n1 c2) rfl (by kernel_rfl) (by kernel_rfl) (by kernel_rfl) (fun _ _ _ h => h) (Or.inl ⟨by rfl, fun w hSw => by go_simp⟩) hHeld ?_
          simp only [Act.put, List.setIfInBounds_toArray, List.set_cons_zero, List.set_cons_succ]
          refine wpAnyH_take (i := 5) (oi := { dst := some 21, op := Op.move (Operand.tmp 5), type := 3, pos := _, after := #[], guard := none }) (v := Value.int .i64 (k : Nat)) rfl (by kernel_rfl) (by kernel_rfl) (by kernel_rfl) (fun _ _ _ h => h) (Or.inl ⟨by rfl, fun w hSw => by go_simp⟩) hHeld ?_
          simp only [Act.put, List.setIfInBounds_toArray, List.set_cons_zero, List.set_cons_succ]
          refine wpAnyH_take (i := 6) (oi := { dst := some 22, op := Op.indexAddr 105 (Operand.tmp 20) (Operand.tmp 21), type := 0, pos := _, after := #[{ on := 4, ground := Ground.data }, { on := 5, ground := Ground.data }], guard := none }) (v := Value.pointer (some ⟨b2, o2 + k * 64, none⟩)) rfl (by kernel_rfl) (by kernel_rfl) (by kernel_rfl) (fun _ _ _ h => h) (Or.inl ⟨by rfl, fun w hSw => by go_simp⟩) hHeld ?_
          simp only [Act.put, List.setIfInBounds_toArray, List.set_cons_zero, List.set_cons_succ]
          refine wpAnyH_take (i := 7) (oi := { dst := some 23, op := Op.load 70 (Operand.tmp 22), type := 70, pos := _, after := #[{ on := 6, ground := Ground.data }], guard := none }) rfl (by kernel_rfl) (by kernel_rfl) (by kernel_rfl) (fun _ _ _ h => h) (yieldsIf_load_mid (by rfl) 70 (.tmp 22) rfl b2 (o2 + k * 64) rfl (iv y) _ (fun _ h => h.2) hu rfl hinf2) hHeld ?_
          simp only [Act.put, List.setIfInBounds_toArray, List.set_cons_zero, List.set_cons_succ]
          refine wpAnyH_take (i := 8) (oi := { dst := some 24, op := Op.binOp BinOp.neq 70 (Operand.tmp 19) (Operand.tmp 23) 70, type := 4, pos := _, after := #[{ on := 3, ground := Ground.data }, { on := 7, ground := Ground.data }], guard := none }) (v := .bool (!false)) rfl (by kernel_rfl) (by kernel_rfl) (by kernel_rfl) (fun _ _ _ h => h) ?yz hHeld ?rz
          case yz => refine yieldsIf_neq_agg (by rfl) 70 70 (.tmp 19) (.tmp 23) rfl (iv x).toArray (iv y).toArray ?_ ?_ heg false heq <;> simp [Act.eval]
          simp only [Act.put, List.setIfInBounds_toArray, List.set_cons_zero, List.set_cons_succ]
          refine wpAnyH_done (by kernel_rfl) ?_ _
          all_goals
            clear hrx hry
            go_wp2_with fail
            go_ret
            refine ⟨ret_bool (decide_eq_false fun e => HE.out ?_).symm, HB.out.drew⟩
            have h1 := HX.out
            rw [e, HY.out] at h1
            injection h1 with h1
            exact h1.symm
      · have dl : decide (k < n1) = false := decide_eq_false hlt
        have h1 : G1.take k = G1 := List.take_of_length_le (by rw [H1.out.len]; omega)
        have h2 : G2.take k = G2 := List.take_of_length_le (by rw [H2.out.len]; omega)
        rw [h1, h2] at HOK
        go_wp2
        go_ret
        exact ⟨ret_bool (decide_eq_true HOK.out).symm, hb⟩
  · have HNE := Lib.hid hne
    have dn : ((n1 : Int) != (n2 : Int)) = true := by simp; omega
    have de : ((n1 : Int) == (n2 : Int)) = false := by simp; omega
    go_wp2
    go_ret
    exact ⟨ret_bool (decide_eq_false fun e => HNE.out (by rw [← H1.out.len, ← H2.out.len, e])).symm, Below.refl _ _⟩
/-- the document's known blocks -/
def RkP (F T K : Nat) (dc : Bool) (G : List (List Int)) (w : World) (e : Ending) (w' : World) : Prop :=
  ∃ v, e = .returned v ∧ w'.ownsRow w.heap.size 70 64 v G.length ((G.map (knB F T (K : Nat) dc)).map iv).flatten ∧ Below w.heap.size w w'
def RkR (F T K : Nat) (dc : Bool) (n : Nat) (G : List (List Int)) (w1 : World) (ov ix : Value) (wr : World) : Prop :=
  ∃ i : Nat, i ≤ n ∧ ix = .int .i64 i ∧ wr.ownsRow w1.heap.size 70 64 ov i (((G.take i).map (knB F T (K : Nat) dc)).map iv).flatten ∧ Below w1.heap.size w1 wr
def RkQ (F K N gx : Nat) (dc : Bool) (x : List Int) (w4 : World) (kv : Value) (wr : World) : Prop :=
  ∃ j k : Nat, j ≤ N ∧ k = F + j ∧ kv = .int .i64 (k : Nat) ∧ Bln wr gx 70 (iv (knG x F (K : Nat) dc j)) ∧ Fr (fun b => b = gx) w4 wr
set_option maxHeartbeats 16000000 in
theorem rknown_any {w : World} {A : Option Addr} {n c : Nat} {G : List (List Int)} (hG : Blk w A n G) (hn : n ≤ 1000) (F T K : Nat) (h : Int) (hft : F ≤ T) (hT63 : T ≤ 63) (hK9 : K ≤ 10) (hgl : GoodL G) :
    Calls Try.prog 77 #[.slice A n c, .agg #[.int .i64 (F : Nat), .int .i64 (T : Nat), .int .i64 h, .int .i64 (K : Nat)]] w (RkP F T K (decide ((F : Int) = 0)) G w) := by
  have hal : ∀ W : World, W.alloc (.cells #[.int .i64 0, .int .i64 0, .int .i64 0, .int .i64 0, .int .i64 0, .int .i64 0, .int .i64 0, .int .i64 0, .int .i64 0, .int .i64 0, .int .i64 0, .int .i64 0, .int .i64 0, .int .i64 0, .int .i64 0, .int .i64 0, .int .i64 0, .int .i64 0, .int .i64 0, .int .i64 0, .int .i64 0, .int .i64 0, .int .i64 0, .int .i64 0, .int .i64 0, .int .i64 0, .int .i64 0, .int .i64 0, .int .i64 0, .int .i64 0, .int .i64 0, .int .i64 0, .int .i64 0, .int .i64 0, .int .i64 0, .int .i64 0, .int .i64 0, .int .i64 0, .int .i64 0, .int .i64 0, .int .i64 0, .int .i64 0, .int .i64 0, .int .i64 0, .int .i64 0, .int .i64 0, .int .i64 0, .int .i64 0, .int .i64 0, .int .i64 0, .int .i64 0, .int .i64 0, .int .i64 0, .int .i64 0, .int .i64 0, .int .i64 0, .int .i64 0, .int .i64 0, .int .i64 0, .int .i64 0, .int .i64 0, .int .i64 0, .int .i64 0, .int .i64 0] 39) = W.alloc (.cells (iv z64).toArray 39) := fun _ => rfl
  have hpK := two_int K (by omega)
  obtain ⟨dcq, d0⟩ : ∃ d : Bool, ((F : Int) == 0) = d := ⟨_, rfl⟩
  have hdq : decide ((F : Int) = 0) = dcq := by rw [← d0]; rfl
  rw [hdq]
  clear hdq
  have hpw := fun W : World => power22_any K (by omega) W
  have HPW := Lib.hid hpw
  obtain ⟨N, hN⟩ : ∃ N, N = T + 1 - F := ⟨_, rfl⟩
  have HN := Lib.hid hN
  have hTN : T + 1 = F + N := by omega
  have hFN : F + N ≤ 64 := by omega
  have HGL := Lib.hid hgl
  have HGG := Lib.hid hG
  have X0 := Bln.new w 33 [.int .i64 (F : Nat), .int .i64 (T : Nat), .int .i64 h, .int .i64 (K : Nat)]
  have hb0 : Below w.heap.size w (w.alloc (.cells #[.int .i64 (F : Nat), .int .i64 (T : Nat), .int .i64 h, .int .i64 (K : Nat)] 33)) := (Below.refl _ _).alloc (Nat.le_refl _) _
  clear hpw hN hgl hG
  go_enter Try.func77, Try.ntmps77
  go_upto_region 1 with fail
  obtain ⟨rb, hrb⟩ : ∃ rb, rb = w.heap.size := ⟨_, rfl⟩
  generalize w.alloc (.cells #[.int .i64 (F : Nat), .int .i64 (T : Nat), .int .i64 h, .int .i64 (K : Nat)] 33) = w0 at *
  rw [← hrb] at X0 ⊢
  have HRB := Lib.hid hrb
  clear hrb
  go_wp2_with fail
  refine (order_ref w0).mono ?_; rintro e w5 ⟨rfl, hb5⟩
  have X5 := X0.below hb5
  have hs0 := hb0.size
  have hb5' := hb0.trans (hb5.mono hs0)
  have hs5 := hb5'.size
  have hzl : (iv zzL).length = 64 := by rw [iv_len]; rfl
  have hzat : ∀ q, q < 64 → (iv zzL)[q]? = some (.int .i64 ((zzN q : Nat) : Int)) := fun q hq => by
    rw [ivs_get (by show q < 64; exact hq), (zzN_bd q hq).2.1]
  obtain ⟨ZL, hZL⟩ : ∃ z, z = zzL := ⟨_, rfl⟩
  rw [← hZL] at hzl hzat ⊢
  have hsz : (iv ZL).toArray.size = 64 := hzl
  obtain ⟨XD, hbd⟩ := Bln.copy w5 39 (iv z64) (iv ZL) (by rw [hzl, iv_len]; rfl)
  have hth : (w5.alloc (.cells (iv z64).toArray 39)).there w5.heap.size 0 (iv ZL).toArray.size := by
    rw [hsz]
    exact (Bln.new w5 39 (iv z64)).there 64 (by rw [iv_len]; decide)
  have hone := one_iv ZL
  have HSZ := Lib.hid hsz
  have HZA := Lib.hid hzat
  clear hZL hsz hzl hzat
  go_upto_region 2 with (refine wpList_store_mid rfl 39 (.tmp 5) (.tmp 10) rfl _ _ (iv ZL).toArray rfl rfl hth (by rw [HSZ.out]; exact Try.info_block) (all_oneCell_toArray hone) ?_)
  have X1 := X5.below hbd
  have hb1 := hb5'.trans (hbd.mono hs5)
  have hs1 := hb1.size
  have HXD : Bln ((w5.alloc (.cells (iv z64).toArray 39)).setCells w5.heap.size 0 (iv ZL)) w5.heap.size 39 (iv ZL) := XD
  generalize (w5.alloc (.cells (iv z64).toArray 39)).setCells w5.heap.size 0 (iv ZL) = w1 at *
  generalize w5.heap.size = ob at *
  have hob1 := HXD.lt
  have hrb1 := X1.lt
  clear hth hbd hal hone XD X5 X0 hb5 hb5' hb0 hs0 hs5
  have hg1 := HGG.out.below hb1
  have HG1 := Lib.hid hg1
  clear hg1
  go_wp2_with fail
  go_loopw [6, 7] (RkR F T K dcq n G w1) (fun _ ix _ => n - (intOf ix).toNat)
  case atStart => exact ⟨0, Nat.zero_le _, rfl, World.ownsRow_nil _ _ _ _, Below.refl _ _⟩
  case round =>
    obtain ⟨i, hi, rfl, hown, hb⟩ := hrel
    obtain ⟨wi, rfl⟩ : ∃ wi : World, wi = wr := ⟨_, rfl⟩
    by_cases hlt : i < n
    · have dl : decide (i < n) = true := decide_eq_true hlt
      obtain ⟨Av, cv, hve, _, hcm, _⟩ := own_sliceN hown
      subst hve
      obtain ⟨x, b1, o1, hx, hxm, hx64, hxI, rfl, hb1x, hrg⟩ := (HG1.out.below hb).at_ hlt
      have hxg := HGL.out x hxm
      have HX := Lib.hid hx
      have HXL := Lib.hid hx64
      have HXG := Lib.hid hxg
      have hal : ∀ W : World, W.alloc (.cells #[.int .i64 0, .int .i64 0, .int .i64 0, .int .i64 0, .int .i64 0, .int .i64 0, .int .i64 0, .int .i64 0, .int .i64 0, .int .i64 0, .int .i64 0, .int .i64 0, .int .i64 0, .int .i64 0, .int .i64 0, .int .i64 0, .int .i64 0, .int .i64 0, .int .i64 0, .int .i64 0, .int .i64 0, .int .i64 0, .int .i64 0, .int .i64 0, .int .i64 0, .int .i64 0, .int .i64 0, .int .i64 0, .int .i64 0, .int .i64 0, .int .i64 0, .int .i64 0, .int .i64 0, .int .i64 0, .int .i64 0, .int .i64 0, .int .i64 0, .int .i64 0, .int .i64 0, .int .i64 0, .int .i64 0, .int .i64 0, .int .i64 0, .int .i64 0, .int .i64 0, .int .i64 0, .int .i64 0, .int .i64 0, .int .i64 0, .int .i64 0, .int .i64 0, .int .i64 0, .int .i64 0, .int .i64 0, .int .i64 0, .int .i64 0, .int .i64 0, .int .i64 0, .int .i64 0, .int .i64 0, .int .i64 0, .int .i64 0, .int .i64 0, .int .i64 0] 70) = W.alloc (.cells (iv z64).toArray 70) := fun _ => rfl
      obtain ⟨XG, hbG⟩ := Bln.copy wi 70 (iv z64) (iv x) (by rw [iv_len, iv_len, hx64]; rfl)
      have hth : (wi.alloc (.cells (iv z64).toArray 70)).there wi.heap.size 0 (iv x).toArray.size := by
        have h := (Nb.new wi).there x hx64
        simpa using h
      have hone := one_iv x
      have hsz : (iv x).toArray.size = 64 := (iv_len x).trans hx64
      have HSZ2 := Lib.hid hsz
      have hi0 : (0 : Int) ≤ (i : Int) := by omega
      have hi1 : (i : Int) < (n : Int) := by omega
      clear hx hxm hx64 hxI hxg hsz hb1x
      go_upto_region 7 with (first | refine wpList_load_mid rfl 70 (.tmp 19) rfl _ _ rfl (iv x) _ hrg Try.underlying70 rfl (by rw [iv_len, HXL.out]; kernel_rfl) ?_ | refine wpList_store_mid rfl 70 (.tmp 8) (.tmp 20) rfl _ _ (iv x).toArray rfl rfl hth (by rw [HSZ2.out]; kernel_rfl) (all_oneCell_toArray hone) ?_)
      have hown4 := own_keepN hown hbG
      have hs1i := hb.size
      have hb4 := hb.trans (hbG.mono hs1i)
      have hvlt := fun k hk => (hown.lt k hk).2
      generalize (wi.alloc (.cells (iv z64).toArray 70)).setCells wi.heap.size 0 (iv x) = w4 at *
      generalize wi.heap.size = gx at *
      have hgx4 := XG.lt
      have hs4 := hb4.size
      clear hth hbG hrg hal hown hb
      have X4 : Bln w4 rb 33 [.int .i64 (F : Nat), .int .i64 (T : Nat), .int .i64 h, .int .i64 (K : Nat)] := (hb4.block rb hrb1).trans X1
      have D4 : Bln w4 ob 39 (iv ZL) := (hb4.block ob hob1).trans HXD
      have y0 := X4.cell (i := 0) (u := .int .i64 (F : Nat)) rfl
      have hrbx : rb ≠ gx := by omega
      have hobx : ob ≠ gx := by omega
      go_upto_region 8 with fail
      clear y0
      go_loopw [9] (RkQ F K N gx dcq x w4) (fun kv _ => F + N - (intOf kv).toNat)
      case atStart => exact ⟨0, F, Nat.zero_le _, rfl, rfl, XG, Fr.refl _ _⟩
      case round =>
        obtain ⟨j, k, hj, hkj, rfl, XJ, hf⟩ := hrel
        obtain ⟨wj, rfl⟩ : ∃ wj : World, wj = wr := ⟨_, rfl⟩
        have X6 := X4.keep hf (fun e => hrbx e)
        have D6 := D4.keep hf (fun e => hobx e)
        have y0 := X6.cell (i := 0) (u := .int .i64 (F : Nat)) rfl
        have y1 := X6.cell (i := 1) (u := .int .i64 (T : Nat)) rfl
        have y3 := X6.cell (i := 3) (u := .int .i64 (K : Nat)) rfl
        by_cases hlj : j < N
        · have dj : decide (k ≤ T) = true := decide_eq_true (by omega)
          have hzb := zzN_bd (F + j) (by omega)
          have cz1 := D6.cell (HZA.out k (by omega))
          have hxl : (knG x F (K : Nat) dcq j).length = 64 := by rw [knG_len]; exact HXL.out
          have cg := XJ.cell (i := zzN (F + j)) (ivs_get (by rw [hxl]; exact hzb.1))
          have hgd : (knG x F (K : Nat) dcq j).getD (zzN (F + j)) 0 = x.getD (zzN (F + j)) 0 := knG_at x F (K : Nat) dcq (show F + j < 64 by omega) j (Nat.le_refl _)
          rw [hgd] at cg
          have fg := XJ.fz (i := zzN (F + j)) (by rw [iv_len, hxl]; exact hzb.1)
          obtain ⟨z, hz⟩ : ∃ z, z = zzN (F + j) := ⟨_, rfl⟩
          obtain ⟨vx, hvx⟩ : ∃ v, v = x.getD z 0 := ⟨_, rfl⟩
          have hvb1 : -1024 ≤ vx ∧ vx ≤ 1023 := by
            rw [hvx, hz]; exact tn_bd HXL.out HXG.out F (K : Nat) j (by omega)
          have htl := tl_low2 (l := (K : Int)) hvb1.1 hvb1.2 dcq
          have htb := tl_bd (n := vx) (K : Nat) hvb1.1 hvb1.2 dcq
          rw [← hz] at cg fg hzb
          rw [show zzN k = z from by rw [hkj]; exact hz.symm] at cz1
          rw [← hvx] at cg
          obtain ⟨u, hu⟩ : ∃ u, u = tl vx (K : Nat) dcq := ⟨_, rfl⟩
          have hut := fun W : World => rtell_any vx (K : Int) dcq (by omega) W
          rw [← hu] at htl htb hut
          rw [Int.toNat_natCast] at htl
          have hw1 : IntKind.i64.wrap (u * (2 : Int) ^ K) = u * 2 ^ K := IntWalk.i64_in _ (by omega)
          have hw2 : wrap64 (u * (2 : Int) ^ K) = u * 2 ^ K := by unfold wrap64; omega
          have XN := XJ.set z (.int .i64 (u * 2 ^ K))
          rw [show (iv (knG x F (K : Nat) dcq j)).set z (.int .i64 (u * 2 ^ K)) = iv (knG x F (K : Nat) dcq (j + 1)) from by rw [knG, ← hz, ← hvx, ← hu, Int.toNat_natCast]; simp [iv]] at XN
          have hfn := hf.setCell (p := ⟨gx, z, none⟩) (.inl rfl) (.int .i64 (u * 2 ^ K))
          have HXN := Lib.hid XN
          have HSN := Lib.hid hfn
          have HUT := Lib.hid hut
          have HF0 := Lib.hid (Fr.refl (fun b => b = gx) wj)
          have hQS : ∀ (W : World) (q : Nat) (y : Value), (Fr (fun b => b = gx) wj W ∧ W.cell? ⟨ob, k, none⟩ = some (.int .i64 (z : Nat)) ∧ W.cell? ⟨rb, 0, none⟩ = some (.int .i64 (F : Nat)) ∧ W.cell? ⟨rb, 3, none⟩ = some (.int .i64 (K : Nat))) → (Fr (fun b => b = gx) wj (W.setCell ⟨gx, q, none⟩ y) ∧ (W.setCell ⟨gx, q, none⟩ y).cell? ⟨ob, k, none⟩ = some (.int .i64 (z : Nat)) ∧ (W.setCell ⟨gx, q, none⟩ y).cell? ⟨rb, 0, none⟩ = some (.int .i64 (F : Nat)) ∧ (W.setCell ⟨gx, q, none⟩ y).cell? ⟨rb, 3, none⟩ = some (.int .i64 (K : Nat))) := fun W q y p => by
            have h2 := p.1.setCell (p := ⟨gx, q, none⟩) (.inl rfl) y
            exact ⟨h2, (h2.cell (p := ⟨ob, k, none⟩) D6.lt (fun e => hobx e)).trans cz1, (h2.cell (p := ⟨rb, 0, none⟩) X6.lt (fun e => hrbx e)).trans y0, (h2.cell (p := ⟨rb, 3, none⟩) X6.lt (fun e => hrbx e)).trans y3⟩
          have HQS := Lib.hid hQS
          have hz0 : (0 : Int) ≤ (z : Int) := by omega
          have hz1 : (z : Int) < 64 := by omega
          have hj0 : (0 : Int) ≤ (k : Int) := by omega
          have hj1 : (k : Int) < 64 := by omega
          have HKJ := Lib.hid hkj
          clear hQS hut hfn XN hu hvx hz hgd hxl XJ hf X6 D6 hkj
          go_upto_region 10 with fail
          refine wp_region_held_drew (S := (fun W : World => Fr (fun b => b = gx) wj W ∧ W.cell? ⟨ob, k, none⟩ = some (.int .i64 (z : Nat)) ∧ W.cell? ⟨rb, 0, none⟩ = some (.int .i64 (F : Nat)) ∧ W.cell? ⟨rb, 3, none⟩ = some (.int .i64 (K : Nat)))) (by kernel_rfl) ⟨HF0.out.drew, cz1, y0, y3⟩ (fun hHeld => ?_)
          refine wpAnyH_take (i := 0) (oi := { dst := some 29, op := Op.move (Operand.tmp 9), type := 3, pos := _, after := _, guard := none }) (v := Value.int .i64 (k : Nat)) rfl (by kernel_rfl) (by kernel_rfl) (by kernel_rfl) (fun _ _ _ h => h) (Or.inl ⟨by rfl, fun w hSw => by go_simp⟩) hHeld ?_
          simp only [Act.put, List.setIfInBounds_toArray, List.set_cons_zero, List.set_cons_succ]
          refine wpAnyH_take (i := 1) (oi := { dst := some 30, op := Op.indexAddr 39 (Operand.tmp 5) (Operand.tmp 29), type := 0, pos := _, after := _, guard := none }) (v := Value.pointer (some ⟨ob, k, none⟩)) rfl (by kernel_rfl) (by kernel_rfl) (by kernel_rfl) (fun _ _ _ h => h) (Or.inl ⟨by rfl, fun w hSw => by go_simp⟩) hHeld ?_
          simp only [Act.put, List.setIfInBounds_toArray, List.set_cons_zero, List.set_cons_succ]
          refine wpAnyH_take (i := 2) (oi := { dst := some 31, op := Op.load 3 (Operand.tmp 30), type := 3, pos := _, after := _, guard := none }) (v := Value.int .i64 (z : Nat)) rfl (by kernel_rfl) (by kernel_rfl) (by kernel_rfl) (fun _ _ _ h => h) (Or.inl ⟨by rfl, fun w hSw => by go_simp⟩) hHeld ?_
          simp only [Act.put, List.setIfInBounds_toArray, List.set_cons_zero, List.set_cons_succ]
          refine wpAnyH_take (i := 3) (oi := { dst := some 32, op := Op.move (Operand.tmp 9), type := 3, pos := _, after := _, guard := none }) (v := Value.int .i64 (k : Nat)) rfl (by kernel_rfl) (by kernel_rfl) (by kernel_rfl) (fun _ _ _ h => h) (Or.inl ⟨by rfl, fun w hSw => by go_simp⟩) hHeld ?_
          simp only [Act.put, List.setIfInBounds_toArray, List.set_cons_zero, List.set_cons_succ]
          refine wpAnyH_take (i := 4) (oi := { dst := some 33, op := Op.indexAddr 39 (Operand.tmp 5) (Operand.tmp 32), type := 0, pos := _, after := _, guard := none }) (v := Value.pointer (some ⟨ob, k, none⟩)) rfl (by kernel_rfl) (by kernel_rfl) (by kernel_rfl) (fun _ _ _ h => h) (Or.inl ⟨by rfl, fun w hSw => by go_simp⟩) hHeld ?_
          simp only [Act.put, List.setIfInBounds_toArray, List.set_cons_zero, List.set_cons_succ]
          refine wpAnyH_take (i := 5) (oi := { dst := some 34, op := Op.load 3 (Operand.tmp 33), type := 3, pos := _, after := _, guard := none }) (v := Value.int .i64 (z : Nat)) rfl (by kernel_rfl) (by kernel_rfl) (by kernel_rfl) (fun _ _ _ h => h) (Or.inl ⟨by rfl, fun w hSw => by go_simp⟩) hHeld ?_
          simp only [Act.put, List.setIfInBounds_toArray, List.set_cons_zero, List.set_cons_succ]
          refine wpAnyH_take (i := 6) (oi := { dst := some 35, op := Op.indexAddr 70 (Operand.tmp 8) (Operand.tmp 34), type := 0, pos := _, after := _, guard := none }) (v := Value.pointer (some ⟨gx, z, none⟩)) rfl (by kernel_rfl) (by kernel_rfl) (by kernel_rfl) (fun _ _ _ h => h) (Or.inl ⟨by rfl, fun w hSw => by go_simp⟩) hHeld ?_
          simp only [Act.put, List.setIfInBounds_toArray, List.set_cons_zero, List.set_cons_succ]
          refine wpAnyH_take (i := 8) (oi := { dst := some 37, op := Op.fieldAddr 33 (Operand.tmp 3) 3, type := 0, pos := _, after := _, guard := none }) (v := Value.pointer (some ⟨rb, 3, none⟩)) rfl (by kernel_rfl) (by kernel_rfl) (by kernel_rfl) (fun _ _ _ h => h) (Or.inl ⟨by rfl, fun w hSw => by go_simp⟩) hHeld ?_
          simp only [Act.put, List.setIfInBounds_toArray, List.set_cons_zero, List.set_cons_succ]
          refine wpAnyH_take (i := 9) (oi := { dst := some 38, op := Op.load 3 (Operand.tmp 37), type := 3, pos := _, after := _, guard := none }) (v := Value.int .i64 (K : Nat)) rfl (by kernel_rfl) (by kernel_rfl) (by kernel_rfl) (fun _ _ _ h => h) (Or.inl ⟨by rfl, fun w hSw => by go_simp⟩) hHeld ?_
          simp only [Act.put, List.setIfInBounds_toArray, List.set_cons_zero, List.set_cons_succ]
          refine wpAnyH_take (i := 10) (oi := { dst := some 39, op := Op.fieldAddr 33 (Operand.tmp 3) 0, type := 0, pos := _, after := _, guard := none }) (v := Value.pointer (some ⟨rb, 0, none⟩)) rfl (by kernel_rfl) (by kernel_rfl) (by kernel_rfl) (fun _ _ _ h => h) (Or.inl ⟨by rfl, fun w hSw => by go_simp⟩) hHeld ?_
          simp only [Act.put, List.setIfInBounds_toArray, List.set_cons_zero, List.set_cons_succ]
          refine wpAnyH_take (i := 11) (oi := { dst := some 40, op := Op.load 3 (Operand.tmp 39), type := 3, pos := _, after := _, guard := none }) (v := Value.int .i64 (F : Nat)) rfl (by kernel_rfl) (by kernel_rfl) (by kernel_rfl) (fun _ _ _ h => h) (Or.inl ⟨by rfl, fun w hSw => by go_simp⟩) hHeld ?_
          simp only [Act.put, List.setIfInBounds_toArray, List.set_cons_zero, List.set_cons_succ]
          refine wpAnyH_take (i := 12) (oi := { dst := some 41, op := Op.binOp BinOp.eql 3 (Operand.tmp 40) (Operand.const (Value.int IntKind.i64 0)) 3, type := 4, pos := _, after := _, guard := none }) (v := Value.bool dcq) rfl (by kernel_rfl) (by kernel_rfl) (by kernel_rfl) (fun _ _ _ h => h) (Or.inl ⟨by rfl, fun w hSw => by go_simp⟩) hHeld ?_
          simp only [Act.put, List.setIfInBounds_toArray, List.set_cons_zero, List.set_cons_succ]
          refine wpAnyH_take (i := 14) (oi := { dst := some 43, op := Op.fieldAddr 33 (Operand.tmp 3) 3, type := 0, pos := _, after := _, guard := none }) (v := Value.pointer (some ⟨rb, 3, none⟩)) rfl (by kernel_rfl) (by kernel_rfl) (by kernel_rfl) (fun _ _ _ h => h) (Or.inl ⟨by rfl, fun w hSw => by go_simp⟩) hHeld ?_
          simp only [Act.put, List.setIfInBounds_toArray, List.set_cons_zero, List.set_cons_succ]
          refine wpAnyH_take (i := 15) (oi := { dst := some 44, op := Op.load 3 (Operand.tmp 43), type := 3, pos := _, after := _, guard := none }) (v := Value.int .i64 (K : Nat)) rfl (by kernel_rfl) (by kernel_rfl) (by kernel_rfl) (fun _ _ _ h => h) (Or.inl ⟨by rfl, fun w hSw => by go_simp⟩) hHeld ?_
          simp only [Act.put, List.setIfInBounds_toArray, List.set_cons_zero, List.set_cons_succ]
          refine wpAnyH_ready (rs := [7]) (by kernel_rfl) (by simp) ?_
          refine AllReadyH.cons (o := { dst := some 36, op := Op.load 3 (Operand.tmp 35), type := 3, pos := _, after := _, guard := none }) rfl (fun K' hK => ?_) AllReadyH.nil
          rw [if_pos (by rfl)]
          go_simp
          refine hK.out _ _ hHeld (fun _ => ?_)
          clear hK K'
          refine wpAnyH_ready (rs := [13]) (by kernel_rfl) (by simp) ?_
          refine AllReadyH.cons (o := { dst := some 42, op := Op.call { callee := Callee.value (Operand.func 91), args := #[Operand.tmp 36, Operand.tmp 38, Operand.tmp 41], argTypes := #[3, 3, 4] }, type := 3, pos := _, after := _, guard := none }) rfl (fun K' hK => ?_) AllReadyH.nil
          rw [if_pos (by rfl)]
          go_simp
          refine (HUT.out _).mono ?_
          rintro e w' ⟨rfl, rfl⟩
          refine hK.out _ _ hHeld (fun _ => ?_)
          clear hK K'
          refine wpAnyH_ready (rs := [16]) (by kernel_rfl) (by simp) ?_
          refine AllReadyH.cons (o := { dst := some 45, op := Op.call { callee := Callee.value (Operand.func 122), args := #[Operand.tmp 44], argTypes := #[3] }, type := 3, pos := _, after := _, guard := none }) rfl (fun K' hK => ?_) AllReadyH.nil
          rw [if_pos (by rfl)]
          go_simp
          refine (HPW.out _).mono ?_
          rintro e w' ⟨rfl, rfl⟩
          refine hK.out _ _ hHeld (fun _ => ?_)
          clear hK K'
          refine wpAnyH_take (i := 17) (oi := { dst := some 46, op := Op.binOp BinOp.mul 3 (Operand.tmp 42) (Operand.tmp 45) 3, type := 3, pos := _, after := _, guard := none }) (v := Value.int .i64 (u * 2 ^ K)) rfl (by kernel_rfl) (by kernel_rfl) (by kernel_rfl) (fun _ _ _ h => h) (Or.inl ⟨by rfl, fun w hSw => by go_simp⟩) hHeld ?_
          simp only [Act.put, List.setIfInBounds_toArray, List.set_cons_zero, List.set_cons_succ]
          refine wpAnyH_take (i := 18) (oi := { dst := some 47, op := Op.indexAddr 70 (Operand.tmp 8) (Operand.tmp 31), type := 0, pos := _, after := _, guard := none }) (v := Value.pointer (some ⟨gx, z, none⟩)) rfl (by kernel_rfl) (by kernel_rfl) (by kernel_rfl) (fun _ _ _ h => h) (Or.inl ⟨by rfl, fun w hSw => by go_simp⟩) hHeld ?_
          simp only [Act.put, List.setIfInBounds_toArray, List.set_cons_zero, List.set_cons_succ]
          refine wpAnyH_ready (rs := [19]) (by kernel_rfl) (by simp) ?_
          refine AllReadyH.cons (o := { dst := none, op := Op.store 3 (Operand.tmp 47) (Operand.tmp 46), type := 0, pos := _, after := _, guard := none }) rfl (fun K' hK => ?_) AllReadyH.nil
          rw [if_pos (by rfl)]
          go_simp
          refine hK.out _ _ (HQS.out _ _ _ hHeld) (fun _ => ?_)
          clear hK K'
          refine wpAnyH_done (by kernel_rfl) ?_ _
          clear cz1 y0 y1 y3 cg fg
          go_wp2_with fail
          go_roundw
          case rel => exact ⟨j + 1, k + 1, by omega, by have := HKJ.out; omega, by go_num, HXN.out, HSN.out.drew⟩
          case measure => have h9 := HKJ.out; simp [intOf]; omega
        · have dj : decide (k ≤ T) = false := decide_eq_false (by omega)
          have hjN : j = N := by omega
          have hkb : knG x F (K : Nat) dcq j = knB F T (K : Nat) dcq x := by unfold knB; rw [hjN, HN.out]
          rw [hkb] at XJ
          obtain ⟨y, hy⟩ : ∃ y, y = knB F T (K : Nat) dcq x := ⟨_, rfl⟩
          rw [← hy] at XJ
          have hy64 : y.length = 64 := by rw [hy]; unfold knB; rw [knG_len]; exact HXL.out
          have HY := Lib.hid hy
          have HYL := Lib.hid hy64
          clear hkb hy hy64 hjN
          have hrx := XJ.range 0 (iv y) (fun j v hv => by rw [Nat.zero_add]; exact hv)
          have hfo : List.foldl (fun (cs : Array Value) (x : Value × Nat) => cs.setIfInBounds x.2 x.1) #[.int .i64 0, .int .i64 0, .int .i64 0, .int .i64 0, .int .i64 0, .int .i64 0, .int .i64 0, .int .i64 0, .int .i64 0, .int .i64 0, .int .i64 0, .int .i64 0, .int .i64 0, .int .i64 0, .int .i64 0, .int .i64 0, .int .i64 0, .int .i64 0, .int .i64 0, .int .i64 0, .int .i64 0, .int .i64 0, .int .i64 0, .int .i64 0, .int .i64 0, .int .i64 0, .int .i64 0, .int .i64 0, .int .i64 0, .int .i64 0, .int .i64 0, .int .i64 0, .int .i64 0, .int .i64 0, .int .i64 0, .int .i64 0, .int .i64 0, .int .i64 0, .int .i64 0, .int .i64 0, .int .i64 0, .int .i64 0, .int .i64 0, .int .i64 0, .int .i64 0, .int .i64 0, .int .i64 0, .int .i64 0, .int .i64 0, .int .i64 0, .int .i64 0, .int .i64 0, .int .i64 0, .int .i64 0, .int .i64 0, .int .i64 0, .int .i64 0, .int .i64 0, .int .i64 0, .int .i64 0, .int .i64 0, .int .i64 0, .int .i64 0, .int .i64 0] (iv y).zipIdx = (iv y).toArray := fold_all _ _ (by rw [iv_len, HYL.out]; rfl)
          have hivl : (iv y).length = 64 := by rw [iv_len, HYL.out]
          obtain ⟨j0, zb, hj0, hy0, hy1, hy2, hy3, _⟩ := info_blk23
          have hbb : Below wj.heap.size wj (wj.alloc (.cells (iv y).toArray 70)) := (Below.refl _ _).alloc (Nat.le_refl _) _
          have hown5 := hf.ownN hown4 (fun k hk e => by have := hvlt k hk; omega)
          have hoa := own_keepN hown5 hbb
          have hsj := hf.size
          have hsza : w1.heap.size ≤ (wj.alloc (.cells (iv y).toArray 70)).heap.size := by have := hbb.size; omega
          have hone2 := one_iv y
          have hbj := hb4.trans (hf.below (fun k hk e => by omega) hs4)
          go_upto_region 5 with (first | refine wpList_load_mid rfl 70 (.tmp 8) rfl _ _ rfl (iv y) _ hrx Try.underlying70 rfl (by rw [iv_len, HYL.out]; kernel_rfl) ?_ | (at_builtin; refine wpList_appN _ rfl (.tmp 48) (.tmp 50) 105 rfl Try.underlying105 hj0 hy0 hy1 hy2 hy3 (by omega) hoa rfl rfl (Rd.newN wj 70 (iv y)) (by rw [hivl]) hone2 (by omega) (by omega) hsza ?_; intro v7 w7 hown7 hap7))
          have hb7 := hbj.trans ((hbb.mono (by omega)).trans (hap7.below (B := w1.heap.size) (fun k hk => by have := (hoa.lt k hk).1; omega) (by omega)))
          have H7 := Lib.hid (And.intro hown7 hb7)
          clear hown7 hb7 hoa hown5 hfo hbb hap7 hbj XJ X6 D6 y0 y1 y3 hrx hf
          go_wp2_with fail
          go_roundw
          case rel =>
            refine ⟨i + 1, by omega, by go_num, ?_, H7.out.2⟩
            have h1 := H7.out.1
            rw [HY.out] at h1
            have h2 : G.take (i + 1) = G.take i ++ [x] := by rw [List.take_add_one, HX.out]; rfl
            rw [h2, List.map_append, List.map_append, List.flatten_append]
            simpa using h1
          case measure => simp [intOf]; omega
    · have dl : decide (i < n) = false := decide_eq_false hlt
      have hin : G.take i = G := List.take_of_length_le (by rw [HG1.out.len]; omega)
      have hni : i = G.length := by rw [HG1.out.len]; omega
      rw [hin, hni] at hown
      obtain ⟨Av, cv, hve, _, _, _⟩ := own_sliceN hown
      subst hve
      have HOW := Lib.hid hown
      clear hown hin hni
      go_wp2
      go_ret
      exact ⟨_, rfl, own_baseN HOW.out (fun k hk => by have := (HOW.out.lt k hk).1; omega), hb1.trans (hb.mono hs1)⟩
theorem Blk.of_own {w : World} {B : Nat} {A : Option Addr} {n c : Nat} {G : List (List Int)} (h : w.ownsRow B 70 64 (.slice A n c) n (G.map iv).flatten) (hl : G.length = n) (hb : ∀ x ∈ G, x.length = 64 ∧ Is x) : Blk w A n G := by
  obtain ⟨A', c', he, _, _, hR⟩ := own_sliceN h
  injection he with he1
  subst he1
  exact ⟨hl, hR, hb⟩
theorem is_set {l : List Int} (h : Is l) {i : Nat} {v : Int} (hv : -9223372036854775808 ≤ v ∧ v ≤ 9223372036854775807) : Is (l.set i v) := fun y hy => by
  rcases List.mem_or_eq_of_mem_set hy with hy | rfl
  · exact h y hy
  · exact hv
theorem knG_is {x : List Int} (hx : x.length = 64) (hg : GoodB x) (f : Nat) (l : Int) (dc : Bool) : ∀ i, f + i ≤ 64 → Is (knG x f l dc i)
  | 0, _ => goodB_is hx hg
  | i + 1, h => by
    have hb := tn_bd hx hg f l i (by omega)
    have := tl_low2 (l := l) hb.1 hb.2 dc
    exact is_set (knG_is hx hg f l dc i (by omega)) (by omega)
set_option maxHeartbeats 4000000 in
theorem blocks22_any (A : Option Addr) (n c : Nat) (G : List (List Int)) (w : World) (h : Blk w A n G) (hm : n ≤ 2000000) :
    Calls Try.prog 73 #[.slice A n c] w (BoolP (gL G) w) := by
  have HG := Lib.hid h
  clear h
  go_enter Try.func73, Try.ntmps73
  go_wp2
  go_loopw [3] (fun i wr => ∃ k : Nat, k ≤ n ∧ i = .int .i64 k ∧ (∀ x ∈ G.take k, GoodB x) ∧ Below w.heap.size w wr) (fun i _ => n - (intOf i).toNat)
  case atStart => exact ⟨0, Nat.zero_le _, rfl, fun x hx => by simp at hx, Below.refl _ _⟩
  case round =>
    obtain ⟨k, hk, rfl, hok, hb⟩ := hrel
    have HOK := Lib.hid hok
    obtain ⟨wi, rfl⟩ : ∃ wi : World, wi = wr := ⟨_, rfl⟩
    clear hok
    by_cases hlt : k < n
    · obtain ⟨x, b1, o1, hx, hxm, hx64, hxI, rfl, hb1, hrg⟩ := (HG.out.below hb).at_ hlt
      have hk0 : (0 : Int) ≤ (k : Int) := by omega
      have hk1 : (k : Int) < (n : Int) := by omega
      have HXL := Lib.hid hx64
      have htk : G.take (k + 1) = G.take k ++ [x] := by rw [List.take_add_one, hx]; rfl
      have HTK := Lib.hid htk
      have HXM := Lib.hid hxm
      clear hx hxm hx64 hxI htk hb1
      by_cases hg : GoodB x
      · have HGG := Lib.hid hg
        go_wp2_with (refine wpList_load_mid rfl 70 (.tmp 12) rfl _ _ rfl (iv x) _ hrg Try.underlying70 rfl (by rw [iv_len, HXL.out]; kernel_rfl) ?_)
        refine (good_any x HXL.out true ⟨fun _ => hg, fun _ => rfl⟩ wi).mono ?_; rintro e w1 ⟨rfl, hb1⟩
        clear hrg hg
        go_wp2
        go_roundw
        case rel =>
          refine ⟨k + 1, by omega, by go_num, fun y hy => ?_, hb.trans (hb1.mono hb.size)⟩
          rw [HTK.out] at hy
          rcases List.mem_append.1 hy with hy | hy
          · exact HOK.out y hy
          · rw [List.mem_singleton.1 hy]; exact HGG.out
        case measure => simp [intOf]; omega
      · have HGG := Lib.hid hg
        go_wp2_with (refine wpList_load_mid rfl 70 (.tmp 12) rfl _ _ rfl (iv x) _ hrg Try.underlying70 rfl (by rw [iv_len, HXL.out]; kernel_rfl) ?_)
        refine (good_any x HXL.out false ⟨fun q => absurd q (by decide), fun q => absurd q hg⟩ wi).mono ?_; rintro e w1 ⟨rfl, hb1⟩
        clear hrg hg
        go_wp2
        go_ret
        exact ⟨ret_bool (gL_f fun q => HGG.out (q x HXM.out)).symm, hb.trans (hb1.mono hb.size)⟩
    · have htl : G.take k = G := List.take_of_length_le (by rw [HG.out.len]; omega)
      rw [htl] at HOK
      go_wp2
      go_ret
      exact ⟨ret_bool (gL_t HOK.out).symm, hb⟩
end Go.Proofs.Ytlhappecjjbopaa
