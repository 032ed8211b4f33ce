/-
  canon's All: the iterator over a book's symbols, by a contract. No condition.
-/
import Derived.Test.YtlhappecjjbopaaCbN
namespace Go.Proofs.Ytlhappecjjbopaa
open Go.RowKit Go.Shelf
set_option linter.unusedVariables false
set_option maxRecDepth 100000
attribute [local go_sem] Oper.semAt_some

/-- a book's symbols, and how long their codes are -/
def prs (ls : List Int) (O : List Nat) : List (Int × Int) := O.map fun s : Nat => ((s : Int), ls.getD s 0)
theorem prs_len (ls : List Int) (O : List Nat) : (prs ls O).length = O.length := by simp [prs]
theorem prs_take {ls : List Int} {O : List Nat} {k s : Nat} (h : O[k]? = some s) : (prs ls O).take (k + 1) = (prs ls O).take k ++ [((s : Int), ls.getD s 0)] := by
  rw [List.take_add_one, prs, List.getElem?_map, h]; rfl
theorem prs_at {ls : List Int} {O : List Nat} {k s : Nat} (h : O[k]? = some s) : (prs ls O)[k]? = some ((s : Int), ls.getD s 0) := by
  rw [prs, List.getElem?_map, h]; rfl
/-- what a round that goes on keeps: all that lay below n₀, and the box -/
def KpA (n₀ B : Nat) (W W' : World) : Prop := Below n₀ W W' ∧ W'.heap[B]? = W.heap[B]?
theorem KpA.trans_ {n₀ B : Nat} {X Y Z : World} (h : KpA n₀ B X Y) (k : KpA n₀ B Y Z) : KpA n₀ B X Z := ⟨h.1.trans k.1, k.2.trans h.2⟩
theorem KpA.put {n₀ B : Nat} {w : World} (hn : n₀ ≤ w.heap.size) (hB : B < w.heap.size) (W : World) (l : Nat) (o o' : Obj) (hl : w.heap.size ≤ l) (h : W.heap[l]? = some o) (h1 : o.isCells = false) (h2 : o.isWalk = false) : KpA n₀ B W (W.putObj l o') :=
  ⟨belowK_b hn W l o o' hl h h1 h2, (grownBy_putObj' W l o').block B (by have := (Array.getElem?_eq_some_iff.1 h).1; omega) (fun e => by cases e; omega)⟩
set_option maxHeartbeats 2000000 in
theorem all1_in (F : Fence) (n : Nat) (h8 : F.fn 105) (hro : F.round = none) (hn : 1 ≤ n) (l Bx n₀ B p : Nat) (ls : List Int) (O : List Nat) (C : List Int) (hO : ∀ s ∈ O, s < ls.length) (h5 : O.length ≤ 512) (h6 : ls.length ≤ 512) (J Jx : List (Int × Int) → World → Prop)
    (hY : ∀ pre x W, J pre W → pre.length < O.length → YieldAt F (n - 1) Try.prog l #[.int .i64 x.1, .int .i64 x.2] W fun e W' =>
      (e = .returned (.bool true) ∧ J (pre ++ [x]) W' ∧ KpA n₀ Bx W W') ∨ (e = .returned (.bool false) ∧ Jx (pre ++ [x]) W'))
    (W : World) (hBx : Boxed W Bx 63 (.pointer (some ⟨p, 0, none⟩))) (hK : BkS W B p ls O C) (hBn : B ≤ n₀) (h0 : J [] W) :
    CallsIn F n Try.prog 105 #[.func (.yield l) #[] #[], .pointer (some ⟨Bx, 0, none⟩)] W fun e W' => (∃ v, e = .returned v) ∧
      ((∃ ys, ys = prs ls O ∧ J ys W') ∨ (∃ pre, pre <+: prs ls O ∧ Jx pre W')) := by
  obtain ⟨w0, hk0, rfl, hbk⟩ := hK
  obtain ⟨Ao, co, y2, hRo⟩ := hk0.ord
  obtain ⟨Al, cl, y0, hRl⟩ := hk0.len
  have hpl := hk0.plt
  have hc := hBx.cell
  have e2 := (hbk.cell (p := ⟨p, 2, none⟩) hpl).trans y2
  generalize hnn : O.length = nn at *
  generalize hll : ls.length = ll at *
  have HNN := Lib.hid hnn
  have HLL := Lib.hid hll
  have HO := Lib.hid hO
  clear hnn hll hO hk0
  refine callsIn_of_wp Try.func105 rfl h8 ?_ hro
  simp only [Try.ntmps105, List.size_toArray, List.length_cons, List.length_nil, Nat.reduceAdd, Nat.reduceSub, Array.replicate_succ, Array.replicate_zero, List.push_toArray, List.append_toArray, List.nil_append, List.cons_append]
  gi_wp2
  gi_loopw [12] (fun i wr => ∃ k : Nat, k ≤ nn ∧ i = .int .i64 k ∧ J ((prs ls O).take k) wr ∧ KpA n₀ Bx W wr) (fun i _ => nn - (intOf i).toNat)
  case atStart => exact ⟨0, Nat.zero_le _, rfl, by simpa using h0, Below.refl _ _, rfl⟩
  case round =>
    obtain ⟨k, hk, rfl, hJs, hnx⟩ := hrel
    have hb0 := hbk.trans (hnx.1.mono hBn)
    by_cases hlt : k < nn
    · obtain ⟨s, hOs⟩ : ∃ s, O[k]? = some s := ⟨O[k]'(by rw [HNN.out]; exact hlt), List.getElem?_eq_getElem _⟩
      have hsl := HO.out s (List.mem_of_getElem? hOs)
      obtain ⟨bo, oo, rfl, hbo, hco⟩ := hRo.at_ (k := k) (by rw [nv_len, HNN.out]; exact hlt)
      have cO := (hb0.cell (p := ⟨bo, oo + k, none⟩) hbo).trans (hco k _ (nv_get hOs))
      obtain ⟨bl, ol, rfl, hbl, hcl⟩ := hRl.at_ (k := s) (by rw [iv_len, HLL.out]; exact hsl)
      have cL := (hb0.cell (p := ⟨bl, ol + s, none⟩) hbl).trans (hcl s _ (ivs_get (by rw [HLL.out]; exact hsl)))
      have e0 := (hb0.cell (p := ⟨p, 0, none⟩) hpl).trans y0
      have ex : wr.cell? ⟨Bx, 0, none⟩ = some (.pointer (some ⟨p, 0, none⟩)) := Boxed.cell (hnx.2.trans hBx)
      have htk := prs_take (ls := ls) hOs
      obtain ⟨v, hv⟩ : ∃ v, v = ls.getD s 0 := ⟨_, rfl⟩
      rw [← hv] at cL htk
      obtain ⟨fn, tmps, assign, body, hy, hR⟩ := hY _ ((s : Int), v) wr hJs (by rw [List.length_take, prs_len, HNN.out]; omega)
      dsimp only at hy
      have HTK := Lib.hid htk
      have hs0 : (0 : Int) ≤ (s : Int) := by omega
      have hs1 : (s : Int) < (ll : Int) := by omega
      have hk0 : (0 : Int) ≤ (k : Int) := by omega
      have hk1 : (k : Int) < (nn : Int) := by omega
      clear htk hv hOs hco hcl
      gi_wp2
      refine hR.mono ?_
      rintro e W3 (⟨rfl, hJ3, hk3⟩ | ⟨rfl, hJx3⟩)
      · gi_wp2
        go_roundw
        case rel => exact ⟨k + 1, by omega, by go_num, by rw [HTK.out]; exact hJ3, hnx.trans_ hk3⟩
        case measure => simp [intOf]; omega
      · gi_wp2
        refine bodyPost_ret (results_none rfl _ _ _) rfl ?_
        exact ⟨⟨_, rfl⟩, .inr ⟨_, by rw [← HTK.out]; exact List.take_prefix _ _, hJx3⟩⟩
    · obtain rfl : k = nn := by omega
      have htk : (prs ls O).take k = prs ls O := List.take_of_length_le (by rw [prs_len, HNN.out]; omega)
      rw [htk] at hJs
      gi_wp2
      go_end0
      exact ⟨⟨_, rfl⟩, .inl ⟨_, rfl, hJs⟩⟩
theorem all_stops (F : Fence) (n : Nat) (h8 : F.fn 105) (hro : F.round = none) (hn : 1 ≤ n) (Bx n₀ B p : Nat) (ls : List Int) (O : List Nat) (C : List Int) (hO : ∀ s ∈ O, s < ls.length) (h5 : O.length ≤ 512) (h6 : ls.length ≤ 512)
    (w : World) (hBx : Boxed w Bx 63 (.pointer (some ⟨p, 0, none⟩))) (hK : BkS w B p ls O C) (hBn : B ≤ n₀) (hn0 : n₀ ≤ w.heap.size) :
    SeqStopsK F n Try.prog 105 #[.pointer (some ⟨Bx, 0, none⟩)] (fun x : Int × Int => #[Value.int .i64 x.1, Value.int .i64 x.2]) (KpA n₀ Bx) (fun ys => ys = prs ls O) (fun pre => pre <+: prs ls O) O.length w := fun l J Jx W hW _ _ hY h0 =>
  all1_in F n h8 hro hn l Bx n₀ B p ls O C hO h5 h6 J Jx hY W ((hW.block Bx hBx.lt).trans hBx) (hK.keep (hW.mono hK.size)) hBn h0
end Go.Proofs.Ytlhappecjjbopaa
