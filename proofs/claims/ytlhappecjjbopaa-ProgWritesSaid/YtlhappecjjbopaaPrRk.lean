/-
  Prog: the document's reading of a band, by a contract. Conditions: symbols below 256, at most 1000000000 bits, at most 1000 blocks.
-/
import Derived.Test.YtlhappecjjbopaaPrRi
import Derived.Test.YtlhappecjjbopaaPrY
namespace Go.Proofs.Ytlhappecjjbopaa
open Go.ChangeShapes Go.WideShapes Go.ChangeAt Go.WideMaps Go.WideElems Go.RowKit Go.Joins
set_option linter.unusedVariables false
set_option maxRecDepth 100000
theorem keep_r {W W' : World} {S0 : Nat → Prop} {b1 o gb : Nat} {xs : List Value} {a b c d : Value} (hf : Fr S0 W W') (h1 : ¬ S0 b1) (h2 : ¬ S0 gb) (hl : b1 < W.heap.size) (hg : gb < W.heap.size)
    (h : W.rangeAt b1 o xs ∧ W.cell? ⟨gb, 0, none⟩ = some a ∧ W.cell? ⟨gb, 1, none⟩ = some b ∧ W.cell? ⟨gb, 2, none⟩ = some c ∧ W.cell? ⟨gb, 3, none⟩ = some d) :
    W'.rangeAt b1 o xs ∧ W'.cell? ⟨gb, 0, none⟩ = some a ∧ W'.cell? ⟨gb, 1, none⟩ = some b ∧ W'.cell? ⟨gb, 2, none⟩ = some c ∧ W'.cell? ⟨gb, 3, none⟩ = some d :=
  ⟨fun j v hv => (hf.cell (p := ⟨b1, o + j, none⟩) hl h1).trans (h.1 j v hv), (hf.cell (p := ⟨gb, 0, none⟩) hg h2).trans h.2.1, (hf.cell (p := ⟨gb, 1, none⟩) hg h2).trans h.2.2.1, (hf.cell (p := ⟨gb, 2, none⟩) hg h2).trans h.2.2.2.1, (hf.cell (p := ⟨gb, 3, none⟩) hg h2).trans h.2.2.2.2⟩
theorem meas_i {i n : Nat} (h : i < n) : n - (intOf (.int .i64 ((i : Int) + 1))).toNat < n - (intOf (.int .i64 (i : Int))).toNat := by
  simp [intOf]; omega
def Rr22P (R : List (List Int) × Nat × Int) (n : Nat) (w : World) (e : Ending) (w' : World) : Prop :=
  (R.2.2 = 0 → ∃ v, e = .returned (.tuple #[v, .int .i64 (R.2.1 : Nat), .int .i64 0]) ∧ w'.ownsRow w.heap.size 70 64 v n (R.1.map iv).flatten ∧ (∀ x ∈ R.1, x.length = 64) ∧ R.1.length = n) ∧
  (R.2.2 ≠ 0 → e = .returned (.tuple #[.slice none 0 0, .int .i64 0, .int .i64 R.2.2])) ∧ Below w.heap.size w w'
def Rr22R (S Z : List Int) (p : Nat) (v0 : Value) (A : Option Addr) (c : Nat) (L : List Int) (F N : Nat) (h l : Int) (n : Nat) (G : List (List Int)) (R : List (List Int) × Nat × Int) (w5 : World) (p5 : Nat) (ov ix : Value) (wr : World) : Prop :=
  ∃ (i a : Nat) (bad en : Int) (D : List (List Int)), i ≤ n ∧ ix = .int .i64 (i : Nat) ∧ D.length = i ∧ (∀ x ∈ D, x.length = 64) ∧ wr.ownsRow w5.heap.size 70 64 ov i (D.map iv).flatten ∧ Inn wr p v0 A c L a bad en ∧ Fr (fun b => b = p) w5 wr ∧ (bad = 0 ∧ (∃ e : Nat, en = (e : Nat) ∧ e ≤ 1000 ∧ R = cmbR D (rdAll S Z L F N h l (G.drop i) a e)) ∨ bad ≠ 0 ∧ R.2.2 = bad)
set_option maxHeartbeats 32000000 in
theorem rread22_first {A1 A : Option Addr} {n1 c1 c K : Nat} {S Z L : List Int} {w : World} (hS : Cs w K A1 S Z) (hz : Zs Z) (hn1 : Z.length = n1) (hm : n1 ≤ 100000) (hSy : ∀ x ∈ S, 0 ≤ x ∧ x ≤ 255) (hB : B01 L) (hR0 : Rd w w.heap.size A (iv L)) (hA : ∀ q, A = some q → q.block < w.heap.size) (hc : L.length ≤ c ∧ c ≤ 9223372036854775807 ∧ L.length ≤ 1000000000)
    {A2 : Option Addr} {n c2 : Nat} {G : List (List Int)} (hG : Blk w A2 n G) (hn : n ≤ 1000) (F T H Kl : Nat) (hF1 : 1 ≤ F) (hft : F ≤ T) (hT63 : T ≤ 63) (hK9 : Kl ≤ 9) (hh : H = 0) (hgl : GoodL G) {R : List (List Int) × Nat × Int} (hR : rdAll S Z L F (T + 1 - F) (H : Nat) (Kl : Nat) G 0 0 = R) :
    Calls Try.prog 79 #[.slice A1 n1 c1, .slice A L.length c, .slice A2 n c2, .agg #[.int .i64 (F : Nat), .int .i64 (T : Nat), .int .i64 (H : Nat), .int .i64 (Kl : Nat)]] w (Rr22P R G.length w) := by
  have X := Box4.new w 33 (.int .i64 (F : Nat)) (.int .i64 (T : Nat)) (.int .i64 (H : Nat)) (.int .i64 (Kl : Nat))
  have hb0 : Below w.heap.size w (w.alloc (.cells #[.int .i64 (F : Nat), .int .i64 (T : Nat), .int .i64 (H : Nat), .int .i64 (Kl : Nat)] 33)) := (Below.refl _ _).alloc (Nat.le_refl _) _
  obtain ⟨N, hN⟩ : ∃ N, N = T + 1 - F := ⟨_, rfl⟩
  rw [← hN] at hR
  have HN := Lib.hid hN
  have hTN : T + 1 = F + N := by omega
  have hFN : F + N ≤ 64 := by omega
  have HR := Lib.hid hR
  have HGL := Lib.hid hgl
  have HHH := Lib.hid hh
  have HGG := Lib.hid hG
  obtain ⟨j0, zb, hj0, hy0, hy1, hy2, hy3, _⟩ := info_blk23
  clear hN hR hgl hG hh
  go_enter Try.func79, Try.ntmps79
  go_upto_region 1 with fail
  obtain ⟨gb, hgb⟩ : ∃ gb, gb = w.heap.size := ⟨_, rfl⟩
  generalize w.alloc (.cells #[.int .i64 (F : Nat), .int .i64 (T : Nat), .int .i64 (H : Nat), .int .i64 (Kl : Nat)] 33) = w0 at *
  rw [← hgb] at X ⊢
  have HGB := Lib.hid hgb
  have hs0 := hb0.size
  have hgb0 := X.lt
  have hgw1 : gb ≤ w.heap.size := by omega
  have hgw2 : w.heap.size ≤ gb := by omega
  have I0 := Inn.new_ (w := w0) (v0 := .slice A1 n1 c1) ((hR0.below hb0).more hb0.size) (fun q hq => by have := hA q hq; omega) hc
  have hba : Below w0.heap.size w0 (w0.alloc (.cells #[.slice A1 n1 c1, .slice A L.length c, .int .i64 0, .int .i64 0, .int .i64 0] 175)) := (Below.refl _ _).alloc (Nat.le_refl _) _
  have X5 := X.below hba X.lt
  clear hgb
  go_upto_region 2 with fail
  obtain ⟨p, hp⟩ : ∃ q, q = w0.heap.size := ⟨_, rfl⟩
  rw [← hp] at I0 ⊢
  generalize w0.alloc (.cells #[.slice A1 n1 c1, .slice A L.length c, .int .i64 0, .int .i64 0, .int .i64 0] 175) = w5 at *
  have hb5 := hb0.trans (hba.mono hs0)
  have hs5 := hb5.size
  have hpl := I0.lt
  have hp1 : p ≤ w0.heap.size := by omega
  have hp2 : w0.heap.size ≤ p := by omega
  have hgb5 := X5.lt
  have hAl : ∀ q, A = some q → q.block < w.heap.size := hA
  have hS5 := hS.keep (hb5.mono hS.size)
  have hKw : K ≤ w.heap.size := hS.size
  have hlen := HGG.out.len
  have HLEN := Lib.hid hlen
  have hln1 : G.length ≤ n := by omega
  have hln2 : n ≤ G.length := by omega
  have H0 := Lib.hid (show Rr22R S Z p (.slice A1 n1 c1) A c L F N (H : Nat) (Kl : Nat) n G R w5 p (.slice none 0 0) (.int .i64 0) w5 from
    ⟨0, 0, 0, 0, [], Nat.zero_le _, rfl, rfl, (fun q hq => by cases hq), World.ownsRow_nil _ _ _ _, I0, Fr.refl _ _, .inl ⟨rfl, 0, rfl, Nat.zero_le _, (by
      rw [List.drop_zero, HR.out]; unfold cmbR
      by_cases h9 : R.2.2 = 0
      · rw [if_neg (by simpa using h9), List.nil_append]
        obtain ⟨R1, R2, R3⟩ := R
        dsimp only at h9
        rw [h9]
      · rw [if_pos h9, ← HR.out]
        exact (rdAll_err _ _ _ _ _ _ _ _ _ _ (by rw [HR.out]; exact h9)).symm)⟩⟩)
  clear hp X hba I0 hA hR0 hlen hb0 hS
  go_wp2_with fail
  go_loopw [12, 13] (Rr22R S Z p (.slice A1 n1 c1) A c L F N (H : Nat) (Kl : Nat) n G R w5 p) (fun _ ix _ => n - (intOf ix).toNat)
  case atStart => exact H0.out
  case round =>
    clear H0
    obtain ⟨i, a, bad, en, D, hi, rfl, hD, hD64, hown, Ii, fi, hcase⟩ := hrel
    obtain ⟨wi, rfl⟩ : ∃ wi : World, wi = wr := ⟨_, rfl⟩
    have c3 := Ii.c3
    have hfsz := fi.size
    have hbi := fi.below (B := w.heap.size) (fun k hk e => by omega) (by omega)
    have hbiw : Below w.heap.size w wi := hb5.trans hbi
    have Xi : Box4 wi gb (.int .i64 (F : Nat)) (.int .i64 (T : Nat)) (.int .i64 (H : Nat)) (.int .i64 (Kl : Nat)) := X5.fr fi (fun e => by omega)
    by_cases hlt : i < n
    · have dl : decide (i < n) = true := decide_eq_true hlt
      rcases hcase with ⟨rfl, e0, rfl, he01, hRc⟩ | ⟨hbad, hRb⟩
      · obtain ⟨Av, cv, hve, _, hcm, _⟩ := own_sliceN hown
        subst hve
        obtain ⟨x, b1, o1, hx, hxm, hx64, hxI, rfl, hb1x, hrg⟩ := (HGG.out.below hbiw).at_ hlt
        have hb1w : b1 < w.heap.size := by
          obtain ⟨x', b1', o1', _, _, _, _, hA9, hb9, _⟩ := HGG.out.at_ hlt
          injection hA9 with hA9; injection hA9 with h1 h2
          rw [h1]; exact hb9
        have hxg := HGL.out x hxm
        have hdr : G.drop i = x :: G.drop (i + 1) := by
          have hlG : i < G.length := by omega
          rw [List.drop_eq_getElem_cons hlG]
          rw [List.getElem?_eq_getElem hlG] at hx
          injection hx with hx
          rw [hx]
        obtain ⟨lf, hlf⟩ : ∃ q, q = n - i := ⟨_, rfl⟩
        have hlfi : (n : Int) - (i : Int) = (lf : Int) := by omega
        have hlf1 : lf = (G.drop (i + 1)).length + 1 := by rw [List.length_drop]; omega
        have hlfb : lf ≤ 1000 := by omega
        have hwl : IntKind.i64.wrap (lf : Int) = (lf : Int) := IntWalk.i64_in _ (by omega)
        have HF := Lib.hid (And.intro hRc (And.intro hdr (And.intro hlf1 (And.intro hxg (And.intro hD hD64)))))
        have HXL := Lib.hid hx64
        obtain ⟨_, x0, x1, x2, x3⟩ := id Xi
        have hi0 : (0 : Int) ≤ (i : Int) := by omega
        have hi1 : (i : Int) < (n : Int) := by omega
        have Iid : Inn wi.drew p (.slice A1 n1 c1) A c L a 0 (e0 : Nat) := Ii.drewN 1
        have hSi : Cs wi.drew K A1 S Z := hS5.keep ((hbi.mono hKw).drew)
        have hAd : ∀ q, A = some q → q.block < wi.drew.heap.size := fun q hq => by have := hAl q hq; show q.block < wi.heap.size; omega
        have hvp := fun k (hk : (Value.slice Av i cv).ownBlock = some k) => (hown.lt k hk).1
        have hb1l : b1 < wi.drew.heap.size := by show b1 < wi.heap.size; omega
        have hgbl : gb < wi.drew.heap.size := by show gb < wi.heap.size; omega
        have hb1p : b1 ≠ p := by omega
        have hgbp : gb ≠ p := by omega
        have hgw5 : gb < w5.heap.size := hgb5
        have hpw5 : p < w5.heap.size := hpl
        obtain ⟨RK, hRK⟩ : ∃ q, rdK S Z L ((G.drop (i + 1)).length + 1) F N (H : Int) (Kl : Int) a e0 x = q := ⟨_, rfl⟩
        have HRK := Lib.hid hRK
        have hen1 := rdK_en S Z L ((G.drop (i + 1)).length + 1) F N (H : Int) (Kl : Int) a e0 x he01 (by rw [← hlf1]; exact hlfb)
        rw [hRK] at hen1
        have HDIS := Lib.hid (And.intro hb1p hgbp)
        clear hRc hdr hlf1 hxg hxm hx hxI hlf hD hD64 hb1x hRK
        have dh : ((H : Int) == 0) = true := by have := HHH.out; simp; omega
        have hcall := ifirst_any Iid hB hSi (by omega) hAd hz hn1 hm hSy x HXL.out F T Kl (H : Nat) hft hT63 hK9 lf hlfb (R := RK) (by rw [← HN.out, HF.out.2.2.1, rdK_first2 (h := (H : Int)) (by have := HHH.out; omega)]; exact HRK.out)
        have HC := Lib.hid hcall
        clear hcall Iid hSi
        go_upto_region 7 with fail
        refine wp_region_held_drew (S := (fun W : World => W.rangeAt b1 (o1 + i * 64) (iv x) ∧ W.cell? ⟨gb, 0, none⟩ = some (.int .i64 (F : Nat)) ∧ W.cell? ⟨gb, 1, none⟩ = some (.int .i64 (T : Nat)) ∧ W.cell? ⟨gb, 2, none⟩ = some (.int .i64 (H : Nat)) ∧ W.cell? ⟨gb, 3, none⟩ = some (.int .i64 (Kl : Nat)))) (by kernel_rfl) ⟨hrg, x0, x1, x2, x3⟩ (fun hHeld => ?_)
        refine wpAnyH_take (i := 0) (oi := { dst := some 34, op := Op.move (Operand.tmp 12), type := 105, pos := _, after := _, guard := none }) (v := Value.slice Av i cv) rfl (by kernel_rfl) (by kernel_rfl) (by kernel_rfl) (fun _ _ _ h => h) (Or.inl ⟨by rfl, fun w hSw => by go_simp⟩) hHeld ?_
        simp only [Act.put, List.setIfInBounds_toArray, List.set_cons_zero, List.set_cons_succ]
        refine wpAnyH_take (i := 1) (oi := { dst := some 35, op := Op.move (Operand.tmp 11), type := 173, pos := _, after := _, guard := none }) (v := Value.pointer (some ⟨p, 0, none⟩)) rfl (by kernel_rfl) (by kernel_rfl) (by kernel_rfl) (fun _ _ _ h => h) (Or.inl ⟨by rfl, fun w hSw => by go_simp⟩) hHeld ?_
        simp only [Act.put, List.setIfInBounds_toArray, List.set_cons_zero, List.set_cons_succ]
        refine wpAnyH_take (i := 2) (oi := { dst := some 36, op := Op.move (Operand.tmp 2), type := 105, pos := _, after := _, guard := none }) (v := Value.slice (some ⟨b1, o1, none⟩) n c2) rfl (by kernel_rfl) (by kernel_rfl) (by kernel_rfl) (fun _ _ _ h => h) (Or.inl ⟨by rfl, fun w hSw => by go_simp⟩) hHeld ?_
        simp only [Act.put, List.setIfInBounds_toArray, List.set_cons_zero, List.set_cons_succ]
        refine wpAnyH_take (i := 3) (oi := { dst := some 37, op := Op.move (Operand.tmp 13), type := 3, pos := _, after := _, guard := none }) (v := Value.int .i64 (i : Nat)) rfl (by kernel_rfl) (by kernel_rfl) (by kernel_rfl) (fun _ _ _ h => h) (Or.inl ⟨by rfl, fun w hSw => by go_simp⟩) hHeld ?_
        simp only [Act.put, List.setIfInBounds_toArray, List.set_cons_zero, List.set_cons_succ]
        refine wpAnyH_take (i := 4) (oi := { dst := some 38, op := Op.indexAddr 105 (Operand.tmp 36) (Operand.tmp 37), type := 0, pos := _, after := _, guard := none }) (v := Value.pointer (some ⟨b1, o1 + i * 64, none⟩)) rfl (by kernel_rfl) (by kernel_rfl) (by kernel_rfl) (fun _ _ _ h => h) (Or.inl ⟨by rfl, fun w hSw => by go_simp⟩) hHeld ?_
        simp only [Act.put, List.setIfInBounds_toArray, List.set_cons_zero, List.set_cons_succ]
        refine wpAnyH_take (i := 5) (oi := { dst := some 39, op := Op.load 70 (Operand.tmp 38), type := 70, pos := _, after := _, guard := none }) rfl (by kernel_rfl) (by kernel_rfl) (by kernel_rfl) (fun _ _ _ h => h) (yieldsIf_load_mid (by rfl) 70 (.tmp 38) rfl b1 (o1 + i * 64) rfl (iv x) _ (fun _ h => h.1) Try.underlying70 rfl (by rw [iv_len, HXL.out]; kernel_rfl)) hHeld ?_
        simp only [Act.put, List.setIfInBounds_toArray, List.set_cons_zero, List.set_cons_succ]
        refine wpAnyH_take (i := 6) (oi := { dst := some 40, op := Op.load 33 (Operand.tmp 7), type := 33, pos := _, after := _, guard := none }) (v := Value.agg #[.int .i64 (F : Nat), .int .i64 (T : Nat), .int .i64 (H : Nat), .int .i64 (Kl : Nat)]) rfl (by kernel_rfl) (by kernel_rfl) (by kernel_rfl) (fun _ _ _ h => h) (Or.inl ⟨by rfl, fun w hSw => by go_simp⟩) hHeld ?_
        simp only [Act.put, List.setIfInBounds_toArray, List.set_cons_zero, List.set_cons_succ]
        refine wpAnyH_take (i := 7) (oi := { dst := some 41, op := Op.move (Operand.tmp 2), type := 105, pos := _, after := _, guard := none }) (v := Value.slice (some ⟨b1, o1, none⟩) n c2) rfl (by kernel_rfl) (by kernel_rfl) (by kernel_rfl) (fun _ _ _ h => h) (Or.inl ⟨by rfl, fun w hSw => by go_simp⟩) hHeld ?_
        simp only [Act.put, List.setIfInBounds_toArray, List.set_cons_zero, List.set_cons_succ]
        refine wpAnyH_take (i := 8) (oi := { dst := some 42, op := Op.call { callee := Callee.builtin Builtin.len, args := #[Operand.tmp 41], argTypes := #[105] }, type := 3, pos := _, after := _, guard := none }) (v := Value.int .i64 (n : Nat)) rfl (by kernel_rfl) (by kernel_rfl) (by kernel_rfl) (fun _ _ _ h => h) (Or.inl ⟨by rfl, fun w hSw => by go_simp⟩) hHeld ?_
        simp only [Act.put, List.setIfInBounds_toArray, List.set_cons_zero, List.set_cons_succ]
        refine wpAnyH_take (i := 9) (oi := { dst := some 43, op := Op.move (Operand.tmp 13), type := 3, pos := _, after := _, guard := none }) (v := Value.int .i64 (i : Nat)) rfl (by kernel_rfl) (by kernel_rfl) (by kernel_rfl) (fun _ _ _ h => h) (Or.inl ⟨by rfl, fun w hSw => by go_simp⟩) hHeld ?_
        simp only [Act.put, List.setIfInBounds_toArray, List.set_cons_zero, List.set_cons_succ]
        refine wpAnyH_take (i := 10) (oi := { dst := some 44, op := Op.binOp BinOp.sub 3 (Operand.tmp 42) (Operand.tmp 43) 3, type := 3, pos := _, after := _, guard := none }) (v := Value.int .i64 (lf : Nat)) rfl (by kernel_rfl) (by kernel_rfl) (by kernel_rfl) (fun _ _ _ h => h) (Or.inl ⟨by rfl, fun w hSw => by go_simp⟩) hHeld ?_
        simp only [Act.put, List.setIfInBounds_toArray, List.set_cons_zero, List.set_cons_succ]
        refine wpAnyH_ready (rs := [11]) (by kernel_rfl) (by simp) ?_
        refine AllReadyH.cons (o := { dst := some 45, op := Op.call { callee := Callee.value (Operand.func 123), args := #[Operand.tmp 35, Operand.tmp 39, Operand.tmp 40, Operand.tmp 44], argTypes := #[173, 70, 33, 3] }, type := 70, pos := _, after := _, guard := none }) rfl (fun K' hK => ?_) AllReadyH.nil
        rw [if_pos (by rfl)]
        go_simp
        refine HC.out.mono ?_
        rintro e7 w7 ⟨y, a7, en7, rfl, hy7, I7, hn7, hf7⟩
        have hs7 := keep_r hf7 (fun e => hb1p e) (fun e => hgbp e) hb1l hgbl hHeld
        refine hK.out _ _ hs7 (fun _ => ?_)
        clear hK K'
        have hfo : List.foldl (fun (cs : Array Value) (x : Value × Nat) => cs.setIfInBounds x.2 x.1) #[.int .i64 0, .int .i64 0, .int .i64 0, .int .i64 0, .int .i64 0, .int .i64 0, .int .i64 0, .int .i64 0, .int .i64 0, .int .i64 0, .int .i64 0, .int .i64 0, .int .i64 0, .int .i64 0, .int .i64 0, .int .i64 0, .int .i64 0, .int .i64 0, .int .i64 0, .int .i64 0, .int .i64 0, .int .i64 0, .int .i64 0, .int .i64 0, .int .i64 0, .int .i64 0, .int .i64 0, .int .i64 0, .int .i64 0, .int .i64 0, .int .i64 0, .int .i64 0, .int .i64 0, .int .i64 0, .int .i64 0, .int .i64 0, .int .i64 0, .int .i64 0, .int .i64 0, .int .i64 0, .int .i64 0, .int .i64 0, .int .i64 0, .int .i64 0, .int .i64 0, .int .i64 0, .int .i64 0, .int .i64 0, .int .i64 0, .int .i64 0, .int .i64 0, .int .i64 0, .int .i64 0, .int .i64 0, .int .i64 0, .int .i64 0, .int .i64 0, .int .i64 0, .int .i64 0, .int .i64 0, .int .i64 0, .int .i64 0, .int .i64 0, .int .i64 0] (iv y).zipIdx = (iv y).toArray := fold_all (iv y) _ (by rw [iv_len, hy7]; rfl)
        have hivl : (iv y).length = 64 := by rw [iv_len, hy7]
        have hbb : Below w7.heap.size w7 (w7.alloc (.cells (iv y).toArray 70)) := (Below.refl _ _).alloc (Nat.le_refl _) _
        have hs8 := keep_r (Fr.of_below hbb) (S0 := fun _ => False) (fun f => f) (fun f => f) (by have := Fr.size hf7; exact Nat.lt_of_lt_of_le hb1l this) (by have := Fr.size hf7; exact Nat.lt_of_lt_of_le hgbl this) hs7
        refine wpAnyH_ready (rs := [12]) (by kernel_rfl) (by simp) ?_
        refine AllReadyH.cons (o := { dst := some 46, op := Op.buildSlice 105 1 #[(0, Operand.tmp 45)], type := 105, pos := _, after := _, guard := none }) rfl (fun K' hK => ?_) AllReadyH.nil
        rw [if_pos (by rfl)]
        go_simp
        refine hK.out _ _ hs8 (fun _ => ?_)
        clear hK K'
        have hown7 := Fr.ownN hf7 hown (fun k hk e => by have := hvp k hk; omega)
        have hoa := own_keepN hown7 hbb
        have hszb := hbb.size
        have hsz7 : wi.heap.size ≤ w7.heap.size := (show wi.drew.heap.size ≤ w7.heap.size from Fr.size hf7)
        have hbs8 : w5.heap.size ≤ (w7.alloc (.cells (iv y).toArray 70)).heap.size := by omega
        have hone2 := one_iv y
        refine wpAnyH_ready (rs := [13]) (by kernel_rfl) (by simp) ?_
        refine AllReadyH.cons (o := { dst := some 47, op := Op.call { callee := Callee.builtin Builtin.append, args := #[Operand.tmp 34, Operand.tmp 46], argTypes := #[105, 105] }, type := 105, pos := _, after := _, guard := none }) rfl (fun K' hK => ?_) AllReadyH.nil
        refine step_appN0 _ (by rfl) _ _ _ (by rfl) Try.underlying105 hj0 hy0 hy1 hy2 hy3 (by omega) hoa (by rfl) (by rfl) (Rd.newN w7 70 (iv y)) (by rw [hivl]) hone2 (by omega) (by omega) hbs8 ?_
        intro v9 w9 hown9 hap9
        have hs9 := keep_r hap9.fr (fun e => by have := hvp b1 e; omega) (fun e => by have := hvp gb e; omega) (by omega) (by omega) hs8
        refine hK.out _ _ hs9 (fun _ => ?_)
        clear hK K'
        refine wpAnyH_take (i := 14) (oi := { dst := some 12, op := Op.assign (Operand.tmp 47), type := 105, pos := _, after := _, guard := none }) (v := v9) rfl (by kernel_rfl) (by kernel_rfl) (by kernel_rfl) (fun _ _ _ h => h) (Or.inl ⟨by rfl, fun w hSw => by go_simp⟩) hs9 ?_
        simp only [Act.put, List.setIfInBounds_toArray, List.set_cons_zero, List.set_cons_succ]
        refine wpAnyH_done (by kernel_rfl) ?_ _
        have I9 := (I7.below hbb).keep (S := fun k => (Value.slice Av i cv).ownBlock = some k) hap9.fr (fun e => by have := hvp p e; omega) (fun q hq e => by have := hAl q hq; have := hvp _ e; omega)
        have f9 : Fr (fun b => b = p) w5 w9 := ((fi.trans ((Fr.refl _ wi).drew.trans hf7)).trans (Fr.of_below hbb)).trans' hap9.fr (fun k hk e => by have := hvp k e; omega)
        have hX9 : Box4 w9 gb (.int .i64 (F : Nat)) (.int .i64 (T : Nat)) (.int .i64 (H : Nat)) (.int .i64 (Kl : Nat)) := X5.fr f9 (fun e => by omega)
        have hD9 : (D ++ [y]).length = i + 1 := by rw [List.length_append, HF.out.2.2.2.2.1]; rfl
        have hD964 : ∀ q ∈ D ++ [y], q.length = 64 := fun q hq => by
          rcases List.mem_append.1 hq with h | h
          · exact HF.out.2.2.2.2.2 q h
          · rw [List.mem_singleton.1 h]; exact hy7
        have ho9 : w9.ownsRow w5.heap.size 70 64 v9 (i + 1) ((D ++ [y]).map iv).flatten := by
          rw [List.map_append, List.flatten_append]; simpa using hown9
        have c4 := I9.c4
        have f4 := I9.fz (i := 4) (by omega)
        have hle9 := I9.le
        have HO9 := Lib.hid (And.intro ho9 (And.intro hD9 (And.intro hD964 f9)))
        by_cases hke : RK.2.2.2 = 0
        · obtain ⟨hn1q, hn2q, hn3q⟩ := hn7 hke
          obtain ⟨K1, K2, K3, K4⟩ := RK
          dsimp only at hke hn1q hn2q hn3q I9 hen1
          subst hke hn1q hn2q hn3q
          have hsq := cmbR_go (D := D) HRK.out
          rw [← HF.out.2.1, ← HF.out.1] at hsq
          have HSQ := Lib.hid hsq
          clear hsq hn7 I7 hown hown7 hoa hbb hfo hf7 hap9 hown9 ho9 hD9 hD964 hs7 hs8 hs9 hHeld hbiw Ii fi f9 hX9 hrg x0 x1 x2 x3 Xi c3 hbi
          by_cases hen : 0 < K3
          · obtain ⟨k9, hk9⟩ : ∃ k9, K3 = k9 + 1 := ⟨K3 - 1, by omega⟩
            subst hk9
            have hcast : ((k9 + 1 : Nat) : Int) = (k9 : Int) + 1 := by omega
            rw [hcast] at c4
            have de : decide ((0 : Int) < (k9 : Int) + 1) = true := decide_eq_true (by omega)
            have hk9b : k9 ≤ 1000 := by omega
            have hsub : (k9 : Int) + 1 - 1 = (k9 : Int) := by omega
            have hwsub : wrap64 (k9 : Int) = (k9 : Int) := by clear hwl de hsub; unfold wrap64; omega
            obtain ⟨I10, hf10⟩ := I9.set (i := 4) (u := .int .i64 (k9 : Int)) (a' := a7) (bad' := 0) (en' := (k9 : Int)) rfl hle9
            have HNX := Lib.hid (show Rr22R S Z p (.slice A1 n1 c1) A c L F N (H : Nat) (Kl : Nat) n G R w5 p v9 (.int .i64 ((i : Int) + 1)) (w9.setCell ⟨p, 4, none⟩ (.int .i64 (k9 : Int))) from
              ⟨i + 1, a7, 0, _, D ++ [y], by omega, by go_num, HO9.out.2.1, HO9.out.2.2.1, Fr.ownN hf10 HO9.out.1 (fun k hk e => by have := (HO9.out.1.lt k hk).1; omega), I10, HO9.out.2.2.2.trans hf10, .inl ⟨rfl, k9, rfl, hk9b, HSQ.out⟩⟩)
            have HLT := Lib.hid hlt
            clear I9 I10 hf10 hen hen1 hcast hwl hlfi hlfb hcm hc hle9 hb1w hszb hsz7 hbs8 hfsz hs5 hs0 hp1 hp2 hgw1 hgw2 hgb0 hgb5 hgw5 hpw5 hb1l hgbl hln1 hln2 hTN hFN hft hT63 hK9 hF1 hm hk9b he01 hivl hb1p hgbp hpl
            go_wp2_with fail
            go_roundw
            case rel => exact HNX.out
            case measure => exact meas_i HLT.out
          · have de : decide ((0 : Int) < (K3 : Int)) = false := decide_eq_false (by omega)
            have hk30 : K3 - 1 = K3 := by omega
            have HNX := Lib.hid (show Rr22R S Z p (.slice A1 n1 c1) A c L F N (H : Nat) (Kl : Nat) n G R w5 p v9 (.int .i64 ((i : Int) + 1)) w9 from
              ⟨i + 1, a7, 0, (K3 : Nat), D ++ [y], by omega, by go_num, HO9.out.2.1, HO9.out.2.2.1, HO9.out.1, I9, HO9.out.2.2.2, .inl ⟨rfl, K3, rfl, hen1, by rw [HSQ.out, hk30]⟩⟩)
            clear I9 hk30
            go_wp2_with fail
            go_roundw
            case rel => exact HNX.out
            case measure => simp [intOf]; omega
        · have hR2 : R = ([], 0, RK.2.2.2) := by
            rw [HF.out.1, HF.out.2.1]
            obtain ⟨K1, K2, K3, K4⟩ := RK
            rw [rdAll_bad HRK.out hke]
            exact if_pos hke
          have HR2 := Lib.hid hR2
          obtain ⟨er, her⟩ : ∃ er, er = RK.2.2.2 := ⟨_, rfl⟩
          rw [← her] at I9 hke
          have HER := Lib.hid her
          have hcn : ∀ u, Inn (w9.setCell ⟨p, 4, none⟩ (.int .i64 u)) p (.slice A1 n1 c1) A c L a7 er u ∧ Fp p w9 (w9.setCell ⟨p, 4, none⟩ (.int .i64 u)) := fun u => I9.set (i := 4) (u := .int .i64 u) (a' := a7) (bad' := er) (en' := u) rfl hle9
          have HCN := Lib.hid hcn
          have HKE := Lib.hid hke
          clear hR2 hn7 I7 hown hown7 hoa hbb hfo hf7 hap9 hown9 ho9 hD9 hD964 hs7 hs8 hs9 hHeld hbiw Ii fi f9 hX9 hrg x0 x1 x2 x3 Xi c3 hbi her hcn hke
          have HI9 := Lib.hid I9
          clear I9
          by_cases hen : 0 < en7
          · have de : decide ((0 : Int) < en7) = true := decide_eq_true hen
            go_wp2_with fail
            go_roundw
            case rel => exact ⟨i + 1, a7, er, _, D ++ [y], by omega, by go_num, HO9.out.2.1, HO9.out.2.2.1, Fr.ownN (HCN.out _).2 HO9.out.1 (fun k hk e => by have := (HO9.out.1.lt k hk).1; omega), (HCN.out _).1, HO9.out.2.2.2.trans (HCN.out _).2, .inr ⟨HKE.out, by rw [HR2.out, HER.out]⟩⟩
            case measure => simp [intOf]; omega
          · have de : decide ((0 : Int) < en7) = false := decide_eq_false hen
            go_wp2_with fail
            go_roundw
            case rel => exact ⟨i + 1, a7, er, _, D ++ [y], by omega, by go_num, HO9.out.2.1, HO9.out.2.2.1, HO9.out.1, HI9.out, HO9.out.2.2.2, .inr ⟨HKE.out, by rw [HR2.out, HER.out]⟩⟩
            case measure => simp [intOf]; omega
      · have db : (bad == 0) = false := by simp; exact hbad
        have dbn : (bad != 0) = true := by simp; exact hbad
        have HB9 := Lib.hid (And.intro hbad hRb)
        have hne : R.2.2 ≠ 0 := by rw [hRb]; exact hbad
        have HNE := Lib.hid hne
        clear hbad hRb hown hne
        go_upto_region 12 with fail
        go_quiet (fail)
        go_wp2
        go_ret3
        exact ⟨fun h9 => absurd h9 HNE.out, fun _ => by rw [HB9.out.2]; rfl, below_drewN hbiw nq⟩
    · have dl : decide (i < n) = false := decide_eq_false hlt
      rcases hcase with ⟨rfl, e0, rfl, he01, hRc⟩ | ⟨hbad, hRb⟩
      · have hin : i = n := by omega
        have hge : G.drop i = [] := List.drop_eq_nil_of_le (by omega)
        rw [hge] at hRc
        have hR2 : R = (D, a, 0) := by rw [hRc]; unfold cmbR rdAll; rw [if_neg (by simp)]; simp
        have HR2 := Lib.hid hR2
        have c2' := Ii.c2
        obtain ⟨Av, cv, hve, _, _, _⟩ := own_sliceN hown
        subst hve
        have HO8 := Lib.hid hown
        have HDD := Lib.hid (And.intro hD hD64)
        have hin1 : i ≤ n := by omega
        have hin2 : n ≤ i := by omega
        clear hRc hR2 hge hown hD hD64 hin
        go_upto_region 13 with fail
        go_quiet (fail)
        go_wp2
        go_ret3
        refine ⟨fun _ => ⟨_, by rw [HR2.out]; rfl, ?_, by rw [HR2.out]; exact HDD.out.2, by rw [HR2.out]; exact HDD.out.1.trans (by omega)⟩, fun h9 => absurd (by rw [HR2.out]) h9, below_drewN hbiw nq⟩
        have h9 : G.length = i := by omega
        rw [HR2.out, h9]
        exact own_baseN (own_keepN HO8.out (below_drewN (Below.refl _ _) nq)) (fun k hk => by have := (HO8.out.lt k hk).1; omega)
      · have db : (bad == 0) = false := by simp; exact hbad
        have dbn : (bad != 0) = true := by simp; exact hbad
        have HB9 := Lib.hid (And.intro hbad hRb)
        have hne : R.2.2 ≠ 0 := by rw [hRb]; exact hbad
        have HNE := Lib.hid hne
        clear hbad hRb hown hne
        go_upto_region 12 with fail
        go_quiet (fail)
        go_wp2
        go_ret3
        exact ⟨fun h9 => absurd h9 HNE.out, fun _ => by rw [HB9.out.2]; rfl, below_drewN hbiw nq⟩
set_option maxHeartbeats 32000000 in
theorem rread22_fine {A1 A : Option Addr} {n1 c1 c K : Nat} {S Z L : List Int} {w : World} (hS : Cs w K A1 S Z) (hz : Zs Z) (hn1 : Z.length = n1) (hm : n1 ≤ 100000) (hSy : ∀ x ∈ S, 0 ≤ x ∧ x ≤ 255) (hB : B01 L) (hR0 : Rd w w.heap.size A (iv L)) (hA : ∀ q, A = some q → q.block < w.heap.size) (hc : L.length ≤ c ∧ c ≤ 9223372036854775807 ∧ L.length ≤ 1000000000)
    {A2 : Option Addr} {n c2 : Nat} {G : List (List Int)} (hG : Blk w A2 n G) (hn : n ≤ 1000) (F T H Kl : Nat) (hF1 : 1 ≤ F) (hft : F ≤ T) (hT63 : T ≤ 63) (hK9 : Kl ≤ 9) (hh : ¬ H = 0) (hgl : GoodL G) {R : List (List Int) × Nat × Int} (hR : rdAll S Z L F (T + 1 - F) (H : Nat) (Kl : Nat) G 0 0 = R) :
    Calls Try.prog 79 #[.slice A1 n1 c1, .slice A L.length c, .slice A2 n c2, .agg #[.int .i64 (F : Nat), .int .i64 (T : Nat), .int .i64 (H : Nat), .int .i64 (Kl : Nat)]] w (Rr22P R G.length w) := by
  have X := Box4.new w 33 (.int .i64 (F : Nat)) (.int .i64 (T : Nat)) (.int .i64 (H : Nat)) (.int .i64 (Kl : Nat))
  have hb0 : Below w.heap.size w (w.alloc (.cells #[.int .i64 (F : Nat), .int .i64 (T : Nat), .int .i64 (H : Nat), .int .i64 (Kl : Nat)] 33)) := (Below.refl _ _).alloc (Nat.le_refl _) _
  obtain ⟨N, hN⟩ : ∃ N, N = T + 1 - F := ⟨_, rfl⟩
  rw [← hN] at hR
  have HN := Lib.hid hN
  have hTN : T + 1 = F + N := by omega
  have hFN : F + N ≤ 64 := by omega
  have HR := Lib.hid hR
  have HGL := Lib.hid hgl
  have HHH := Lib.hid hh
  have HGG := Lib.hid hG
  obtain ⟨j0, zb, hj0, hy0, hy1, hy2, hy3, _⟩ := info_blk23
  clear hN hR hgl hG hh
  go_enter Try.func79, Try.ntmps79
  go_upto_region 1 with fail
  obtain ⟨gb, hgb⟩ : ∃ gb, gb = w.heap.size := ⟨_, rfl⟩
  generalize w.alloc (.cells #[.int .i64 (F : Nat), .int .i64 (T : Nat), .int .i64 (H : Nat), .int .i64 (Kl : Nat)] 33) = w0 at *
  rw [← hgb] at X ⊢
  have HGB := Lib.hid hgb
  have hs0 := hb0.size
  have hgb0 := X.lt
  have hgw1 : gb ≤ w.heap.size := by omega
  have hgw2 : w.heap.size ≤ gb := by omega
  have I0 := Inn.new_ (w := w0) (v0 := .slice A1 n1 c1) ((hR0.below hb0).more hb0.size) (fun q hq => by have := hA q hq; omega) hc
  have hba : Below w0.heap.size w0 (w0.alloc (.cells #[.slice A1 n1 c1, .slice A L.length c, .int .i64 0, .int .i64 0, .int .i64 0] 175)) := (Below.refl _ _).alloc (Nat.le_refl _) _
  have X5 := X.below hba X.lt
  clear hgb
  go_upto_region 2 with fail
  obtain ⟨p, hp⟩ : ∃ q, q = w0.heap.size := ⟨_, rfl⟩
  rw [← hp] at I0 ⊢
  generalize w0.alloc (.cells #[.slice A1 n1 c1, .slice A L.length c, .int .i64 0, .int .i64 0, .int .i64 0] 175) = w5 at *
  have hb5 := hb0.trans (hba.mono hs0)
  have hs5 := hb5.size
  have hpl := I0.lt
  have hp1 : p ≤ w0.heap.size := by omega
  have hp2 : w0.heap.size ≤ p := by omega
  have hgb5 := X5.lt
  have hAl : ∀ q, A = some q → q.block < w.heap.size := hA
  have hS5 := hS.keep (hb5.mono hS.size)
  have hKw : K ≤ w.heap.size := hS.size
  have hlen := HGG.out.len
  have HLEN := Lib.hid hlen
  have hln1 : G.length ≤ n := by omega
  have hln2 : n ≤ G.length := by omega
  have H0 := Lib.hid (show Rr22R S Z p (.slice A1 n1 c1) A c L F N (H : Nat) (Kl : Nat) n G R w5 p (.slice none 0 0) (.int .i64 0) w5 from
    ⟨0, 0, 0, 0, [], Nat.zero_le _, rfl, rfl, (fun q hq => by cases hq), World.ownsRow_nil _ _ _ _, I0, Fr.refl _ _, .inl ⟨rfl, 0, rfl, Nat.zero_le _, (by
      rw [List.drop_zero, HR.out]; unfold cmbR
      by_cases h9 : R.2.2 = 0
      · rw [if_neg (by simpa using h9), List.nil_append]
        obtain ⟨R1, R2, R3⟩ := R
        dsimp only at h9
        rw [h9]
      · rw [if_pos h9, ← HR.out]
        exact (rdAll_err _ _ _ _ _ _ _ _ _ _ (by rw [HR.out]; exact h9)).symm)⟩⟩)
  clear hp X hba I0 hA hR0 hlen hb0 hS
  go_wp2_with fail
  go_loopw [12, 13] (Rr22R S Z p (.slice A1 n1 c1) A c L F N (H : Nat) (Kl : Nat) n G R w5 p) (fun _ ix _ => n - (intOf ix).toNat)
  case atStart => exact H0.out
  case round =>
    clear H0
    obtain ⟨i, a, bad, en, D, hi, rfl, hD, hD64, hown, Ii, fi, hcase⟩ := hrel
    obtain ⟨wi, rfl⟩ : ∃ wi : World, wi = wr := ⟨_, rfl⟩
    have c3 := Ii.c3
    have hfsz := fi.size
    have hbi := fi.below (B := w.heap.size) (fun k hk e => by omega) (by omega)
    have hbiw : Below w.heap.size w wi := hb5.trans hbi
    have Xi : Box4 wi gb (.int .i64 (F : Nat)) (.int .i64 (T : Nat)) (.int .i64 (H : Nat)) (.int .i64 (Kl : Nat)) := X5.fr fi (fun e => by omega)
    by_cases hlt : i < n
    · have dl : decide (i < n) = true := decide_eq_true hlt
      rcases hcase with ⟨rfl, e0, rfl, he01, hRc⟩ | ⟨hbad, hRb⟩
      · obtain ⟨Av, cv, hve, _, hcm, _⟩ := own_sliceN hown
        subst hve
        obtain ⟨x, b1, o1, hx, hxm, hx64, hxI, rfl, hb1x, hrg⟩ := (HGG.out.below hbiw).at_ hlt
        have hb1w : b1 < w.heap.size := by
          obtain ⟨x', b1', o1', _, _, _, _, hA9, hb9, _⟩ := HGG.out.at_ hlt
          injection hA9 with hA9; injection hA9 with h1 h2
          rw [h1]; exact hb9
        have hxg := HGL.out x hxm
        have hdr : G.drop i = x :: G.drop (i + 1) := by
          have hlG : i < G.length := by omega
          rw [List.drop_eq_getElem_cons hlG]
          rw [List.getElem?_eq_getElem hlG] at hx
          injection hx with hx
          rw [hx]
        obtain ⟨lf, hlf⟩ : ∃ q, q = n - i := ⟨_, rfl⟩
        have hlfi : (n : Int) - (i : Int) = (lf : Int) := by omega
        have hlf1 : lf = (G.drop (i + 1)).length + 1 := by rw [List.length_drop]; omega
        have hlfb : lf ≤ 1000 := by omega
        have hwl : IntKind.i64.wrap (lf : Int) = (lf : Int) := IntWalk.i64_in _ (by omega)
        have HF := Lib.hid (And.intro hRc (And.intro hdr (And.intro hlf1 (And.intro hxg (And.intro hD hD64)))))
        have HXL := Lib.hid hx64
        obtain ⟨_, x0, x1, x2, x3⟩ := id Xi
        have hi0 : (0 : Int) ≤ (i : Int) := by omega
        have hi1 : (i : Int) < (n : Int) := by omega
        have Iid : Inn wi.drew p (.slice A1 n1 c1) A c L a 0 (e0 : Nat) := Ii.drewN 1
        have hSi : Cs wi.drew K A1 S Z := hS5.keep ((hbi.mono hKw).drew)
        have hAd : ∀ q, A = some q → q.block < wi.drew.heap.size := fun q hq => by have := hAl q hq; show q.block < wi.heap.size; omega
        have hvp := fun k (hk : (Value.slice Av i cv).ownBlock = some k) => (hown.lt k hk).1
        have hb1l : b1 < wi.drew.heap.size := by show b1 < wi.heap.size; omega
        have hgbl : gb < wi.drew.heap.size := by show gb < wi.heap.size; omega
        have hb1p : b1 ≠ p := by omega
        have hgbp : gb ≠ p := by omega
        have hgw5 : gb < w5.heap.size := hgb5
        have hpw5 : p < w5.heap.size := hpl
        obtain ⟨RK, hRK⟩ : ∃ q, rdK S Z L ((G.drop (i + 1)).length + 1) F N (H : Int) (Kl : Int) a e0 x = q := ⟨_, rfl⟩
        have HRK := Lib.hid hRK
        have hen1 := rdK_en S Z L ((G.drop (i + 1)).length + 1) F N (H : Int) (Kl : Int) a e0 x he01 (by rw [← hlf1]; exact hlfb)
        rw [hRK] at hen1
        have HDIS := Lib.hid (And.intro hb1p hgbp)
        clear hRc hdr hlf1 hxg hxm hx hxI hlf hD hD64 hb1x hRK
        have dh : ((H : Int) == 0) = false := by have := HHH.out; simp; omega
        have hcall := ifine_any Iid hB hSi (by omega) hAd hz hn1 hm hSy x HXL.out F T Kl (H : Nat) hft hT63 hK9 lf hlfb (fun j _ h2 => by have h9 := tn_bd HXL.out HF.out.2.2.2.1 F (Kl : Int) j (by omega); omega) rfl (R := RK) (by rw [← HN.out, HF.out.2.2.1, rdK_fine2 (h := (H : Int)) (by have := HHH.out; omega)]; exact HRK.out)
        have HC := Lib.hid hcall
        clear hcall Iid hSi
        go_upto_region 8 with fail
        refine wp_region_held_drew (S := (fun W : World => W.rangeAt b1 (o1 + i * 64) (iv x) ∧ W.cell? ⟨gb, 0, none⟩ = some (.int .i64 (F : Nat)) ∧ W.cell? ⟨gb, 1, none⟩ = some (.int .i64 (T : Nat)) ∧ W.cell? ⟨gb, 2, none⟩ = some (.int .i64 (H : Nat)) ∧ W.cell? ⟨gb, 3, none⟩ = some (.int .i64 (Kl : Nat)))) (by kernel_rfl) ⟨hrg, x0, x1, x2, x3⟩ (fun hHeld => ?_)
        refine wpAnyH_take (i := 0) (oi := { dst := some 48, op := Op.move (Operand.tmp 12), type := 105, pos := _, after := _, guard := none }) (v := Value.slice Av i cv) rfl (by kernel_rfl) (by kernel_rfl) (by kernel_rfl) (fun _ _ _ h => h) (Or.inl ⟨by rfl, fun w hSw => by go_simp⟩) hHeld ?_
        simp only [Act.put, List.setIfInBounds_toArray, List.set_cons_zero, List.set_cons_succ]
        refine wpAnyH_take (i := 1) (oi := { dst := some 49, op := Op.move (Operand.tmp 11), type := 173, pos := _, after := _, guard := none }) (v := Value.pointer (some ⟨p, 0, none⟩)) rfl (by kernel_rfl) (by kernel_rfl) (by kernel_rfl) (fun _ _ _ h => h) (Or.inl ⟨by rfl, fun w hSw => by go_simp⟩) hHeld ?_
        simp only [Act.put, List.setIfInBounds_toArray, List.set_cons_zero, List.set_cons_succ]
        refine wpAnyH_take (i := 2) (oi := { dst := some 50, op := Op.move (Operand.tmp 2), type := 105, pos := _, after := _, guard := none }) (v := Value.slice (some ⟨b1, o1, none⟩) n c2) rfl (by kernel_rfl) (by kernel_rfl) (by kernel_rfl) (fun _ _ _ h => h) (Or.inl ⟨by rfl, fun w hSw => by go_simp⟩) hHeld ?_
        simp only [Act.put, List.setIfInBounds_toArray, List.set_cons_zero, List.set_cons_succ]
        refine wpAnyH_take (i := 3) (oi := { dst := some 51, op := Op.move (Operand.tmp 13), type := 3, pos := _, after := _, guard := none }) (v := Value.int .i64 (i : Nat)) rfl (by kernel_rfl) (by kernel_rfl) (by kernel_rfl) (fun _ _ _ h => h) (Or.inl ⟨by rfl, fun w hSw => by go_simp⟩) hHeld ?_
        simp only [Act.put, List.setIfInBounds_toArray, List.set_cons_zero, List.set_cons_succ]
        refine wpAnyH_take (i := 4) (oi := { dst := some 52, op := Op.indexAddr 105 (Operand.tmp 50) (Operand.tmp 51), type := 0, pos := _, after := _, guard := none }) (v := Value.pointer (some ⟨b1, o1 + i * 64, none⟩)) rfl (by kernel_rfl) (by kernel_rfl) (by kernel_rfl) (fun _ _ _ h => h) (Or.inl ⟨by rfl, fun w hSw => by go_simp⟩) hHeld ?_
        simp only [Act.put, List.setIfInBounds_toArray, List.set_cons_zero, List.set_cons_succ]
        refine wpAnyH_take (i := 5) (oi := { dst := some 53, op := Op.load 70 (Operand.tmp 52), type := 70, pos := _, after := _, guard := none }) rfl (by kernel_rfl) (by kernel_rfl) (by kernel_rfl) (fun _ _ _ h => h) (yieldsIf_load_mid (by rfl) 70 (.tmp 52) rfl b1 (o1 + i * 64) rfl (iv x) _ (fun _ h => h.1) Try.underlying70 rfl (by rw [iv_len, HXL.out]; kernel_rfl)) hHeld ?_
        simp only [Act.put, List.setIfInBounds_toArray, List.set_cons_zero, List.set_cons_succ]
        refine wpAnyH_take (i := 6) (oi := { dst := some 54, op := Op.load 33 (Operand.tmp 7), type := 33, pos := _, after := _, guard := none }) (v := Value.agg #[.int .i64 (F : Nat), .int .i64 (T : Nat), .int .i64 (H : Nat), .int .i64 (Kl : Nat)]) rfl (by kernel_rfl) (by kernel_rfl) (by kernel_rfl) (fun _ _ _ h => h) (Or.inl ⟨by rfl, fun w hSw => by go_simp⟩) hHeld ?_
        simp only [Act.put, List.setIfInBounds_toArray, List.set_cons_zero, List.set_cons_succ]
        refine wpAnyH_take (i := 7) (oi := { dst := some 55, op := Op.move (Operand.tmp 2), type := 105, pos := _, after := _, guard := none }) (v := Value.slice (some ⟨b1, o1, none⟩) n c2) rfl (by kernel_rfl) (by kernel_rfl) (by kernel_rfl) (fun _ _ _ h => h) (Or.inl ⟨by rfl, fun w hSw => by go_simp⟩) hHeld ?_
        simp only [Act.put, List.setIfInBounds_toArray, List.set_cons_zero, List.set_cons_succ]
        refine wpAnyH_take (i := 8) (oi := { dst := some 56, op := Op.call { callee := Callee.builtin Builtin.len, args := #[Operand.tmp 55], argTypes := #[105] }, type := 3, pos := _, after := _, guard := none }) (v := Value.int .i64 (n : Nat)) rfl (by kernel_rfl) (by kernel_rfl) (by kernel_rfl) (fun _ _ _ h => h) (Or.inl ⟨by rfl, fun w hSw => by go_simp⟩) hHeld ?_
        simp only [Act.put, List.setIfInBounds_toArray, List.set_cons_zero, List.set_cons_succ]
        refine wpAnyH_take (i := 9) (oi := { dst := some 57, op := Op.move (Operand.tmp 13), type := 3, pos := _, after := _, guard := none }) (v := Value.int .i64 (i : Nat)) rfl (by kernel_rfl) (by kernel_rfl) (by kernel_rfl) (fun _ _ _ h => h) (Or.inl ⟨by rfl, fun w hSw => by go_simp⟩) hHeld ?_
        simp only [Act.put, List.setIfInBounds_toArray, List.set_cons_zero, List.set_cons_succ]
        refine wpAnyH_take (i := 10) (oi := { dst := some 58, op := Op.binOp BinOp.sub 3 (Operand.tmp 56) (Operand.tmp 57) 3, type := 3, pos := _, after := _, guard := none }) (v := Value.int .i64 (lf : Nat)) rfl (by kernel_rfl) (by kernel_rfl) (by kernel_rfl) (fun _ _ _ h => h) (Or.inl ⟨by rfl, fun w hSw => by go_simp⟩) hHeld ?_
        simp only [Act.put, List.setIfInBounds_toArray, List.set_cons_zero, List.set_cons_succ]
        refine wpAnyH_ready (rs := [11]) (by kernel_rfl) (by simp) ?_
        refine AllReadyH.cons (o := { dst := some 59, op := Op.call { callee := Callee.value (Operand.func 124), args := #[Operand.tmp 49, Operand.tmp 53, Operand.tmp 54, Operand.tmp 58], argTypes := #[173, 70, 33, 3] }, type := 70, pos := _, after := _, guard := none }) rfl (fun K' hK => ?_) AllReadyH.nil
        rw [if_pos (by rfl)]
        go_simp
        refine HC.out.mono ?_
        rintro e7 w7 ⟨y, a7, en7, rfl, hy7, I7, hn7, hf7⟩
        have hs7 := keep_r hf7 (fun e => hb1p e) (fun e => hgbp e) hb1l hgbl hHeld
        refine hK.out _ _ hs7 (fun _ => ?_)
        clear hK K'
        have hfo : List.foldl (fun (cs : Array Value) (x : Value × Nat) => cs.setIfInBounds x.2 x.1) #[.int .i64 0, .int .i64 0, .int .i64 0, .int .i64 0, .int .i64 0, .int .i64 0, .int .i64 0, .int .i64 0, .int .i64 0, .int .i64 0, .int .i64 0, .int .i64 0, .int .i64 0, .int .i64 0, .int .i64 0, .int .i64 0, .int .i64 0, .int .i64 0, .int .i64 0, .int .i64 0, .int .i64 0, .int .i64 0, .int .i64 0, .int .i64 0, .int .i64 0, .int .i64 0, .int .i64 0, .int .i64 0, .int .i64 0, .int .i64 0, .int .i64 0, .int .i64 0, .int .i64 0, .int .i64 0, .int .i64 0, .int .i64 0, .int .i64 0, .int .i64 0, .int .i64 0, .int .i64 0, .int .i64 0, .int .i64 0, .int .i64 0, .int .i64 0, .int .i64 0, .int .i64 0, .int .i64 0, .int .i64 0, .int .i64 0, .int .i64 0, .int .i64 0, .int .i64 0, .int .i64 0, .int .i64 0, .int .i64 0, .int .i64 0, .int .i64 0, .int .i64 0, .int .i64 0, .int .i64 0, .int .i64 0, .int .i64 0, .int .i64 0, .int .i64 0] (iv y).zipIdx = (iv y).toArray := fold_all (iv y) _ (by rw [iv_len, hy7]; rfl)
        have hivl : (iv y).length = 64 := by rw [iv_len, hy7]
        have hbb : Below w7.heap.size w7 (w7.alloc (.cells (iv y).toArray 70)) := (Below.refl _ _).alloc (Nat.le_refl _) _
        have hs8 := keep_r (Fr.of_below hbb) (S0 := fun _ => False) (fun f => f) (fun f => f) (by have := Fr.size hf7; exact Nat.lt_of_lt_of_le hb1l this) (by have := Fr.size hf7; exact Nat.lt_of_lt_of_le hgbl this) hs7
        refine wpAnyH_ready (rs := [12]) (by kernel_rfl) (by simp) ?_
        refine AllReadyH.cons (o := { dst := some 60, op := Op.buildSlice 105 1 #[(0, Operand.tmp 59)], type := 105, pos := _, after := _, guard := none }) rfl (fun K' hK => ?_) AllReadyH.nil
        rw [if_pos (by rfl)]
        go_simp
        refine hK.out _ _ hs8 (fun _ => ?_)
        clear hK K'
        have hown7 := Fr.ownN hf7 hown (fun k hk e => by have := hvp k hk; omega)
        have hoa := own_keepN hown7 hbb
        have hszb := hbb.size
        have hsz7 : wi.heap.size ≤ w7.heap.size := (show wi.drew.heap.size ≤ w7.heap.size from Fr.size hf7)
        have hbs8 : w5.heap.size ≤ (w7.alloc (.cells (iv y).toArray 70)).heap.size := by omega
        have hone2 := one_iv y
        refine wpAnyH_ready (rs := [13]) (by kernel_rfl) (by simp) ?_
        refine AllReadyH.cons (o := { dst := some 61, op := Op.call { callee := Callee.builtin Builtin.append, args := #[Operand.tmp 48, Operand.tmp 60], argTypes := #[105, 105] }, type := 105, pos := _, after := _, guard := none }) rfl (fun K' hK => ?_) AllReadyH.nil
        refine step_appN0 _ (by rfl) _ _ _ (by rfl) Try.underlying105 hj0 hy0 hy1 hy2 hy3 (by omega) hoa (by rfl) (by rfl) (Rd.newN w7 70 (iv y)) (by rw [hivl]) hone2 (by omega) (by omega) hbs8 ?_
        intro v9 w9 hown9 hap9
        have hs9 := keep_r hap9.fr (fun e => by have := hvp b1 e; omega) (fun e => by have := hvp gb e; omega) (by omega) (by omega) hs8
        refine hK.out _ _ hs9 (fun _ => ?_)
        clear hK K'
        refine wpAnyH_take (i := 14) (oi := { dst := some 12, op := Op.assign (Operand.tmp 61), type := 105, pos := _, after := _, guard := none }) (v := v9) rfl (by kernel_rfl) (by kernel_rfl) (by kernel_rfl) (fun _ _ _ h => h) (Or.inl ⟨by rfl, fun w hSw => by go_simp⟩) hs9 ?_
        simp only [Act.put, List.setIfInBounds_toArray, List.set_cons_zero, List.set_cons_succ]
        refine wpAnyH_done (by kernel_rfl) ?_ _
        have I9 := (I7.below hbb).keep (S := fun k => (Value.slice Av i cv).ownBlock = some k) hap9.fr (fun e => by have := hvp p e; omega) (fun q hq e => by have := hAl q hq; have := hvp _ e; omega)
        have f9 : Fr (fun b => b = p) w5 w9 := ((fi.trans ((Fr.refl _ wi).drew.trans hf7)).trans (Fr.of_below hbb)).trans' hap9.fr (fun k hk e => by have := hvp k e; omega)
        have hX9 : Box4 w9 gb (.int .i64 (F : Nat)) (.int .i64 (T : Nat)) (.int .i64 (H : Nat)) (.int .i64 (Kl : Nat)) := X5.fr f9 (fun e => by omega)
        have hD9 : (D ++ [y]).length = i + 1 := by rw [List.length_append, HF.out.2.2.2.2.1]; rfl
        have hD964 : ∀ q ∈ D ++ [y], q.length = 64 := fun q hq => by
          rcases List.mem_append.1 hq with h | h
          · exact HF.out.2.2.2.2.2 q h
          · rw [List.mem_singleton.1 h]; exact hy7
        have ho9 : w9.ownsRow w5.heap.size 70 64 v9 (i + 1) ((D ++ [y]).map iv).flatten := by
          rw [List.map_append, List.flatten_append]; simpa using hown9
        have c4 := I9.c4
        have f4 := I9.fz (i := 4) (by omega)
        have hle9 := I9.le
        have HO9 := Lib.hid (And.intro ho9 (And.intro hD9 (And.intro hD964 f9)))
        by_cases hke : RK.2.2.2 = 0
        · obtain ⟨hn1q, hn2q, hn3q⟩ := hn7 hke
          obtain ⟨K1, K2, K3, K4⟩ := RK
          dsimp only at hke hn1q hn2q hn3q I9 hen1
          subst hke hn1q hn2q hn3q
          have hsq := cmbR_go (D := D) HRK.out
          rw [← HF.out.2.1, ← HF.out.1] at hsq
          have HSQ := Lib.hid hsq
          clear hsq hn7 I7 hown hown7 hoa hbb hfo hf7 hap9 hown9 ho9 hD9 hD964 hs7 hs8 hs9 hHeld hbiw Ii fi f9 hX9 hrg x0 x1 x2 x3 Xi c3 hbi
          by_cases hen : 0 < K3
          · obtain ⟨k9, hk9⟩ : ∃ k9, K3 = k9 + 1 := ⟨K3 - 1, by omega⟩
            subst hk9
            have hcast : ((k9 + 1 : Nat) : Int) = (k9 : Int) + 1 := by omega
            rw [hcast] at c4
            have de : decide ((0 : Int) < (k9 : Int) + 1) = true := decide_eq_true (by omega)
            have hk9b : k9 ≤ 1000 := by omega
            have hsub : (k9 : Int) + 1 - 1 = (k9 : Int) := by omega
            have hwsub : wrap64 (k9 : Int) = (k9 : Int) := by clear hwl de hsub; unfold wrap64; omega
            obtain ⟨I10, hf10⟩ := I9.set (i := 4) (u := .int .i64 (k9 : Int)) (a' := a7) (bad' := 0) (en' := (k9 : Int)) rfl hle9
            have HNX := Lib.hid (show Rr22R S Z p (.slice A1 n1 c1) A c L F N (H : Nat) (Kl : Nat) n G R w5 p v9 (.int .i64 ((i : Int) + 1)) (w9.setCell ⟨p, 4, none⟩ (.int .i64 (k9 : Int))) from
              ⟨i + 1, a7, 0, _, D ++ [y], by omega, by go_num, HO9.out.2.1, HO9.out.2.2.1, Fr.ownN hf10 HO9.out.1 (fun k hk e => by have := (HO9.out.1.lt k hk).1; omega), I10, HO9.out.2.2.2.trans hf10, .inl ⟨rfl, k9, rfl, hk9b, HSQ.out⟩⟩)
            have HLT := Lib.hid hlt
            clear I9 I10 hf10 hen hen1 hcast hwl hlfi hlfb hcm hc hle9 hb1w hszb hsz7 hbs8 hfsz hs5 hs0 hp1 hp2 hgw1 hgw2 hgb0 hgb5 hgw5 hpw5 hb1l hgbl hln1 hln2 hTN hFN hft hT63 hK9 hF1 hm hk9b he01 hivl hb1p hgbp hpl
            go_wp2_with fail
            go_roundw
            case rel => exact HNX.out
            case measure => exact meas_i HLT.out
          · have de : decide ((0 : Int) < (K3 : Int)) = false := decide_eq_false (by omega)
            have hk30 : K3 - 1 = K3 := by omega
            have HNX := Lib.hid (show Rr22R S Z p (.slice A1 n1 c1) A c L F N (H : Nat) (Kl : Nat) n G R w5 p v9 (.int .i64 ((i : Int) + 1)) w9 from
              ⟨i + 1, a7, 0, (K3 : Nat), D ++ [y], by omega, by go_num, HO9.out.2.1, HO9.out.2.2.1, HO9.out.1, I9, HO9.out.2.2.2, .inl ⟨rfl, K3, rfl, hen1, by rw [HSQ.out, hk30]⟩⟩)
            clear I9 hk30
            go_wp2_with fail
            go_roundw
            case rel => exact HNX.out
            case measure => simp [intOf]; omega
        · have hR2 : R = ([], 0, RK.2.2.2) := by
            rw [HF.out.1, HF.out.2.1]
            obtain ⟨K1, K2, K3, K4⟩ := RK
            rw [rdAll_bad HRK.out hke]
            exact if_pos hke
          have HR2 := Lib.hid hR2
          obtain ⟨er, her⟩ : ∃ er, er = RK.2.2.2 := ⟨_, rfl⟩
          rw [← her] at I9 hke
          have HER := Lib.hid her
          have hcn : ∀ u, Inn (w9.setCell ⟨p, 4, none⟩ (.int .i64 u)) p (.slice A1 n1 c1) A c L a7 er u ∧ Fp p w9 (w9.setCell ⟨p, 4, none⟩ (.int .i64 u)) := fun u => I9.set (i := 4) (u := .int .i64 u) (a' := a7) (bad' := er) (en' := u) rfl hle9
          have HCN := Lib.hid hcn
          have HKE := Lib.hid hke
          clear hR2 hn7 I7 hown hown7 hoa hbb hfo hf7 hap9 hown9 ho9 hD9 hD964 hs7 hs8 hs9 hHeld hbiw Ii fi f9 hX9 hrg x0 x1 x2 x3 Xi c3 hbi her hcn hke
          have HI9 := Lib.hid I9
          clear I9
          by_cases hen : 0 < en7
          · have de : decide ((0 : Int) < en7) = true := decide_eq_true hen
            go_wp2_with fail
            go_roundw
            case rel => exact ⟨i + 1, a7, er, _, D ++ [y], by omega, by go_num, HO9.out.2.1, HO9.out.2.2.1, Fr.ownN (HCN.out _).2 HO9.out.1 (fun k hk e => by have := (HO9.out.1.lt k hk).1; omega), (HCN.out _).1, HO9.out.2.2.2.trans (HCN.out _).2, .inr ⟨HKE.out, by rw [HR2.out, HER.out]⟩⟩
            case measure => simp [intOf]; omega
          · have de : decide ((0 : Int) < en7) = false := decide_eq_false hen
            go_wp2_with fail
            go_roundw
            case rel => exact ⟨i + 1, a7, er, _, D ++ [y], by omega, by go_num, HO9.out.2.1, HO9.out.2.2.1, HO9.out.1, HI9.out, HO9.out.2.2.2, .inr ⟨HKE.out, by rw [HR2.out, HER.out]⟩⟩
            case measure => simp [intOf]; omega
      · have db : (bad == 0) = false := by simp; exact hbad
        have dbn : (bad != 0) = true := by simp; exact hbad
        have HB9 := Lib.hid (And.intro hbad hRb)
        have hne : R.2.2 ≠ 0 := by rw [hRb]; exact hbad
        have HNE := Lib.hid hne
        clear hbad hRb hown hne
        go_upto_region 12 with fail
        go_quiet (fail)
        go_wp2
        go_ret3
        exact ⟨fun h9 => absurd h9 HNE.out, fun _ => by rw [HB9.out.2]; rfl, below_drewN hbiw nq⟩
    · have dl : decide (i < n) = false := decide_eq_false hlt
      rcases hcase with ⟨rfl, e0, rfl, he01, hRc⟩ | ⟨hbad, hRb⟩
      · have hin : i = n := by omega
        have hge : G.drop i = [] := List.drop_eq_nil_of_le (by omega)
        rw [hge] at hRc
        have hR2 : R = (D, a, 0) := by rw [hRc]; unfold cmbR rdAll; rw [if_neg (by simp)]; simp
        have HR2 := Lib.hid hR2
        have c2' := Ii.c2
        obtain ⟨Av, cv, hve, _, _, _⟩ := own_sliceN hown
        subst hve
        have HO8 := Lib.hid hown
        have HDD := Lib.hid (And.intro hD hD64)
        have hin1 : i ≤ n := by omega
        have hin2 : n ≤ i := by omega
        clear hRc hR2 hge hown hD hD64 hin
        go_upto_region 13 with fail
        go_quiet (fail)
        go_wp2
        go_ret3
        refine ⟨fun _ => ⟨_, by rw [HR2.out]; rfl, ?_, by rw [HR2.out]; exact HDD.out.2, by rw [HR2.out]; exact HDD.out.1.trans (by omega)⟩, fun h9 => absurd (by rw [HR2.out]) h9, below_drewN hbiw nq⟩
        have h9 : G.length = i := by omega
        rw [HR2.out, h9]
        exact own_baseN (own_keepN HO8.out (below_drewN (Below.refl _ _) nq)) (fun k hk => by have := (HO8.out.lt k hk).1; omega)
      · have db : (bad == 0) = false := by simp; exact hbad
        have dbn : (bad != 0) = true := by simp; exact hbad
        have HB9 := Lib.hid (And.intro hbad hRb)
        have hne : R.2.2 ≠ 0 := by rw [hRb]; exact hbad
        have HNE := Lib.hid hne
        clear hbad hRb hown hne
        go_upto_region 12 with fail
        go_quiet (fail)
        go_wp2
        go_ret3
        exact ⟨fun h9 => absurd h9 HNE.out, fun _ => by rw [HB9.out.2]; rfl, below_drewN hbiw nq⟩
theorem rread22_any {A1 A : Option Addr} {n1 c1 c K : Nat} {S Z L : List Int} {w : World} (hS : Cs w K A1 S Z) (hz : Zs Z) (hn1 : Z.length = n1) (hm : n1 ≤ 100000) (hSy : ∀ x ∈ S, 0 ≤ x ∧ x ≤ 255) (hB : B01 L) (hR0 : Rd w w.heap.size A (iv L)) (hA : ∀ q, A = some q → q.block < w.heap.size) (hc : L.length ≤ c ∧ c ≤ 9223372036854775807 ∧ L.length ≤ 1000000000)
    {A2 : Option Addr} {n c2 : Nat} {G : List (List Int)} (hG : Blk w A2 n G) (hn : n ≤ 1000) (F T H Kl : Nat) (hF1 : 1 ≤ F) (hft : F ≤ T) (hT63 : T ≤ 63) (hK9 : Kl ≤ 9) (hgl : GoodL G) {R : List (List Int) × Nat × Int} (hR : rdAll S Z L F (T + 1 - F) (H : Nat) (Kl : Nat) G 0 0 = R) :
    Calls Try.prog 79 #[.slice A1 n1 c1, .slice A L.length c, .slice A2 n c2, .agg #[.int .i64 (F : Nat), .int .i64 (T : Nat), .int .i64 (H : Nat), .int .i64 (Kl : Nat)]] w (Rr22P R G.length w) := by
  by_cases hh : H = 0
  · exact rread22_first hS hz hn1 hm hSy hB hR0 hA hc hG hn F T H Kl hF1 hft hT63 hK9 hh hgl hR
  · exact rread22_fine hS hz hn1 hm hSy hB hR0 hA hc hG hn F T H Kl hF1 hft hT63 hK9 hh hgl hR
end Go.Proofs.Ytlhappecjjbopaa
