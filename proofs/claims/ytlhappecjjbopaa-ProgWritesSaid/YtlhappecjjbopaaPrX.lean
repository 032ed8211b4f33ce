/-
  Prog: what is known of blocks behind a band (the program's Known), by a contract. Condition: at most 1000 blocks.
-/
import Derived.Test.YtlhappecjjbopaaPrV
import Derived.Test.YtlhappecjjbopaaPrP
namespace Go.Proofs.Ytlhappecjjbopaa
open Go.RowKit
set_option linter.unusedVariables false
set_option maxRecDepth 100000

/-- blocks, the first i of them as F makes them -/
def Part (G : List (List Int)) (F : List Int → List Int) (i : Nat) (L : List (List Int)) : Prop := L.length = G.length ∧ ∀ q, L[q]? = if q < i then (G[q]?).map F else G[q]?
theorem Part.zero (G : List (List Int)) (F : List Int → List Int) : Part G F 0 G := ⟨rfl, fun q => by rw [if_neg (by omega)]⟩
theorem Part.all {G L : List (List Int)} {F : List Int → List Int} {i : Nat} (h : Part G F i L) (hi : G.length ≤ i) : L = G.map F := by
  apply List.ext_getElem?
  intro q
  rw [h.2 q, List.getElem?_map]
  split
  · rfl
  · rw [List.getElem?_eq_none (by omega)]; rfl
theorem Part.at_ {G L : List (List Int)} {F : List Int → List Int} {i : Nat} (h : Part G F i L) {x : List Int} (hx : G[i]? = some x) : L[i]? = some x := by rw [h.2 i, if_neg (by omega), hx]
/-- the i-th in the making -/
def PartX (G : List (List Int)) (F : List Int → List Int) (i : Nat) (y : List Int) (L : List (List Int)) : Prop := L.length = G.length ∧ ∀ q, L[q]? = if q < i then (G[q]?).map F else if q = i then some y else G[q]?
theorem Part.x {G L : List (List Int)} {F : List Int → List Int} {i : Nat} (h : Part G F i L) {x : List Int} (hx : G[i]? = some x) : PartX G F i x L := ⟨h.1, fun q => by
  rw [h.2 q]
  split
  · rfl
  · split
    · rename_i h2; rw [h2]; exact hx
    · rfl⟩
theorem PartX.at_ {G L : List (List Int)} {F : List Int → List Int} {i : Nat} {y : List Int} (h : PartX G F i y L) : L[i]? = some y := by rw [h.2 i, if_neg (by omega), if_pos rfl]
theorem PartX.set {G L : List (List Int)} {F : List Int → List Int} {i : Nat} {y : List Int} (h : PartX G F i y L) (hi : i < G.length) (z : List Int) : PartX G F i z (L.set i z) := ⟨by rw [List.length_set]; exact h.1, fun q => by
  rw [List.getElem?_set]
  by_cases hq : i = q
  · subst hq
    rw [if_pos rfl, if_pos (by rw [h.1]; exact hi), if_neg (by omega), if_pos rfl]
  · rw [if_neg hq, h.2 q]
    split
    · rfl
    · rw [if_neg (fun e => hq e.symm), if_neg (fun e => hq e.symm)]⟩
theorem PartX.done {G L : List (List Int)} {F : List Int → List Int} {i : Nat} {x : List Int} (h : PartX G F i (F x) L) (hx : G[i]? = some x) : Part G F (i + 1) L := ⟨h.1, fun q => by
  rw [h.2 q]
  by_cases hq : q < i
  · rw [if_pos hq, if_pos (by omega)]
  · rw [if_neg hq]
    by_cases he : q = i
    · subst he
      rw [if_pos rfl, if_pos (by omega), hx]; rfl
    · rw [if_neg he, if_neg (by omega)]⟩

theorem Box4.fr {w w' : World} {g : Nat} {a b c d : Value} {S : Nat → Prop} (h : Box4 w g a b c d) (hf : Fr S w w') (hs : ¬ S g) : Box4 w' g a b c d :=
  ⟨Nat.lt_of_lt_of_le h.lt hf.size, (hf.cell (p := ⟨g, 0, none⟩) h.lt hs).trans h.c0, (hf.cell (p := ⟨g, 1, none⟩) h.lt hs).trans h.c1, (hf.cell (p := ⟨g, 2, none⟩) h.lt hs).trans h.c2, (hf.cell (p := ⟨g, 3, none⟩) h.lt hs).trans h.c3⟩
def knB (f t : Nat) (l : Int) (dc : Bool) (x : List Int) : List Int := knG x f l dc (t + 1 - f)
def KnownP (f t h l : Int) (G : List (List Int)) (w : World) (e : Ending) (w' : World) : Prop :=
  (Gd f t h l ∧ GoodL G → ∃ v, e = .returned (.tuple #[v, .nilIface]) ∧ w'.ownsRow w.heap.size 70 64 v G.length ((G.map (knB f.toNat t.toNat l (decide (f = 0)))).map iv).flatten) ∧
  (¬ (Gd f t h l ∧ GoodL G) → e = .returned (.tuple #[.slice none 0 0, errV 6])) ∧ Below w.heap.size w w'
def KnR (F T : Nat) (l : Int) (n B : Nat) (v : Value) (G : List (List Int)) (w3 : World) (ix : Value) (wr : World) : Prop :=
  ∃ (i : Nat) (L : List (List Int)), i ≤ n ∧ ix = .int .i64 i ∧ Part G (knB F T l (decide ((F : Int) = 0))) i L ∧ (∀ x ∈ L, x.length = 64) ∧ wr.ownsRow B 70 64 v n (L.map iv).flatten ∧ Fr (fun b => v.ownBlock = some b) w3 wr
def KnQ (F T : Nat) (l : Int) (n N B g c i : Nat) (x : List Int) (G : List (List Int)) (w4 : World) (ix : Value) (wr : World) : Prop :=
  ∃ (j : Nat) (L : List (List Int)), j ≤ N ∧ ix = .int .i64 j ∧ PartX G (knB F T l (decide ((F : Int) = 0))) i (knG x F l (decide ((F : Int) = 0)) j) L ∧ Gro wr B g c n L ∧ Fr (fun b => b = g) w4 wr

set_option maxHeartbeats 16000000 in
theorem known_any {w : World} {A : Option Addr} {n c : Nat} {G : List (List Int)} (hG : Blk w A n G) (hn : n ≤ 1000) (f t h l : Int) :
    Calls Try.prog 80 #[.slice A n c, .agg #[.int .i64 f, .int .i64 t, .int .i64 h, .int .i64 l]] w (KnownP f t h l G w) := by
  have X := Box4.new w 107 (.int .i64 f) (.int .i64 t) (.int .i64 h) (.int .i64 l)
  have hb0 : Below w.heap.size w (w.alloc (.cells #[.int .i64 f, .int .i64 t, .int .i64 h, .int .i64 l] 107)) := (Below.refl _ _).alloc (Nat.le_refl _) _
  have HGG := Lib.hid hG
  clear hG
  go_enter Try.func80, Try.ntmps80
  go_upto_region 1 with fail
  obtain ⟨gb, hgb⟩ : ∃ gb, gb = w.heap.size := ⟨_, rfl⟩
  generalize w.alloc (.cells #[.int .i64 f, .int .i64 t, .int .i64 h, .int .i64 l] 107) = w0 at *
  rw [← hgb] at X ⊢
  have HGB := Lib.hid hgb
  clear hgb
  have hg0 := HGG.out.below hb0
  obtain ⟨_, x0, x1, x2, x3⟩ := id X
  by_cases hgd : Gd f t h l
  · have HGD := Lib.hid hgd
    go_wp2_with fail
    refine (bcheck_any f t h l .nilIface (fun hg => rfl) (fun hg => absurd hgd hg) w0).mono ?_; rintro e w1 ⟨rfl, hb1⟩
    have X1 := X.below hb1 X.lt
    have hb1' := hb0.trans (hb1.mono hb0.size)
    have hg1 := HGG.out.below hb1'
    clear x0 x1 x2 x3 X hgd
    obtain ⟨_, x0, x1, x2, x3⟩ := id X1
    by_cases hgl : GoodL G
    · have HGL := Lib.hid hgl
      have dg := gL_t hgl
      go_wp2_with fail
      refine (sound_any A n c G w1 hg1 (by omega)).mono ?_; rintro e w2 ⟨rfl, hb2⟩
      rw [dg]
      have X2 := X1.below hb2 X1.lt
      have hb2' := hb1'.trans (hb2.mono hb1'.size)
      have hg2 := HGG.out.below hb2'
      have hs2 := hb2'.size
      clear x0 x1 x2 x3 X1 hgl dg hg1 hb1 hb2
      obtain ⟨_, x0, x1, x2, x3⟩ := id X2
      go_wp2_with fail
      refine (cloneB_any A n c G w2 hg2 (by omega)).mono ?_; rintro e w3 ⟨v, rfl, ho3, hb3⟩
      have X3 := X2.below hb3 X2.lt
      have hb3' := hb2'.trans (hb3.mono hs2)
      have hs3 := hb3'.size
      have hgb2 := X2.lt
      clear x0 x1 x2 x3 X2
      have hgd2 : 0 ≤ f ∧ f ≤ t ∧ t ≤ 63 ∧ 0 ≤ l ∧ l ≤ 9 := by have := HGD.out; unfold Gd at this; omega
      obtain ⟨F, rfl⟩ := Int.eq_ofNat_of_zero_le (show 0 ≤ f by omega)
      obtain ⟨T, rfl⟩ := Int.eq_ofNat_of_zero_le (show 0 ≤ t by omega)
      obtain ⟨K, rfl⟩ := Int.eq_ofNat_of_zero_le (show 0 ≤ l by omega)
      have hft : F ≤ T := by omega
      have hT63 : T ≤ 63 := by omega
      have hK9 : K ≤ 9 := by omega
      have hpK := two_int K (by omega)
      obtain ⟨N, hN⟩ : ∃ N, N = T + 1 - F := ⟨_, rfl⟩
      have HN := Lib.hid hN
      have hN1 : 1 ≤ N := by omega
      have hfN : F + N ≤ 64 := by omega
      obtain ⟨Av, cv, hve, _, _, _⟩ := own_sliceN ho3
      subst hve
      have hvb := fun k hk => (ho3.lt k hk).1
      have hlen3 := HGG.out.len
      obtain ⟨b2, hb2q⟩ : ∃ b, b = w2.heap.size := ⟨_, rfl⟩
      rw [← hb2q] at ho3 hvb hgb2
      have HB2 := Lib.hid hb2q
      clear hgd2 hN hb2q hb3 hb2' hb1' hb0
      go_wp2_with fail
      go_loopw [23] (KnR F T K n b2 (.slice Av n cv) G w3) (fun ix _ => n - (intOf ix).toNat)
      case atStart => exact ⟨0, G, Nat.zero_le _, rfl, Part.zero _ _, HGG.out.l64, ho3, Fr.refl _ _⟩
      case round =>
        obtain ⟨i, L, hi, rfl, hP, hL64, ho, hf⟩ := hrel
        obtain ⟨wi, rfl⟩ : ∃ wi : World, wi = wr := ⟨_, rfl⟩
        clear ho3
        by_cases hlt : i < n
        · have dl : decide (i < n) = true := decide_eq_true hlt
          obtain ⟨g, cap, hge, hbg, hgl⟩ := ho.form (by omega)
          injection hge with hg1 hg2 hg3
          subst hg1 hg3
          have hgne : gb ≠ g := by omega
          have X4 : Box4 wi gb (.int .i64 (F : Nat)) (.int .i64 (T : Nat)) (.int .i64 h) (.int .i64 (K : Nat)) := X3.fr hf (fun e => hgne (by injection e with e; exact e.symm))
          obtain ⟨_, x0, x1, x2, x3⟩ := id X4
          obtain ⟨x, hx⟩ : ∃ x, G[i]? = some x := ⟨G[i]'(by omega), List.getElem?_eq_getElem _⟩
          have hxm := List.mem_of_getElem? hx
          have hx64 := HGG.out.l64 x hxm
          have hxg := HGL.out x hxm
          have HX := Lib.hid hx
          have HX64 := Lib.hid hx64
          have HXG := Lib.hid hxg
          have HPX := Lib.hid (hP.x hx)
          have hgro : Gro wi b2 g cv n L := ⟨ho, by rw [hP.1]; exact hlen3, hL64⟩
          clear hx hxm hx64 hxg ho hP
          go_wp2_with fail
          refine (places_any F T h (K : Nat) hft hT63 wi).mono ?_; rintro e w4 ⟨vz, rfl, hoz, hb4⟩
          rw [← HN.out] at hoz
          obtain ⟨gz, cz, hze, hcn, hcm, hgzl, hgz⟩ := own_pos hoz hN1
          subst hze
          have X5 := X4.below hb4 X4.lt
          have hgro4 := hgro.below hb4
          have hs4 := hb4.size
          have hgzg : gz ≠ g := by omega
          have hgb4 := X5.lt
          have hgl4 := hgro4.lt
          have hf4 : Fr (fun b => (Value.slice (some ⟨g, 0, none⟩) n cv).ownBlock = some b) w3 w4 := hf.trans (Fr.of_below hb4)
          clear x0 x1 x2 x3 X4 hgro hb4 hf
          go_wp2_with fail
          go_loopw [29] (KnQ F T K n N b2 g cv i x G w4) (fun ix _ => N - (intOf ix).toNat)
          case atStart => exact ⟨0, L, Nat.zero_le _, rfl, HPX.out, hgro4, Fr.refl _ _⟩
          case round =>
            clear HPX hgro4
            obtain ⟨j, L1, hj, rfl, hPX, hgro, hf⟩ := hrel
            obtain ⟨wj, rfl⟩ : ∃ wj : World, wj = wr := ⟨_, rfl⟩
            by_cases hlj : j < N
            · have dj : decide (j < N) = true := decide_eq_true hlj
              have X6 : Box4 wj gb (.int .i64 (F : Nat)) (.int .i64 (T : Nat)) (.int .i64 h) (.int .i64 (K : Nat)) := X5.fr hf hgne
              obtain ⟨_, x0, x1, x2, x3⟩ := id X6
              have hoz6 := hf.ownN hoz (fun k hk e => by injection hk with hk; simp only at hk; omega)
              have cz1 := World.ownsRow.cellAt hoz6 j (by omega)
              rw [show (iv (plc F N))[j]? = some (.int .i64 ((zzN (F + j) : Nat) : Int)) from by unfold iv; rw [List.getElem?_map, plc_at hfN hlj]; rfl] at cz1
              have hzb := zzN_bd (F + j) (by omega)
              have cg := hgro.cell hPX.at_ hzb.1
              rw [knG_at x F (K : Nat) _ (show F + j < 64 by omega) j (Nat.le_refl _)] at cg
              have fg := hgro.fz (i * 64 + zzN (F + j))
              obtain ⟨z, hz⟩ : ∃ z, z = zzN (F + j) := ⟨_, rfl⟩
              obtain ⟨vx, hvx⟩ : ∃ v, v = x.getD z 0 := ⟨_, rfl⟩
              have hvb1 : -1024 ≤ vx ∧ vx ≤ 1023 := by
                rw [hvx, hz]; exact tn_bd HX64.out HXG.out F (K : Nat) j (by omega)
              have htl := tl_low2 (l := (K : Int)) hvb1.1 hvb1.2 (decide ((F : Int) = 0))
              have htb := tl_bd (n := vx) (K : Nat) hvb1.1 hvb1.2 (decide ((F : Int) = 0))
              rw [← hz] at cz1 cg fg hzb
              rw [← hvx] at cg
              have hn1 := hgro.set hPX.at_ hzb.1 (tl vx (K : Nat) (decide ((F : Int) = 0)) * 2 ^ K)
              have hPn : PartX G (knB F T (K : Nat) (decide ((F : Int) = 0))) i (knG x F (K : Nat) (decide ((F : Int) = 0)) (j + 1)) (L1.set i ((knG x F (K : Nat) (decide ((F : Int) = 0)) j).set z (tl vx (K : Nat) (decide ((F : Int) = 0)) * 2 ^ K))) := by
                have := hPX.set (by rw [hlen3]; exact hlt) (knG x F (K : Nat) (decide ((F : Int) = 0)) (j + 1))
                rw [knG, ← hz, ← hvx, Int.toNat_natCast] at this
                rw [knG, ← hz, ← hvx, Int.toNat_natCast]
                exact this
              obtain ⟨dcq, hdcq⟩ : ∃ d, d = decide ((F : Int) = 0) := ⟨_, rfl⟩
              have hdcw := fun W : World => dc_any (F : Int) (T : Int) h (K : Int) W
              rw [← hdcq] at hdcw
              obtain ⟨u, hu⟩ : ∃ u, u = tl vx (K : Nat) dcq := ⟨_, rfl⟩
              have hut := fun W : World => tell_any vx (K : Int) dcq (by omega) W
              rw [← hdcq, ← hu] at htl htb hn1 hPn
              rw [← hu] at hut
              rw [Int.toNat_natCast] at htl
              have hw1 : IntKind.i64.wrap (u * (2 : Int) ^ K) = u * 2 ^ K := IntWalk.i64_in _ (by omega)
              have hw2 : wrap64 (u * (2 : Int) ^ K) = u * 2 ^ K := by unfold wrap64; omega
              have hgro' : Gro wj.drew b2 g cv n L1 := ⟨hgro.own.drew, hgro.len, hgro.b64⟩
              have hglt := hgro.lt
              have hi0 : (0 : Int) ≤ (i : Int) := by omega
              have hi1 : (i : Int) < (n : Int) := by omega
              have hj0 : (0 : Int) ≤ (j : Int) := by omega
              have hj1 : (j : Int) < (N : Int) := by omega
              have hz0 : (0 : Int) ≤ (z : Int) := by omega
              have hz1 : (z : Int) < 64 := by omega
              have HDC := Lib.hid hdcw
              have HUT := Lib.hid hut
              have HGR := Lib.hid hgro'
              have HPN := Lib.hid hPn
              have hpa := hPX.at_
              rw [← hdcq] at hpa
              have HPA := Lib.hid hpa
              clear hpa
              have HDQ := Lib.hid hdcq
              have HZ64 := Lib.hid hzb.1
              have hbl := X6.lt
              have hQK : ∀ W W' : World, (Fr (fun b => b = g) wj W ∧ W.cell? ⟨gb, 0, none⟩ = some (.int .i64 (F : Nat)) ∧ W.cell? ⟨gb, 1, none⟩ = some (.int .i64 (T : Nat)) ∧ W.cell? ⟨gb, 2, none⟩ = some (.int .i64 h) ∧ W.cell? ⟨gb, 3, none⟩ = some (.int .i64 (K : Nat))) → Below W.heap.size W W' → (Fr (fun b => b = g) wj W' ∧ W'.cell? ⟨gb, 0, none⟩ = some (.int .i64 (F : Nat)) ∧ W'.cell? ⟨gb, 1, none⟩ = some (.int .i64 (T : Nat)) ∧ W'.cell? ⟨gb, 2, none⟩ = some (.int .i64 h) ∧ W'.cell? ⟨gb, 3, none⟩ = some (.int .i64 (K : Nat))) := fun W W' q hb => by
                have h2 := q.1.trans (Fr.of_below hb)
                have X7 := X6.fr h2 hgne
                exact ⟨h2, X7.c0, X7.c1, X7.c2, X7.c3⟩
              have hQS : ∀ (W : World) (q : Nat) (y : Value), (Fr (fun b => b = g) wj W ∧ W.cell? ⟨gb, 0, none⟩ = some (.int .i64 (F : Nat)) ∧ W.cell? ⟨gb, 1, none⟩ = some (.int .i64 (T : Nat)) ∧ W.cell? ⟨gb, 2, none⟩ = some (.int .i64 h) ∧ W.cell? ⟨gb, 3, none⟩ = some (.int .i64 (K : Nat))) → (Fr (fun b => b = g) wj (W.setCell ⟨g, q, none⟩ y) ∧ (W.setCell ⟨g, q, none⟩ y).cell? ⟨gb, 0, none⟩ = some (.int .i64 (F : Nat)) ∧ (W.setCell ⟨g, q, none⟩ y).cell? ⟨gb, 1, none⟩ = some (.int .i64 (T : Nat)) ∧ (W.setCell ⟨g, q, none⟩ y).cell? ⟨gb, 2, none⟩ = some (.int .i64 h) ∧ (W.setCell ⟨g, q, none⟩ y).cell? ⟨gb, 3, none⟩ = some (.int .i64 (K : Nat))) := fun W q y p => by
                have h2 := p.1.setCell (p := ⟨g, q, none⟩) (.inl rfl) y
                have X7 := X6.fr h2 hgne
                exact ⟨h2, X7.c0, X7.c1, X7.c2, X7.c3⟩
              have HQK := Lib.hid hQK
              have HQS := Lib.hid hQS
              have HF0 := Lib.hid (Fr.refl (fun b => b = g) wj)
              clear hdcw hut hgro' hPn hdcq hQK hQS hu hvx hz hn1 hPX
              go_upto_region 10 with fail
              have hfj := hf
              have HFJ := Lib.hid hfj
              clear X6 hf hfj hf4 X5 X3 hoz hoz6 hgro
              refine wp_region_held_drew (S := (fun W : World => Fr (fun b => b = g) wj W ∧ W.cell? ⟨gb, 0, none⟩ = some (.int .i64 (F : Nat)) ∧ W.cell? ⟨gb, 1, none⟩ = some (.int .i64 (T : Nat)) ∧ W.cell? ⟨gb, 2, none⟩ = some (.int .i64 h) ∧ W.cell? ⟨gb, 3, none⟩ = some (.int .i64 (K : Nat)))) (by kernel_rfl) ⟨HF0.out.drew, x0, x1, x2, x3⟩ (fun hHeld => ?_)
              refine wpAnyH_take (i := 0) (oi := { dst := some 33, op := Op.move (Operand.tmp 6), type := 105, pos := _, after := _, guard := none }) (v := Value.slice (some ⟨g, 0, none⟩) n cv) rfl (by kernel_rfl) (by kernel_rfl) (by kernel_rfl) (fun _ _ _ h => h) (Or.inl ⟨by rfl, fun w hSw => by go_simp⟩) hHeld ?_
              simp only [Act.put, List.setIfInBounds_toArray, List.set_cons_zero, List.set_cons_succ]
              refine wpAnyH_take (i := 1) (oi := { dst := some 34, op := Op.move (Operand.tmp 7), type := 3, pos := _, after := _, guard := none }) (v := Value.int .i64 (i : Nat)) rfl (by kernel_rfl) (by kernel_rfl) (by kernel_rfl) (fun _ _ _ h => h) (Or.inl ⟨by rfl, fun w hSw => by go_simp⟩) hHeld ?_
              simp only [Act.put, List.setIfInBounds_toArray, List.set_cons_zero, List.set_cons_succ]
              refine wpAnyH_take (i := 2) (oi := { dst := some 35, op := Op.move (Operand.tmp 9), type := 3, pos := _, after := _, guard := none }) (v := Value.int .i64 (z : Nat)) rfl (by kernel_rfl) (by kernel_rfl) (by kernel_rfl) (fun _ _ _ h => h) (Or.inl ⟨by rfl, fun w hSw => by go_simp⟩) hHeld ?_
              simp only [Act.put, List.setIfInBounds_toArray, List.set_cons_zero, List.set_cons_succ]
              refine wpAnyH_take (i := 3) (oi := { dst := some 36, op := Op.move (Operand.tmp 6), type := 105, pos := _, after := _, guard := none }) (v := Value.slice (some ⟨g, 0, none⟩) n cv) rfl (by kernel_rfl) (by kernel_rfl) (by kernel_rfl) (fun _ _ _ h => h) (Or.inl ⟨by rfl, fun w hSw => by go_simp⟩) hHeld ?_
              simp only [Act.put, List.setIfInBounds_toArray, List.set_cons_zero, List.set_cons_succ]
              refine wpAnyH_take (i := 4) (oi := { dst := some 37, op := Op.move (Operand.tmp 7), type := 3, pos := _, after := _, guard := none }) (v := Value.int .i64 (i : Nat)) rfl (by kernel_rfl) (by kernel_rfl) (by kernel_rfl) (fun _ _ _ h => h) (Or.inl ⟨by rfl, fun w hSw => by go_simp⟩) hHeld ?_
              simp only [Act.put, List.setIfInBounds_toArray, List.set_cons_zero, List.set_cons_succ]
              refine wpAnyH_take (i := 5) (oi := { dst := some 38, op := Op.move (Operand.tmp 9), type := 3, pos := _, after := _, guard := none }) (v := Value.int .i64 (z : Nat)) rfl (by kernel_rfl) (by kernel_rfl) (by kernel_rfl) (fun _ _ _ h => h) (Or.inl ⟨by rfl, fun w hSw => by go_simp⟩) hHeld ?_
              simp only [Act.put, List.setIfInBounds_toArray, List.set_cons_zero, List.set_cons_succ]
              refine wpAnyH_take (i := 6) (oi := { dst := some 39, op := Op.indexAddr 105 (Operand.tmp 36) (Operand.tmp 37), type := 0, pos := _, after := _, guard := none }) (v := Value.pointer (some ⟨g, i * 64, none⟩)) rfl (by kernel_rfl) (by kernel_rfl) (by kernel_rfl) (fun _ _ _ h => h) (Or.inl ⟨by rfl, fun w hSw => by go_simp⟩) hHeld ?_
              simp only [Act.put, List.setIfInBounds_toArray, List.set_cons_zero, List.set_cons_succ]
              refine wpAnyH_take (i := 7) (oi := { dst := some 40, op := Op.indexAddr 70 (Operand.tmp 39) (Operand.tmp 38), type := 0, pos := _, after := _, guard := none }) (v := Value.pointer (some ⟨g, i * 64 + z, none⟩)) rfl (by kernel_rfl) (by kernel_rfl) (by kernel_rfl) (fun _ _ _ h => h) (Or.inl ⟨by rfl, fun w hSw => by go_simp⟩) hHeld ?_
              simp only [Act.put, List.setIfInBounds_toArray, List.set_cons_zero, List.set_cons_succ]
              refine wpAnyH_take (i := 9) (oi := { dst := some 42, op := Op.fieldAddr 107 (Operand.tmp 3) 3, type := 0, pos := _, after := _, guard := none }) (v := Value.pointer (some ⟨gb, 3, none⟩)) rfl (by kernel_rfl) (by kernel_rfl) (by kernel_rfl) (fun _ _ _ h => h) (Or.inl ⟨by rfl, fun w hSw => by go_simp⟩) hHeld ?_
              simp only [Act.put, List.setIfInBounds_toArray, List.set_cons_zero, List.set_cons_succ]
              refine wpAnyH_take (i := 10) (oi := { dst := some 43, op := Op.load 3 (Operand.tmp 42), type := 3, pos := _, after := _, guard := none }) (v := Value.int .i64 (K : Nat)) rfl (by kernel_rfl) (by kernel_rfl) (by kernel_rfl) (fun _ _ _ h => h) (Or.inl ⟨by rfl, fun w hSw => by go_simp⟩) hHeld ?_
              simp only [Act.put, List.setIfInBounds_toArray, List.set_cons_zero, List.set_cons_succ]
              refine wpAnyH_take (i := 11) (oi := { dst := some 44, op := Op.load 107 (Operand.tmp 3), type := 107, pos := _, after := _, guard := none }) (v := Value.agg #[.int .i64 (F : Nat), .int .i64 (T : Nat), .int .i64 h, .int .i64 (K : Nat)]) rfl (by kernel_rfl) (by kernel_rfl) (by kernel_rfl) (fun _ _ _ h => h) (Or.inl ⟨by rfl, fun w hSw => by go_simp⟩) hHeld ?_
              simp only [Act.put, List.setIfInBounds_toArray, List.set_cons_zero, List.set_cons_succ]
              refine wpAnyH_take (i := 14) (oi := { dst := some 47, op := Op.fieldAddr 107 (Operand.tmp 3) 3, type := 0, pos := _, after := _, guard := none }) (v := Value.pointer (some ⟨gb, 3, none⟩)) rfl (by kernel_rfl) (by kernel_rfl) (by kernel_rfl) (fun _ _ _ h => h) (Or.inl ⟨by rfl, fun w hSw => by go_simp⟩) hHeld ?_
              simp only [Act.put, List.setIfInBounds_toArray, List.set_cons_zero, List.set_cons_succ]
              refine wpAnyH_take (i := 15) (oi := { dst := some 48, op := Op.load 3 (Operand.tmp 47), type := 3, pos := _, after := _, guard := none }) (v := Value.int .i64 (K : Nat)) rfl (by kernel_rfl) (by kernel_rfl) (by kernel_rfl) (fun _ _ _ h => h) (Or.inl ⟨by rfl, fun w hSw => by go_simp⟩) hHeld ?_
              simp only [Act.put, List.setIfInBounds_toArray, List.set_cons_zero, List.set_cons_succ]
              refine wpAnyH_take (i := 17) (oi := { dst := some 50, op := Op.indexAddr 105 (Operand.tmp 33) (Operand.tmp 34), type := 0, pos := _, after := _, guard := none }) (v := Value.pointer (some ⟨g, i * 64, none⟩)) rfl (by kernel_rfl) (by kernel_rfl) (by kernel_rfl) (fun _ _ _ h => h) (Or.inl ⟨by rfl, fun w hSw => by go_simp⟩) hHeld ?_
              simp only [Act.put, List.setIfInBounds_toArray, List.set_cons_zero, List.set_cons_succ]
              refine wpAnyH_ready (rs := [8, 12]) (by kernel_rfl) (by simp) ?_
              refine AllReadyH.cons (o := { dst := some 41, op := Op.load 3 (Operand.tmp 40), type := 3, pos := _, after := _, guard := none }) rfl (fun K' hK => ?_) ?_
              · rw [if_pos (by rfl)]
                go_simp
                refine hK.out _ _ hHeld (fun _ => ?_)
                clear hK K'
                refine wpAnyH_ready (rs := [12]) (by kernel_rfl) (by simp) ?_
                refine AllReadyH.cons (o := { dst := some 45, op := Op.call { callee := Callee.value (Operand.func 115), args := #[Operand.tmp 44], argTypes := #[107] }, type := 4, pos := _, after := _, guard := none }) rfl (fun K' hK => ?_) AllReadyH.nil
                rw [if_pos (by rfl)]
                go_simp
                refine (HDC.out _).mono ?_
                rintro e wq ⟨rfl, hbq⟩
                have hq := HQK.out _ _ hHeld hbq
                have hgq := HGR.out.below hbq
                have cgq := (hbq.cell (p := ⟨g, i * 64 + z, none⟩) hglt.2).trans cg
                have fgq := hgq.fz (i * 64 + z)
                refine hK.out _ _ hq (fun _ => ?_)
                clear hK K'
                refine wpAnyH_ready (rs := [13]) (by kernel_rfl) (by simp) ?_
                refine AllReadyH.cons (o := { dst := some 46, op := Op.call { callee := Callee.value (Operand.func 96), args := #[Operand.tmp 41, Operand.tmp 43, Operand.tmp 45], argTypes := #[3, 3, 4] }, type := 3, pos := _, after := _, guard := none }) rfl (fun K' hK => ?_) AllReadyH.nil
                rw [if_pos (by rfl)]
                go_simp
                refine (HUT.out _).mono ?_
                rintro e w' ⟨rfl, rfl⟩
                refine hK.out _ _ hq (fun _ => ?_)
                clear hK K'
                refine wpAnyH_take (i := 16) (oi := { dst := some 49, op := Op.binOp BinOp.shl 3 (Operand.tmp 46) (Operand.tmp 48) 3, type := 3, pos := _, after := _, guard := none }) (v := Value.int .i64 (u * 2 ^ K)) rfl (by kernel_rfl) (by kernel_rfl) (by kernel_rfl) (fun _ _ _ h => h) (Or.inl ⟨by rfl, fun w hSw => by go_simp⟩) hq ?_
                simp only [Act.put, List.setIfInBounds_toArray, List.set_cons_zero, List.set_cons_succ]
                refine wpAnyH_take (i := 18) (oi := { dst := some 51, op := Op.indexAddr 70 (Operand.tmp 50) (Operand.tmp 35), type := 0, pos := _, after := _, guard := none }) (v := Value.pointer (some ⟨g, i * 64 + z, none⟩)) rfl (by kernel_rfl) (by kernel_rfl) (by kernel_rfl) (fun _ _ _ h => h) (Or.inl ⟨by rfl, fun w hSw => by go_simp⟩) hq ?_
                simp only [Act.put, List.setIfInBounds_toArray, List.set_cons_zero, List.set_cons_succ]
                refine wpAnyH_ready (rs := [19]) (by kernel_rfl) (by simp) ?_
                refine AllReadyH.cons (o := { dst := none, op := Op.store 3 (Operand.tmp 51) (Operand.tmp 49), type := 0, pos := _, after := _, guard := none }) rfl (fun K' hK => ?_) AllReadyH.nil
                rw [if_pos (by rfl)]
                go_simp
                refine hK.out _ _ (HQS.out _ _ _ hq) (fun _ => ?_)
                clear hK K'
                refine wpAnyH_done (by kernel_rfl) ?_ _
                have hset := hgq.set HPA.out HZ64.out (u * 2 ^ K)
                have hfn := HFJ.out.trans (HQS.out _ (i * 64 + z) (.int .i64 (u * 2 ^ K)) hq).1
                have HSN := Lib.hid (And.intro hset hfn)
                clear hset hfn x0 x1 x2 x3 cg fg cz1
                go_wp2_with fail
                go_roundw
                case rel => exact ⟨j + 1, _, by omega, by go_num, by have := HPN.out; rw [HDQ.out] at this; exact this, by have := HSN.out.1; rw [HDQ.out] at this; exact this, HSN.out.2⟩
                case measure => simp [intOf]; omega
              refine AllReadyH.cons (o := { dst := some 45, op := Op.call { callee := Callee.value (Operand.func 115), args := #[Operand.tmp 44], argTypes := #[107] }, type := 4, pos := _, after := _, guard := none }) rfl (fun K' hK => ?_) AllReadyH.nil
              rw [if_pos (by rfl)]
              go_simp
              refine (HDC.out _).mono ?_
              rintro e wq ⟨rfl, hbq⟩
              have hq := HQK.out _ _ hHeld hbq
              have hgq := HGR.out.below hbq
              have cgq := (hbq.cell (p := ⟨g, i * 64 + z, none⟩) hglt.2).trans cg
              have fgq := hgq.fz (i * 64 + z)
              refine hK.out _ _ hq (fun _ => ?_)
              clear hK K'
              refine wpAnyH_ready (rs := [8]) (by kernel_rfl) (by simp) ?_
              refine AllReadyH.cons (o := { dst := some 41, op := Op.load 3 (Operand.tmp 40), type := 3, pos := _, after := _, guard := none }) rfl (fun K' hK => ?_) AllReadyH.nil
              rw [if_pos (by rfl)]
              go_simp
              refine hK.out _ _ hq (fun _ => ?_)
              clear hK K'
              refine wpAnyH_ready (rs := [13]) (by kernel_rfl) (by simp) ?_
              refine AllReadyH.cons (o := { dst := some 46, op := Op.call { callee := Callee.value (Operand.func 96), args := #[Operand.tmp 41, Operand.tmp 43, Operand.tmp 45], argTypes := #[3, 3, 4] }, type := 3, pos := _, after := _, guard := none }) rfl (fun K' hK => ?_) AllReadyH.nil
              rw [if_pos (by rfl)]
              go_simp
              refine (HUT.out _).mono ?_
              rintro e w' ⟨rfl, rfl⟩
              refine hK.out _ _ hq (fun _ => ?_)
              clear hK K'
              refine wpAnyH_take (i := 16) (oi := { dst := some 49, op := Op.binOp BinOp.shl 3 (Operand.tmp 46) (Operand.tmp 48) 3, type := 3, pos := _, after := _, guard := none }) (v := Value.int .i64 (u * 2 ^ K)) rfl (by kernel_rfl) (by kernel_rfl) (by kernel_rfl) (fun _ _ _ h => h) (Or.inl ⟨by rfl, fun w hSw => by go_simp⟩) hq ?_
              simp only [Act.put, List.setIfInBounds_toArray, List.set_cons_zero, List.set_cons_succ]
              refine wpAnyH_take (i := 18) (oi := { dst := some 51, op := Op.indexAddr 70 (Operand.tmp 50) (Operand.tmp 35), type := 0, pos := _, after := _, guard := none }) (v := Value.pointer (some ⟨g, i * 64 + z, none⟩)) rfl (by kernel_rfl) (by kernel_rfl) (by kernel_rfl) (fun _ _ _ h => h) (Or.inl ⟨by rfl, fun w hSw => by go_simp⟩) hq ?_
              simp only [Act.put, List.setIfInBounds_toArray, List.set_cons_zero, List.set_cons_succ]
              refine wpAnyH_ready (rs := [19]) (by kernel_rfl) (by simp) ?_
              refine AllReadyH.cons (o := { dst := none, op := Op.store 3 (Operand.tmp 51) (Operand.tmp 49), type := 0, pos := _, after := _, guard := none }) rfl (fun K' hK => ?_) AllReadyH.nil
              rw [if_pos (by rfl)]
              go_simp
              refine hK.out _ _ (HQS.out _ _ _ hq) (fun _ => ?_)
              clear hK K'
              refine wpAnyH_done (by kernel_rfl) ?_ _
              have hset := hgq.set HPA.out HZ64.out (u * 2 ^ K)
              have hfn := HFJ.out.trans (HQS.out _ (i * 64 + z) (.int .i64 (u * 2 ^ K)) hq).1
              have HSN := Lib.hid (And.intro hset hfn)
              clear hset hfn x0 x1 x2 x3 cg fg cz1
              go_wp2_with fail
              go_roundw
              case rel => exact ⟨j + 1, _, by omega, by go_num, by have := HPN.out; rw [HDQ.out] at this; exact this, by have := HSN.out.1; rw [HDQ.out] at this; exact this, HSN.out.2⟩
              case measure => simp [intOf]; omega
            · have dj : decide (j < N) = false := decide_eq_false hlj
              have hjN : j = N := by omega
              rw [hjN, HN.out] at hPX
              have hPd : Part G (knB F T (K : Nat) (decide ((F : Int) = 0))) (i + 1) L1 := PartX.done (x := x) hPX HX.out
              have hfe : Fr (fun b => (Value.slice (some ⟨g, 0, none⟩) n cv).ownBlock = some b) w3 wj := hf4.trans (hf.mono (fun b hb => by rw [hb]; rfl))
              clear hjN hf4 hf
              go_wp2_with fail
              go_roundw
              case rel => exact ⟨i + 1, L1, by omega, by go_num, hPd, hgro.b64, hgro.own, hfe⟩
              case measure => simp [intOf]; omega
        · have dl : decide (i < n) = false := decide_eq_false hlt
          have hall := hP.all (by omega)
          go_wp2
          go_ret2
          refine ⟨fun _ => ⟨_, rfl, ?_⟩, fun q => absurd ⟨HGD.out, HGL.out⟩ q, ?_⟩
          · rw [Int.toNat_natCast, Int.toNat_natCast, ← hall, HGG.out.len]
            exact own_baseN ho (fun k hk => by have := hvb k hk; have := HB2.out; omega)
          · exact hb3'.trans (hf.below (fun k hk e => by have := hvb k e; have := HB2.out; omega) hs3)
    · have HGL := Lib.hid hgl
      have dg := gL_f hgl
      go_wp2_with fail
      refine (sound_any A n c G w1 hg1 (by omega)).mono ?_; rintro e w2 ⟨rfl, hb2⟩
      rw [dg]
      clear hgl dg
      go_wp2
      go_ret2
      exact ⟨fun h => absurd h.2 HGL.out, fun _ => rfl, hb1'.trans (hb2.mono hb1'.size)⟩
  · have HGD := Lib.hid hgd
    go_wp2_with fail
    refine (bcheck_any f t h l (.iface 53 (.int .i64 6)) (fun hg => absurd hg hgd) (fun hg => rfl) w0).mono ?_; rintro e w1 ⟨rfl, hb1⟩
    clear hgd
    go_wp2
    go_ret2
    exact ⟨fun h => absurd h.1 HGD.out, fun _ => rfl, hb0.trans (hb1.mono hb0.size)⟩
end Go.Proofs.Ytlhappecjjbopaa
