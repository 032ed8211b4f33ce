/-
  canon's bind, and in which blocks a book lies, by a contract. No condition.
-/
import Derived.Test.YtlhappecjjbopaaCaY
namespace Go.Proofs.Ytlhappecjjbopaa
open Go.RowKit
set_option linter.unusedVariables false
set_option maxRecDepth 100000

/-- a book whose blocks are L or beyond -/
structure BkL (w : World) (L p : Nat) (ls : List Int) (O : List Nat) (C : List Int) : Prop where
  plt : p < w.heap.size
  lo : L ≤ p
  len : ∃ A c, w.cell? ⟨p, 0, none⟩ = some (.slice A ls.length c) ∧ Rd w w.heap.size A (iv ls) ∧ ∀ a, A = some a → L ≤ a.block
  cod : ∃ A c, w.cell? ⟨p, 1, none⟩ = some (.slice A ls.length c) ∧ Rd w w.heap.size A (iv C) ∧ ∀ a, A = some a → L ≤ a.block
  ord : ∃ A c, w.cell? ⟨p, 2, none⟩ = some (.slice A O.length c) ∧ Rd w w.heap.size A (nv O) ∧ ∀ a, A = some a → L ≤ a.block
  row : ∀ j, j ≤ 16 → ∃ x A c, w.cell? ⟨p, 3 + j * 2, none⟩ = some (.int .i64 x) ∧ w.cell? ⟨p, 3 + j * 2 + 1, none⟩ = some (.slice A (pj ls O j).length c) ∧ Rd w w.heap.size A (nv (pj ls O j)) ∧ (∀ s, (pj ls O j)[0]? = some s → x = C.getD s 0) ∧ ∀ a, A = some a → L ≤ a.block
theorem BkL.bk {w : World} {L p : Nat} {ls : List Int} {O : List Nat} {C : List Int} (h : BkL w L p ls O C) : Bk w p ls O C := by
  refine ⟨h.plt, ?_, ?_, ?_, fun j hj => ?_⟩
  · obtain ⟨A, c, h1, h2, _⟩ := h.len; exact ⟨A, c, h1, h2⟩
  · obtain ⟨A, c, h1, h2, _⟩ := h.cod; exact ⟨A, c, h1, h2⟩
  · obtain ⟨A, c, h1, h2, _⟩ := h.ord; exact ⟨A, c, h1, h2⟩
  · obtain ⟨x, A, c, h1, h2, h3, h4, _⟩ := h.row j hj; exact ⟨x, A, c, h1, h2, h3, h4⟩
/-- what lies ahead of it may turn -/
theorem BkL.turn {w w' : World} {L p : Nat} {ls : List Int} {O : List Nat} {C : List Int} (h : BkL w L p ls O C) (hf : Fr (fun k => k < L) w w') : BkL w' L p ls O C := by
  have hlo := h.lo
  have hc : ∀ i u, w.cell? ⟨p, i, none⟩ = some u → w'.cell? ⟨p, i, none⟩ = some u := fun i u hu => (hf.cell (p := ⟨p, i, none⟩) h.plt (fun e => by simp only at e; omega)).trans hu
  have hr : ∀ A xs, Rd w w.heap.size A xs → (∀ a, A = some a → L ≤ a.block) → Rd w' w'.heap.size A xs := fun A xs hR hA => (hf.rd hR (Nat.le_refl _) (fun p hp e => by have := hA p hp; omega)).more hf.size
  refine ⟨Nat.lt_of_lt_of_le h.plt hf.size, h.lo, ?_, ?_, ?_, fun j hj => ?_⟩
  · obtain ⟨A, c, h1, h2, h3⟩ := h.len; exact ⟨A, c, hc _ _ h1, hr _ _ h2 h3, h3⟩
  · obtain ⟨A, c, h1, h2, h3⟩ := h.cod; exact ⟨A, c, hc _ _ h1, hr _ _ h2 h3, h3⟩
  · obtain ⟨A, c, h1, h2, h3⟩ := h.ord; exact ⟨A, c, hc _ _ h1, hr _ _ h2 h3, h3⟩
  · obtain ⟨x, A, c, h1, h2, h3, h4, h5⟩ := h.row j hj; exact ⟨x, A, c, hc _ _ h1, hc _ _ h2, hr _ _ h3 h5, h4, h5⟩

set_option maxHeartbeats 8000000 in
theorem bindL_any (L : Nat) (K : List Int → Prop) (A A2 : Option Addr) (n c n2 c2 : Nat) (ls : List Int) (O : List Nat) (w : World) (hn : ls.length = n) (hR : Rd w w.heap.size A (iv ls)) (hm : n ≤ 512) (hn2 : O.length = n2) (hR2 : Rd w w.heap.size A2 (nv O)) (hm2 : n2 ≤ 10000) (hL : L ≤ w.heap.size) (hA2 : ∀ a, A2 = some a → L ≤ a.block)
    (hO : ∀ s ∈ O, s < n ∧ 1 ≤ ls.getD s 0 ∧ ls.getD s 0 ≤ 16) (hK : ∀ C, K C → C.length = n ∧ ∀ s, -9223372036854775808 ≤ C.getD s 0 ∧ C.getD s 0 ≤ 9223372036854775807)
    (hAs : ∀ W : World, Rd W W.heap.size A (iv ls) → Rd W W.heap.size A2 (nv O) → Calls Try.prog 98 #[.slice A n c, .slice A2 n2 c2] W fun e w' => ∃ C, e = .returned (.slice (some ⟨W.heap.size, 0, none⟩) n n) ∧ w'.ownsRow W.heap.size 3 1 (.slice (some ⟨W.heap.size, 0, none⟩) n n) n (iv C) ∧ K C ∧ Below W.heap.size W w') :
    Calls Try.prog 103 #[.slice A n c, .slice A2 n2 c2] w fun e w' => ∃ p C, e = .returned (.pointer (some ⟨p, 0, none⟩)) ∧ BkL w' L p ls O C ∧ K C ∧ w.heap.size ≤ p ∧ Below w.heap.size w w' := by
  obtain ⟨i0, hi, hz0, hz1, hz2⟩ := info_parts Try.info_int
  have HN := Lib.hid hn
  have HN2 := Lib.hid hn2
  have HO := Lib.hid hO
  have HK := Lib.hid hK
  clear hn hn2 hO hK
  go_enter Try.func103, Try.ntmps103
  go_wp2_with fail
  refine (cloneInts_any A n c ls w HN.out hR (by omega)).mono ?_; rintro e w1 ⟨v0, rfl, ho1, hb1⟩; obtain ⟨A1, c1, hv0, _⟩ := own_slice ho1; subst hv0
  have hs1 := hb1.size
  go_wp2_with fail
  refine (hAs w1 ((hR.below hb1).more hs1) ((hR2.below hb1).more hs1)).mono ?_; rintro e w2 ⟨C, rfl, hoC, hKC, hb2⟩
  have hb2' := hb1.trans (hb2.mono hs1)
  have hs2 := hb2'.size
  have ho2 := own_keep ho1 hb2
  clear ho1 hAs
  generalize hgc : w1.heap.size = gc at *
  have HGC := Lib.hid hgc
  clear hgc
  have hgl := (hoC.lt gc rfl).2
  have X := Bln.new w2 158 (xs0 (.slice A1 n c1) (.slice (some ⟨gc, 0, none⟩) n n) (.slice A2 n2 c2))
  have Y := Bc.zero (.slice A1 n c1) (.slice (some ⟨gc, 0, none⟩) n n) (.slice A2 n2 c2)
  have hba : Below w2.heap.size w2 (w2.alloc (.cells (xs0 (.slice A1 n c1) (.slice (some ⟨gc, 0, none⟩) n n) (.slice A2 n2 c2)).toArray 158)) := (Below.refl _ _).alloc (Nat.le_refl _) _
  have ho3 := own_keep ho2 hba
  have hoC3 := own_keep hoC hba
  have hb3 := hb2'.trans (hba.mono hs2)
  have hsz : (w2.alloc (.cells (xs0 (.slice A1 n c1) (.slice (some ⟨gc, 0, none⟩) n n) (.slice A2 n2 c2)).toArray 158)).heap.size = w2.heap.size + 1 := by simp
  have R0 : Rw (w2.alloc (.cells (xs0 (.slice A1 n c1) (.slice (some ⟨gc, 0, none⟩) n n) (.slice A2 n2 c2)).toArray 158)) (w2.heap.size + 1) (fun _ => 0) (fun _ => .slice none 0 0) ls C [] :=
    ⟨fun j => World.ownsRow_nil _ _ _ _, fun i j b _ h => by simp [Value.ownBlock] at h, fun j s h => by simp [pj] at h⟩
  have hCK := HK.out C hKC
  have hv0 : ∀ b, (Value.slice A1 n c1).ownBlock = some b → b < w2.heap.size := fun b hb => (ho2.lt b hb).2
  generalize hw3 : w2.alloc (.cells (xs0 (.slice A1 n c1) (.slice (some ⟨gc, 0, none⟩) n n) (.slice A2 n2 c2)).toArray 158) = w3 at *
  go_upto_region 2 with fail
  have hE : w2.alloc (.cells #[.slice A1 n c1, .slice (some ⟨gc, 0, none⟩) n n, .slice A2 n2 c2, .int .i64 0, .slice none 0 0, .int .i64 0, .slice none 0 0, .int .i64 0, .slice none 0 0, .int .i64 0, .slice none 0 0, .int .i64 0, .slice none 0 0, .int .i64 0, .slice none 0 0, .int .i64 0, .slice none 0 0, .int .i64 0, .slice none 0 0, .int .i64 0, .slice none 0 0, .int .i64 0, .slice none 0 0, .int .i64 0, .slice none 0 0, .int .i64 0, .slice none 0 0, .int .i64 0, .slice none 0 0, .int .i64 0, .slice none 0 0, .int .i64 0, .slice none 0 0, .int .i64 0, .slice none 0 0, .int .i64 0, .slice none 0 0] 158) = w3 := hw3
  rw [hE]
  clear hE hw3
  generalize hp : w2.heap.size = p at *
  have HP := Lib.hid hp
  clear hp
  generalize xs0 (.slice A1 n c1) (.slice (some ⟨gc, 0, none⟩) n n) (.slice A2 n2 c2) = x0 at *
  have HKC := Lib.hid hKC
  have HCK := Lib.hid hCK
  clear hKC hCK ho2 hoC hb2 hb2' hba
  have hR3 := hR.below hb3
  have hR23 := hR2.below hb3
  have hs3 := hb3.size
  go_wp2
  go_loopw [19] (fun i wr => ∃ k : Nat, k ≤ n2 ∧ i = .int .i64 k ∧ ∃ xs F R, Bln wr p 158 xs ∧ Bc xs (.slice A1 n c1) (.slice (some ⟨gc, 0, none⟩) n n) (.slice A2 n2 c2) F R ∧ Rw wr (p + 1) F R ls C (O.take k) ∧ Fr (fun b => b = p) w3 wr) (fun i _ => n2 - (intOf i).toNat)
  case atStart => exact ⟨0, Nat.zero_le _, rfl, _, _, _, X, Y, by simpa using R0, Fr.refl _ _⟩
  case round =>
    obtain ⟨k, hk, rfl, xs, F, R, X, Y, hrw, hfr⟩ := hrel
    obtain ⟨wo, rfl⟩ : ∃ wo : World, wo = wr := ⟨_, rfl⟩
    by_cases hlt : k < n2
    · obtain ⟨s, hOs⟩ : ∃ s, O[k]? = some s := ⟨O[k]'(by rw [HN2.out]; exact hlt), List.getElem?_eq_getElem _⟩
      have hso := HO.out s (List.mem_of_getElem? hOs)
      obtain ⟨l, hl⟩ := Int.eq_ofNat_of_zero_le (show 0 ≤ ls.getD s 0 by omega)
      have hl16 : 1 ≤ l ∧ l ≤ 16 := by omega
      have hsn := hso.1
      obtain ⟨bo, oo, rfl, hbo, hco⟩ := hR23.at_ (k := k) (by rw [nv]; simp; rw [HN2.out]; exact hlt)
      have cO := hco k _ (nv_get hOs)
      obtain ⟨bl, ol, rfl, hbl, hcl⟩ := hR3.at_ (k := s) (by rw [iv_len, HN.out]; exact hsn)
      have cL := hcl s _ (ivs_get (by rw [HN.out]; exact hsn))
      rw [hl] at cL
      have HL := Lib.hid hl
      have htk : O.take (k + 1) = O.take k ++ [s] := by rw [List.take_add_one, hOs]; rfl
      have HTK := Lib.hid htk
      clear hl hso hco hcl hOs htk
      have hb3p : Below p w3 wo := ⟨hfr.os, hfr.tape, hfr.output, by have := hfr.size; omega, fun b hb => hfr.block b (by omega) (by omega)⟩
      have cO' := (hb3p.cell (p := ⟨bo, oo + k, none⟩) (by simp only; omega)).trans cO
      have cL' := (hb3p.cell (p := ⟨bl, ol + s, none⟩) (by simp only; omega)).trans cL
      have hoC4 := hfr.own hoC3 (fun b hb e => by
        have h1 : gc = b := Option.some.inj hb
        omega)
      have hl0 : (0 : Int) ≤ (l : Int) := by omega
      have hl17 : (l : Int) < 17 := by omega
      have hs0 : (0 : Int) ≤ (s : Int) := by omega
      have hsn' : (s : Int) < (n : Int) := by omega
      obtain ⟨Ar, cr, hRl, hcr1, hcr2, hRr⟩ := own_sliceN (hrw.own l)
      have y1 := X.cell Y.c1
      have yr := X.cell (Y.cr l hl16.2)
      rw [hRl] at yr
      have yf := X.cell (Y.cf l hl16.2)
      have cC := World.ownsRow.cellAt hoC4 s (by omega)
      rw [ivs_get (by rw [HCK.out.1]; exact hsn)] at cC
      have hCs := HCK.out.2 s
      have hfz := X.fz (i := 3 + l * 2) (by rw [Y.len]; omega)
      have hfz2 := X.fz (i := 3 + l * 2 + 1) (by rw [Y.len]; omega)
      clear cO cL
      generalize hxc : C.getD s 0 = x at *
      have HX := Lib.hid hxc
      clear hxc
      by_cases hem : (pj ls (O.take k) l).length = 0
      · rw [hem] at yr
        go_upto_region 5 with fail
        go_quiet (fail)
        have fr0 : Fr (fun b => b = p) wo (wo.drewN nq) := (Fr.refl _ _).drewN nq
        have X4 : Bln ((wo.drewN nq).setCell ⟨p, 3 + l * 2, none⟩ (.int .i64 x)) p 158 _ := (show Bln (wo.drewN nq) p 158 xs from X).set (3 + l * 2) (.int .i64 x)
        have Y4 := Y.setF hl16.2 x
        have R4 : Rw ((wo.drewN nq).setCell ⟨p, 3 + l * 2, none⟩ (.int .i64 x)) (p + 1) F R ls C (O.take k) := hrw.keep (S := fun b => b = p) (fr0.setCell (.inl rfl) _) (fun b hb _ e => by omega)
        have fr4 : Fr (fun b => b = p) w3 ((wo.drewN nq).setCell ⟨p, 3 + l * 2, none⟩ (.int .i64 x)) := (hfr.trans fr0).setCell (.inl rfl) _
        have yr4 := X4.cell (Y4.cr l hl16.2)
        rw [hRl, hem] at yr4
        go_upto_region 8 with fail
        generalize (wo.drewN nq).setCell ⟨p, 3 + l * 2, none⟩ (.int .i64 x) = w4 at *
        have hba4 : Below w4.heap.size w4 (w4.alloc (.cells #[Value.int .i64 (s : Int)] 3)) := (Below.refl _ _).alloc (Nat.le_refl _) _
        have own4 := own_keepN (R4.own l) hba4
        have hlt4 := own4.lt
        have R4a := R4.below hba4
        have X4a := X4.below hba4
        have fr4a := fr4.trans (Fr.of_below hba4)
        rw [hRl, hem] at own4 hlt4
        have hpl := pj_len ls (O.take k) l
        rw [List.length_take] at hpl
        have hpm : (pj ls (O.take k) l).length ≤ 10000 := by omega
        have hnp : (Value.slice Ar 0 cr).ownBlock ≠ some p := fun e => by have := (hlt4 p e).1; omega
        have hbs : p + 1 ≤ (w4.alloc (.cells #[Value.int .i64 (s : Int)] 3)).heap.size := by have := fr4a.size; omega
        clear hpl
        go_wp2_with (at_builtin; refine wpList_appN _ rfl (.tmp 51) (.tmp 53) 24 rfl Try.underlying24 hi hz0 hz1 hz2 rfl (by omega) own4 rfl rfl (Rd.newN w4 3 [.int .i64 (s : Int)]) rfl (by simp [Value.oneCell']) (by omega) (by omega) hbs ?_; intro v7 w7 hown7 hap7; obtain ⟨A7, c7, hv7, _⟩ := own_slice hown7; subst hv7; have X7 := X4a.keep hap7.fr hnp; have yc7 := X7.cell (Y4.cr l hl16.2); have hfz7 := X7.fz (i := 3 + l * 2 + 1) (by rw [Y4.len]; omega))
        go_roundw
        case rel =>
          have hst := R4a.step (s := s) (l := l) (v := .slice A7 _ c7) (x := x) HL.out (by rw [pj_snoc, if_pos HL.out, List.length_append, nv_app]; rw [hem]; exact hown7) (by rw [hRl, hem]; exact hap7) (.inl ⟨List.eq_nil_of_length_eq_zero hem, HX.out.symm⟩)
          have hfr7 := fr4a.trans' hap7.fr (fun b hb hs => by have := (hlt4 b hs).1; omega)
          exact ⟨k + 1, by omega, by go_num, _, _, _, X7.set _ _, Y4.setR hl16.2 _, by rw [HTK.out]; exact hst.keep (S := fun b => b = p) (Fr.setCell (S := fun b => b = p) (p := ⟨p, 3 + l * 2 + 1, none⟩) (Fr.refl _ _) (.inl rfl) _) (fun b hb _ e => by omega), hfr7.setCell (.inl rfl) _⟩
        case measure => simp [intOf]; omega
      · have hdm : decide (((pj ls (O.take k) l).length : Int) = 0) = false := decide_eq_false (by omega)
        go_upto_region 5 with fail
        go_quiet (fail)
        have fr0 : Fr (fun b => b = p) wo (wo.drewN nq) := (Fr.refl _ _).drewN nq
        have X4 : Bln (wo.drewN nq) p 158 xs := X
        have Y4 := Y.same l
        have R4 : Rw (wo.drewN nq) (p + 1) F R ls C (O.take k) := hrw.keep fr0 (fun b hb _ e => by omega)
        have fr4 : Fr (fun b => b = p) w3 (wo.drewN nq) := hfr.trans fr0
        have yr4 := X4.cell (Y4.cr l hl16.2)
        rw [hRl] at yr4
        go_upto_region 8 with fail
        generalize wo.drewN nq = w4 at *
        have hba4 : Below w4.heap.size w4 (w4.alloc (.cells #[Value.int .i64 (s : Int)] 3)) := (Below.refl _ _).alloc (Nat.le_refl _) _
        have own4 := own_keepN (R4.own l) hba4
        have hlt4 := own4.lt
        have R4a := R4.below hba4
        have X4a := X4.below hba4
        have fr4a := fr4.trans (Fr.of_below hba4)
        rw [hRl] at own4 hlt4
        have hpl := pj_len ls (O.take k) l
        rw [List.length_take] at hpl
        have hpm : (pj ls (O.take k) l).length ≤ 10000 := by omega
        have hnp : (Value.slice Ar (pj ls (O.take k) l).length cr).ownBlock ≠ some p := fun e => by have := (hlt4 p e).1; omega
        have hbs : p + 1 ≤ (w4.alloc (.cells #[Value.int .i64 (s : Int)] 3)).heap.size := by have := fr4a.size; omega
        clear hpl
        go_wp2_with (at_builtin; refine wpList_appN _ rfl (.tmp 51) (.tmp 53) 24 rfl Try.underlying24 hi hz0 hz1 hz2 rfl (by omega) own4 rfl rfl (Rd.newN w4 3 [.int .i64 (s : Int)]) rfl (by simp [Value.oneCell']) (by omega) (by omega) hbs ?_; intro v7 w7 hown7 hap7; obtain ⟨A7, c7, hv7, _⟩ := own_slice hown7; subst hv7; have X7 := X4a.keep hap7.fr hnp; have yc7 := X7.cell (Y4.cr l hl16.2); have hfz7 := X7.fz (i := 3 + l * 2 + 1) (by rw [Y4.len]; omega))
        go_roundw
        case rel =>
          have hst := R4a.step (s := s) (l := l) (v := .slice A7 _ c7) (x := F l) HL.out (by rw [pj_snoc, if_pos HL.out, List.length_append, nv_app]; exact hown7) (by rw [hRl]; exact hap7) (.inr ⟨fun e => hem (by rw [e]; rfl), rfl⟩)
          have hfr7 := fr4a.trans' hap7.fr (fun b hb hs => by have := (hlt4 b hs).1; omega)
          exact ⟨k + 1, by omega, by go_num, _, _, _, X7.set _ _, Y4.setR hl16.2 _, by rw [HTK.out]; exact hst.keep (S := fun b => b = p) (Fr.setCell (S := fun b => b = p) (p := ⟨p, 3 + l * 2 + 1, none⟩) (Fr.refl _ _) (.inl rfl) _) (fun b hb _ e => by omega), hfr7.setCell (.inl rfl) _⟩
        case measure => simp [intOf]; omega
    · have hkn : k = n2 := by omega
      have htk : O.take k = O := List.take_of_length_le (by rw [HN2.out]; omega)
      rw [htk] at hrw
      have hfb : Below p w3 wo := ⟨hfr.os, hfr.tape, hfr.output, by have := hfr.size; omega, fun b hb => hfr.block b (by omega) (by omega)⟩
      have hbw : Below w.heap.size w wo := hb3.trans (hfb.mono hs2)
      have hsz5 := hfr.size
      have ho5 := hfr.own ho3 (fun b hb e => by have := hv0 b hb; omega)
      have hoC5 := hfr.own hoC3 (fun b hb e => by
        have h1 : gc = b := Option.some.inj hb
        omega)
      clear hkn htk
      go_wp2
      go_ret
      have hpL : L ≤ p := by omega
      refine ⟨p, C, rfl, ⟨X.lt, hpL, ⟨A1, c1, ?_, Rd.of_own ho5, fun a ha => ?_⟩, ⟨_, n, ?_, Rd.of_own hoC5, fun a ha => ?_⟩, ⟨A2, c2, ?_, (hR2.below hbw).more hbw.size, hA2⟩, fun j hj => ?_⟩, HKC.out, hs2, hbw⟩
      · rw [HN.out]; exact X.cell Y.c0
      · have := (ho5.lt a.block (by rw [ha]; rfl)).1; omega
      · rw [HN.out]; exact X.cell Y.c1
      · injection ha with ha
        rw [← ha]
        have := (hoC5.lt gc rfl).1
        show L ≤ gc
        omega
      · rw [HN2.out]; exact X.cell Y.c2
      · obtain ⟨Aj, cj, hRj, _, _, hRd⟩ := own_sliceN (hrw.own j)
        have h1 := X.cell (Y.cr j hj)
        have h2 := (hrw.own j).lt
        rw [hRj] at h1 h2
        exact ⟨_, Aj, cj, X.cell (Y.cf j hj), h1, hRd, hrw.fst j, fun a ha => by have := (h2 a.block (by rw [ha]; rfl)).1; omega⟩
end Go.Proofs.Ytlhappecjjbopaa
