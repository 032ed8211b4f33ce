/-
  Prog: blocks with a band's numbers noughts, by a contract. Conditions: at most 1000 blocks.
-/
import Derived.Test.YtlhappecjjbopaaPrX
import Derived.Test.YtlhappecjjbopaaPrY
namespace Go.Proofs.Ytlhappecjjbopaa
open Go.ChangeShapes Go.WideShapes Go.ChangeAt Go.WideMaps Go.WideElems Go.RowKit Go.Joins
set_option linter.unusedVariables false
set_option maxRecDepth 100000
def ZerP (F N : Nat) (G : List (List Int)) (w : World) (e : Ending) (w' : World) : Prop :=
  ∃ v, e = .returned v ∧ w'.ownsRow w.heap.size 70 64 v G.length ((G.map (fun x => zrN x F N)).map iv).flatten ∧ Below w.heap.size w w'
def ZeR (F N n B : Nat) (v : Value) (G : List (List Int)) (w3 : World) (ix : Value) (wr : World) : Prop :=
  ∃ (i : Nat) (L : List (List Int)), i ≤ n ∧ ix = .int .i64 (i : Nat) ∧ Part G (fun x => zrN x F N) i L ∧ (∀ x ∈ L, x.length = 64) ∧ wr.ownsRow B 70 64 v n (L.map iv).flatten ∧ Fr (fun b => v.ownBlock = some b) w3 wr
def ZeQ (F N n B g c i : Nat) (x : List Int) (G : List (List Int)) (w4 : World) (kv : Value) (wr : World) : Prop :=
  ∃ (q j : Nat) (L : List (List Int)), j ≤ N ∧ q = F + j ∧ kv = .int .i64 (q : Nat) ∧ PartX G (fun x => zrN x F N) i (zrN x F j) L ∧ Gro wr B g c n L ∧ Fr (fun b => b = g) w4 wr
set_option maxHeartbeats 16000000 in
theorem zero22_any {w : World} {A : Option Addr} {n c : Nat} {G : List (List Int)} (hG : Blk w A n G) (hn : n ≤ 1000) (F T : Nat) (h l : Int) (hft : F ≤ T) (hT63 : T ≤ 63) :
    Calls Try.prog 78 #[.slice A n c, .agg #[.int .i64 (F : Nat), .int .i64 (T : Nat), .int .i64 h, .int .i64 l]] w (ZerP F (T + 1 - F) G w) := by
  have hal : ∀ W : World, W.alloc (.cells #[.int .i64 0, .int .i64 0, .int .i64 0, .int .i64 0, .int .i64 0, .int .i64 0, .int .i64 0, .int .i64 0, .int .i64 0, .int .i64 0, .int .i64 0, .int .i64 0, .int .i64 0, .int .i64 0, .int .i64 0, .int .i64 0, .int .i64 0, .int .i64 0, .int .i64 0, .int .i64 0, .int .i64 0, .int .i64 0, .int .i64 0, .int .i64 0, .int .i64 0, .int .i64 0, .int .i64 0, .int .i64 0, .int .i64 0, .int .i64 0, .int .i64 0, .int .i64 0, .int .i64 0, .int .i64 0, .int .i64 0, .int .i64 0, .int .i64 0, .int .i64 0, .int .i64 0, .int .i64 0, .int .i64 0, .int .i64 0, .int .i64 0, .int .i64 0, .int .i64 0, .int .i64 0, .int .i64 0, .int .i64 0, .int .i64 0, .int .i64 0, .int .i64 0, .int .i64 0, .int .i64 0, .int .i64 0, .int .i64 0, .int .i64 0, .int .i64 0, .int .i64 0, .int .i64 0, .int .i64 0, .int .i64 0, .int .i64 0, .int .i64 0, .int .i64 0] 39) = W.alloc (.cells (iv z64).toArray 39) := fun _ => rfl
  obtain ⟨N, hN⟩ : ∃ N, N = T + 1 - F := ⟨_, rfl⟩
  rw [← hN]
  have HN := Lib.hid hN
  have hTN : T + 1 = F + N := by omega
  have hFN : F + N ≤ 64 := by omega
  have HGG := Lib.hid hG
  have X0 := Bln.new w 33 [.int .i64 (F : Nat), .int .i64 (T : Nat), .int .i64 h, .int .i64 l]
  have hb0 : Below w.heap.size w (w.alloc (.cells #[.int .i64 (F : Nat), .int .i64 (T : Nat), .int .i64 h, .int .i64 l] 33)) := (Below.refl _ _).alloc (Nat.le_refl _) _
  clear hN hG
  go_enter Try.func78, Try.ntmps78
  go_upto_region 1 with fail
  obtain ⟨rb, hrb⟩ : ∃ rb, rb = w.heap.size := ⟨_, rfl⟩
  generalize w.alloc (.cells #[.int .i64 (F : Nat), .int .i64 (T : Nat), .int .i64 h, .int .i64 l] 33) = w0 at *
  rw [← hrb] at X0 ⊢
  have HRB := Lib.hid hrb
  clear hrb
  go_wp2_with fail
  refine (order_ref w0).mono ?_; rintro e w5 ⟨rfl, hb5⟩
  have X5 := X0.below hb5
  have hs0 := hb0.size
  have hb5' := hb0.trans (hb5.mono hs0)
  have hs5 := hb5'.size
  have hzl : (iv zzL).length = 64 := by rw [iv_len]; rfl
  have hzat : ∀ q, q < 64 → (iv zzL)[q]? = some (.int .i64 ((zzN q : Nat) : Int)) := fun q hq => by
    rw [ivs_get (by show q < 64; exact hq), (zzN_bd q hq).2.1]
  obtain ⟨ZL, hZL⟩ : ∃ z, z = zzL := ⟨_, rfl⟩
  rw [← hZL] at hzl hzat ⊢
  have hsz : (iv ZL).toArray.size = 64 := hzl
  obtain ⟨XD, hbd⟩ := Bln.copy w5 39 (iv z64) (iv ZL) (by rw [hzl, iv_len]; rfl)
  have hth : (w5.alloc (.cells (iv z64).toArray 39)).there w5.heap.size 0 (iv ZL).toArray.size := by
    rw [hsz]
    exact (Bln.new w5 39 (iv z64)).there 64 (by rw [iv_len]; decide)
  have hone := one_iv ZL
  have HSZ := Lib.hid hsz
  have HZA := Lib.hid hzat
  clear hZL hsz hzl hzat
  go_upto_region 2 with (refine wpList_store_mid rfl 39 (.tmp 5) (.tmp 9) rfl _ _ (iv ZL).toArray rfl rfl hth (by rw [HSZ.out]; exact Try.info_block) (all_oneCell_toArray hone) ?_)
  have X1 := X5.below hbd
  have hb1 := hb5'.trans (hbd.mono hs5)
  have hs1 := hb1.size
  have HXD : Bln ((w5.alloc (.cells (iv z64).toArray 39)).setCells w5.heap.size 0 (iv ZL)) w5.heap.size 39 (iv ZL) := XD
  generalize (w5.alloc (.cells (iv z64).toArray 39)).setCells w5.heap.size 0 (iv ZL) = w1 at *
  generalize w5.heap.size = ob at *
  have hob1 := HXD.lt
  have hrb1 := X1.lt
  clear hth hbd hal hone XD X5 X0 hb5 hb5' hb0 hs0 hs5
  obtain ⟨j0, zb, hj0, hy0, hy1, hy2, hy3, _⟩ := info_blk23
  have hba : Below w1.heap.size w1 (w1.alloc (.cells #[] 70)) := (Below.refl _ _).alloc (Nat.le_refl _) _
  have hown0 : (w1.alloc (.cells #[] 70)).ownsRow w1.heap.size 70 64 (.slice (some ⟨w1.heap.size, 0, none⟩) 0 0) 0 [] :=
    World.ownsRow_made w1 #[] 0 (Nat.le_refl _) (by unfold maxLen; omega) (by simp)
  have hbk1 := HGG.out.below hb1
  have hRa := hbk1.rd.below hba
  have hfl := flat_len64 hbk1.l64
  rw [hbk1.len] at hfl
  have hone := one_ivs G
  go_upto_region 3 with (at_builtin; refine wpList_appN0 _ rfl (.tmp 10) (.tmp 11) 105 rfl Try.underlying105 hj0 hy0 hy1 hy2 hy3 (by omega) hown0 rfl rfl hRa hfl hone (by omega) (by omega) hba.size ?_; intro v2 w2 hown2 hap2; have hb2 : Below w1.heap.size w1 w2 := hba.trans (hap2.below (fun k hk => (hown0.lt k hk).1) hba.size); simp only [Nat.zero_add, List.nil_append] at hown2)
  obtain ⟨Av, cv, hve, _, hcv, _⟩ := own_sliceN hown2
  subst hve
  have hb2' := hb1.trans (hb2.mono hs1)
  have hs2 := hb2.size
  have X2 := X1.below hb2
  have D2 := HXD.below hb2
  have hlen := HGG.out.len
  have hln1 : G.length ≤ n := by omega
  have hln2 : n ≤ G.length := by omega
  have hl64 := HGG.out.l64
  obtain ⟨b2, hbq⟩ : ∃ b, b = w1.heap.size := ⟨_, rfl⟩
  rw [← hbq] at hown2
  have hbq1 : b2 ≤ w1.heap.size := by omega
  have hbq2 : w1.heap.size ≤ b2 := by omega
  clear hown0 hba hRa hfl hone hap2 hbk1 hb2 hlen hbq X1
  go_wp2_with fail
  go_loopw [15] (ZeR F N n b2 (.slice Av n cv) G w2) (fun ix _ => n - (intOf ix).toNat)
  case atStart => exact ⟨0, G, Nat.zero_le _, rfl, Part.zero _ _, hl64, hown2, Fr.refl _ _⟩
  case round =>
    clear hown2
    obtain ⟨i, L, hi, rfl, hP, hL64, ho, hf⟩ := hrel
    obtain ⟨wi, rfl⟩ : ∃ wi : World, wi = wr := ⟨_, rfl⟩
    by_cases hlt : i < n
    · have dl : decide (i < n) = true := decide_eq_true hlt
      obtain ⟨g, cap, hge, hbg, hgl⟩ := ho.form (by omega)
      injection hge with hg1 hg2 hg3
      subst hg1 hg3
      obtain ⟨x, hx⟩ : ∃ x, G[i]? = some x := ⟨G[i]'(by omega), List.getElem?_eq_getElem _⟩
      have HX := Lib.hid hx
      have HPX := Lib.hid (hP.x hx)
      have hPl := hP.1
      have hgro : Gro wi b2 g cv n L := ⟨ho, by omega, hL64⟩
      have hgrb : rb ≠ g := by omega
      have hgob : ob ≠ g := by omega
      have X4 := X2.keep (S := fun b => b = g) (hf.mono (fun b hb => by injection hb with hb; exact hb.symm)) hgrb
      have y0 := X4.cell (i := 0) (u := .int .i64 (F : Nat)) rfl
      clear hx hP ho
      go_upto_region 7 with fail
      clear y0
      go_loopw [8] (ZeQ F N n b2 g cv i x G wi) (fun kv _ => F + N - (intOf kv).toNat)
      case atStart => exact ⟨F, 0, L, Nat.zero_le _, rfl, rfl, HPX.out, hgro, Fr.refl _ _⟩
      case round =>
        clear hgro
        obtain ⟨q, j, L1, hj, hqj, rfl, hPX, hgro, hf4⟩ := hrel
        obtain ⟨wj, rfl⟩ : ∃ wj : World, wj = wr := ⟨_, rfl⟩
        have hfj := (hf.mono (S' := fun b => b = g) (fun b hb => by injection hb with hb; exact hb.symm)).trans hf4
        have X6 := X2.keep hfj hgrb
        have y1 := X6.cell (i := 1) (u := .int .i64 (T : Nat)) rfl
        have hq1 : q ≤ F + j := by omega
        have hq2 : F + j ≤ q := by omega
        have HQJ := Lib.hid hqj
        clear hqj
        by_cases hlj : q ≤ T
        · have dj : decide (q ≤ T) = true := decide_eq_true hlj
          have cz := (D2.keep hfj hgob).cell (HZA.out q (by omega))
          have hzb := (zzN_bd q (by omega)).1
          have hG3 := hgro.set hPX.at_ hzb 0
          have hP3 := hPX.set (by omega) (zrN x F (j + 1))
          rw [show (zrN x F j).set (zzN q) 0 = zrN x F (j + 1) from by rw [show zrN x F (j + 1) = (zrN x F j).set (zzN (F + j)) 0 from rfl, show q = F + j by omega]] at hG3
          have cg := hgro.cell hPX.at_ hzb
          have fg := hgro.fz (i * 64 + zzN q)
          have hf5 := hf4.setCell (p := ⟨g, i * 64 + zzN q, none⟩) (.inl rfl) (.int .i64 0)
          obtain ⟨z, hz⟩ : ∃ z, z = zzN q := ⟨_, rfl⟩
          rw [← hz] at cz hzb hG3 cg fg hf5
          have HG3 := Lib.hid (And.intro hG3 (And.intro hP3 hf5))
          have hglt := hgro.lt.2
          have hi0 : (0 : Int) ≤ (i : Int) := by omega
          have hi1 : (i : Int) < (n : Int) := by omega
          have hq0 : (0 : Int) ≤ (q : Int) := by omega
          have hq64 : (q : Int) < 64 := by omega
          have hz0 : (0 : Int) ≤ (z : Int) := by omega
          have hz1 : (z : Int) < 64 := by omega
          obtain ⟨vx, hvx⟩ : ∃ v, v = (zrN x F j).getD z 0 := ⟨_, rfl⟩
          rw [← hvx] at cg
          clear hz hvx hG3 hP3 hf5 hgro hf4 hfj hPX X6 X4
          go_upto_region 9 with fail
          go_still_tail 7, (by kernel_rfl)
          repeat still_step
          try refine wpStill_nil ?_
          change wpList _ _ _ _ _ wj.drew
          have fg3 : wj.drew.frozen? ⟨g, i * 64 + z, none⟩ = false := fg
          have cg3 : wj.drew.cell? ⟨g, i * 64 + z, none⟩ = some (.int .i64 vx) := cg
          go_wp2_with fail
          go_roundw
          case rel => exact ⟨q + 1, j + 1, _, by omega, by omega, by go_num, HG3.out.2.1, HG3.out.1.drewN 1, HG3.out.2.2.drewN 1⟩
          case measure => simp [intOf]; omega
        · have dj : decide (q ≤ T) = false := decide_eq_false hlj
          have hjN : j = N := by omega
          rw [hjN] at hPX
          have hPn := hPX.done HX.out
          have HNX := Lib.hid (show ZeR F N n b2 (.slice (some ⟨g, 0, none⟩) n cv) G w2 (.int .i64 ((i : Int) + 1)) wj from
            ⟨i + 1, L1, by omega, by go_num, hPn, hgro.b64, hgro.own, hf.trans (hf4.mono (fun b hb => by rw [hb]; rfl))⟩)
          clear hPX hPn hgro hf4 hfj X6 X4
          go_wp2_with fail
          go_roundw
          case rel => exact HNX.out
          case measure => simp [intOf]; omega
    · have dl : decide (i < n) = false := decide_eq_false hlt
      have hall := hP.all (by omega)
      subst hall
      have HO := Lib.hid ho
      have hb3 := hb2'.trans (hf.below (B := w.heap.size) (fun k hk e => by have := (ho.lt k e).1; omega) (by omega))
      clear ho hP
      go_wp2
      go_ret
      have h9 : G.length = n := by omega
      exact ⟨_, rfl, by rw [h9]; exact own_baseN HO.out (fun k hk => by have := (HO.out.lt k hk).1; omega), hb3⟩
end Go.Proofs.Ytlhappecjjbopaa
