/-
  Prog: the document's reading of a block of a first band, by a contract. Conditions: symbols below 256, at most 1000000000 bits, at most 1000 blocks.
-/
import Derived.Test.YtlhappecjjbopaaPrRa
import Derived.Test.YtlhappecjjbopaaPrRo
import Derived.Test.YtlhappecjjbopaaScB
import Derived.Deep.CutBlock
namespace Go.Proofs.Ytlhappecjjbopaa
set_option linter.unusedVariables false
set_option maxRecDepth 100000
open Go.ChangeShapes Go.WideShapes Go.ChangeAt Go.WideMaps Go.WideElems Go.RowKit Go.Joins
/-- what is left of the document's block: the block, the reader -/
def IbP (p gx : Nat) (v0 : Value) (A : Option Addr) (c : Nat) (L : List Int) (R : List Int × Nat × Nat × Int) (w1 : World) (wr : World) : Prop :=
  ∃ (x : List Int) (a : Nat) (en : Int), x.length = 64 ∧ Bln wr gx 70 (iv x) ∧ Inn wr p v0 A c L a R.2.2.2 en ∧ (R.2.2.2 = 0 → x = R.1 ∧ a = R.2.1 ∧ en = (R.2.2.1 : Nat)) ∧ Fr (fun b => b = p ∨ b = gx) w1 wr
def IfR (S Z : List Int) (p gx : Nat) (v0 : Value) (A : Option Addr) (c : Nat) (L : List Int) (left F N : Nat) (l : Int) (R : List Int × Nat × Nat × Int) (w1 : World) (kv : Value) (wr : World) : Prop :=
  ∃ (q k a : Nat) (x : List Int) (bad en : Int), k ≤ N ∧ q = F + k ∧ kv = .int .i64 (q : Nat) ∧ x.length = 64 ∧ Bln wr gx 70 (iv x) ∧ Inn wr p v0 A c L a bad en ∧ Fr (fun b => b = p ∨ b = gx) w1 wr ∧
    ((bad = 0 ∧ en = 0 ∧ rdA S Z L left F N l k a x = R ∧ (∀ j, k ≤ j → j < N → x.getD (zzN (F + j)) 0 = 0)) ∨ (bad = 0 ∧ 0 < en ∧ R = (x, a, en.toNat, 0)) ∨ (bad ≠ 0 ∧ R.2.2.2 = bad))
def IzR (gx F N : Nat) (x : List Int) (w1 : World) (kv : Value) (wr : World) : Prop :=
  ∃ q k : Nat, k ≤ N ∧ q = F + k ∧ kv = .int .i64 (q : Nat) ∧ Bln wr gx 70 (iv (zrN x F k)) ∧ Fr (fun b => b = gx) w1 wr
/-- a block of the document -/
def IrP (p : Nat) (v0 : Value) (A : Option Addr) (c : Nat) (L : List Int) (R : List Int × Nat × Nat × Int) (w : World) (e : Ending) (w' : World) : Prop :=
  ∃ (x : List Int) (a : Nat) (en : Int), e = .returned (.agg (iv x).toArray) ∧ x.length = 64 ∧ Inn w' p v0 A c L a R.2.2.2 en ∧ (R.2.2.2 = 0 → x = R.1 ∧ a = R.2.1 ∧ en = (R.2.2.1 : Nat)) ∧ Fp p w w'
theorem zrN_zero2 (y : List Int) (f : Nat) (hy : y.length = 64) (n : Nat) (hn : f + n ≤ 64) (j : Nat) (hj : j < n) : (zrN y f n).getD (zzN (f + j)) 0 = 0 := zrN_zero y f hy n hn j hj
theorem zrN_set (x : List Int) (F k : Nat) : zrN x F (k + 1) = (zrN x F k).set (zzN (F + k)) 0 := rfl
theorem set_zero {x : List Int} {i : Nat} (h : x.getD i 0 = 0) : x.set i 0 = x := by
  refine List.ext_getElem? fun q => ?_
  rw [List.getElem?_set]
  split
  · rename_i e
    subst e
    split
    · rename_i hl
      rw [List.getD_eq_getElem?_getD, List.getElem?_eq_getElem hl] at h
      rw [List.getElem?_eq_getElem hl]; simpa using h.symm
    · rename_i hl
      rw [List.getElem?_eq_none (by omega)]
  · rfl
theorem ifr_skip {S Z L : List Int} {left F N k a m s : Nat} {l : Int} {x : List Int} {R : List Int × Nat × Nat × Int} (hk : k < N) (hF : rdF S Z (L.drop a) = ((s : Int), m, 0)) (h240 : s = 240) (hN : ¬ N ≤ k + 16) (hle : a + m ≤ L.length)
    (hR : rdA S Z L left F N l k a x = R) (hz : ∀ j, k ≤ j → j < N → x.getD (zzN (F + j)) 0 = 0) : rdA S Z L left F N l (k + 16) (a + m) x = R := by
  subst h240
  have hva : vaZ (hv ((L.drop (a + m)).take (240 % 16))) ((240 % 16 : Nat) : Int) * 2 ^ l.toNat = 0 := by
    rw [show vaZ (hv ((L.drop (a + m)).take (240 % 16))) ((240 % 16 : Nat) : Int) = 0 from if_pos (.inl (by decide))]; exact Int.zero_mul _
  have h := rdA_go (left := left) (f := F) (x := x) hk hF (by omega) (by omega) (by omega) hva (by omega)
  rw [hR, show 240 / 16 = 15 from rfl, show 240 % 16 = 0 from rfl, set_zero (hz (k + 15) (by omega) (by omega))] at h
  exact h.symm
theorem ifr_go {S Z L : List Int} {left F N k a m s : Nat} {l : Int} {x : List Int} {R : List Int × Nat × Nat × Int} (hk : k < N) (hF : rdF S Z (L.drop a) = ((s : Int), m, 0)) (he : ¬ (s % 16 = 0 ∧ s ≠ 240)) (h10 : ¬ 10 < s % 16) (hN : ¬ N ≤ k + s / 16) (h240 : s ≠ 240) (hFN : F + N ≤ 64)
    (hR : rdA S Z L left F N l k a x = R) (hz : ∀ j, k ≤ j → j < N → x.getD (zzN (F + j)) 0 = 0) {v o b1 : Int} {a1 : Nat}
    (hT : (L.length < a + m + s % 16 ∧ v = 0 ∧ a1 = a + m ∧ b1 = 8) ∨ (¬ L.length < a + m + s % 16 ∧ v = hv ((L.drop (a + m)).take (s % 16)) ∧ a1 = a + m + s % 16 ∧ b1 = 0)) (ho : vaZ v ((s % 16 : Nat) : Int) * 2 ^ l.toNat = o) :
    (-1023 ≤ o ∧ o ≤ 1023 → b1 = 0 ∧ (0 : Int) = 0 ∧ rdA S Z L left F N l (k + s / 16 + 1) a1 (x.set (zzN (F + (k + s / 16))) o) = R ∧ (∀ j, k + s / 16 + 1 ≤ j → j < N → (x.set (zzN (F + (k + s / 16))) o).getD (zzN (F + j)) 0 = 0) ∨ b1 ≠ 0 ∧ R.2.2.2 = b1) ∧
    (¬ (-1023 ≤ o ∧ o ≤ 1023) → (if b1 = 0 then 2 else b1) ≠ 0 ∧ R.2.2.2 = (if b1 = 0 then 2 else b1)) := by
  have hm : ¬ (10 < s % 16 ∨ N ≤ k + s / 16 ∨ (s = 240 ∧ N ≤ k + 16)) := by omega
  rcases hT with ⟨h1, rfl, rfl, rfl⟩ | ⟨h1, rfl, rfl, rfl⟩
  · have h := rdA_few (left := left) (f := F) (l := l) (x := x) hk hF he hm h1
    rw [hR] at h
    subst h
    exact ⟨fun _ => .inr ⟨by decide, rfl⟩, fun _ => by rw [if_neg (by decide)]; exact ⟨by decide, rfl⟩⟩
  · refine ⟨fun hb => .inl ⟨rfl, rfl, ?_, fun j h2 h3 => ?_⟩, fun hb => ?_⟩
    · have h := rdA_go (left := left) (f := F) (x := x) hk hF he hm h1 ho hb
      rw [hR] at h
      exact h.symm
    · rw [getD_set_ne _ (zz_ne (i := j) (j := k + s / 16) (by omega) (by omega) (by omega))]
      exact hz j (by omega) h3
    · have h := rdA_big (left := left) (f := F) (x := x) hk hF he hm h1 ho hb
      rw [hR] at h
      subst h
      rw [if_pos rfl]
      exact ⟨by decide, rfl⟩
set_option maxHeartbeats 32000000 in
theorem ifirst_any {w : World} {p : Nat} {A1 A : Option Addr} {n1 c1 c K : Nat} {S Z L : List Int} {a en0 : Nat} (X : Inn w p (.slice A1 n1 c1) A c L a 0 (en0 : Nat)) (hB : B01 L) (hS : Cs w K A1 S Z) (hKw : K ≤ p) (hAK : ∀ q, A = some q → q.block < w.heap.size) (hz : Zs Z) (hn : Z.length = n1) (hm : n1 ≤ 100000) (hSy : ∀ x ∈ S, 0 ≤ x ∧ x ≤ 255)
    (x : List Int) (hx : x.length = 64) (F T Kl : Nat) (h : Int) (hft : F ≤ T) (hT63 : T ≤ 63) (hK9 : Kl ≤ 9) (left : Nat) (hl : left ≤ 1000) {R : List Int × Nat × Nat × Int} (hR : (if 0 < en0 then (zrN x F (T + 1 - F), a, en0, 0) else rdA S Z L left F (T + 1 - F) (Kl : Nat) 0 a (zrN x F (T + 1 - F))) = R) :
    Calls Try.prog 123 #[.pointer (some ⟨p, 0, none⟩), .agg (iv x).toArray, .agg #[.int .i64 (F : Nat), .int .i64 (T : Nat), .int .i64 h, .int .i64 (Kl : Nat)], .int .i64 (left : Nat)] w (IrP p (.slice A1 n1 c1) A c L R w) := by
  obtain ⟨N, hN⟩ : ∃ N, N = T + 1 - F := ⟨_, rfl⟩
  rw [← hN] at hR
  have hFN : F + N ≤ 64 := by omega
  have hTN : T + 1 = F + N := by omega
  have HR := Lib.hid hR
  have HX64 := Lib.hid hx
  have hpl := X.lt
  have hal : ∀ W : World, W.alloc (.cells #[.int .i64 0, .int .i64 0, .int .i64 0, .int .i64 0, .int .i64 0, .int .i64 0, .int .i64 0, .int .i64 0, .int .i64 0, .int .i64 0, .int .i64 0, .int .i64 0, .int .i64 0, .int .i64 0, .int .i64 0, .int .i64 0, .int .i64 0, .int .i64 0, .int .i64 0, .int .i64 0, .int .i64 0, .int .i64 0, .int .i64 0, .int .i64 0, .int .i64 0, .int .i64 0, .int .i64 0, .int .i64 0, .int .i64 0, .int .i64 0, .int .i64 0, .int .i64 0, .int .i64 0, .int .i64 0, .int .i64 0, .int .i64 0, .int .i64 0, .int .i64 0, .int .i64 0, .int .i64 0, .int .i64 0, .int .i64 0, .int .i64 0, .int .i64 0, .int .i64 0, .int .i64 0, .int .i64 0, .int .i64 0, .int .i64 0, .int .i64 0, .int .i64 0, .int .i64 0, .int .i64 0, .int .i64 0, .int .i64 0, .int .i64 0, .int .i64 0, .int .i64 0, .int .i64 0, .int .i64 0, .int .i64 0, .int .i64 0, .int .i64 0, .int .i64 0] 39) = W.alloc (.cells (iv z64).toArray 39) := fun _ => rfl
  have XG := Bln.new w 70 (iv x)
  have hb1 : Below w.heap.size w (w.alloc (.cells (iv x).toArray 70)) := (Below.refl _ _).alloc (Nat.le_refl _) _
  have hs1 : (w.alloc (.cells (iv x).toArray 70)).heap.size = w.heap.size + 1 := by simp
  have XB := Bln.new (w.alloc (.cells (iv x).toArray 70)) 33 [.int .i64 (F : Nat), .int .i64 (T : Nat), .int .i64 h, .int .i64 (Kl : Nat)]
  have hb2 : Below (w.alloc (.cells (iv x).toArray 70)).heap.size (w.alloc (.cells (iv x).toArray 70)) ((w.alloc (.cells (iv x).toArray 70)).alloc (.cells #[.int .i64 (F : Nat), .int .i64 (T : Nat), .int .i64 h, .int .i64 (Kl : Nat)] 33)) := (Below.refl _ _).alloc (Nat.le_refl _) _
  have hs2 : ((w.alloc (.cells (iv x).toArray 70)).alloc (.cells #[.int .i64 (F : Nat), .int .i64 (T : Nat), .int .i64 h, .int .i64 (Kl : Nat)] 33)).heap.size = w.heap.size + 1 + 1 := by simp
  have XE := Bln.new ((w.alloc (.cells (iv x).toArray 70)).alloc (.cells #[.int .i64 (F : Nat), .int .i64 (T : Nat), .int .i64 h, .int .i64 (Kl : Nat)] 33)) 70 (iv z64)
  have hb3 : Below ((w.alloc (.cells (iv x).toArray 70)).alloc (.cells #[.int .i64 (F : Nat), .int .i64 (T : Nat), .int .i64 h, .int .i64 (Kl : Nat)] 33)).heap.size ((w.alloc (.cells (iv x).toArray 70)).alloc (.cells #[.int .i64 (F : Nat), .int .i64 (T : Nat), .int .i64 h, .int .i64 (Kl : Nat)] 33)) (((w.alloc (.cells (iv x).toArray 70)).alloc (.cells #[.int .i64 (F : Nat), .int .i64 (T : Nat), .int .i64 h, .int .i64 (Kl : Nat)] 33)).alloc (.cells (iv z64).toArray 70)) := (Below.refl _ _).alloc (Nat.le_refl _) _
  have XG3 := (XG.below hb2).below hb3
  have XB3 := XB.below hb3
  rw [hs1] at XB3
  rw [hs2] at XE
  have hb123 : Below w.heap.size w (((w.alloc (.cells (iv x).toArray 70)).alloc (.cells #[.int .i64 (F : Nat), .int .i64 (T : Nat), .int .i64 h, .int .i64 (Kl : Nat)] 33)).alloc (.cells (iv z64).toArray 70)) := hb1.trans ((hb2.mono (by omega)).trans (hb3.mono (by omega)))
  clear hR hN XG XB hb1 hb2 hb3 hs1 hs2
  go_enter Try.func123, Try.ntmps123
  go_upto_region 1 with fail
  obtain ⟨gx, hgx⟩ : ∃ g, g = w.heap.size := ⟨_, rfl⟩
  obtain ⟨gb, hgb⟩ : ∃ g, g = gx + 1 := ⟨_, rfl⟩
  obtain ⟨g8, hg8⟩ : ∃ g, g = gb + 1 := ⟨_, rfl⟩
  rw [← hgx] at XG3 XB3 XE ⊢
  rw [← hgb] at XB3 XE ⊢
  rw [← hg8] at XE ⊢
  have hne1 : gb ≠ gx ∧ g8 ≠ gx ∧ gx ≠ p ∧ gb ≠ p ∧ g8 ≠ p ∧ w.heap.size ≤ gx ∧ w.heap.size ≤ gb ∧ w.heap.size ≤ g8 ∧ g8 ≠ gb := by omega
  obtain ⟨n1x, n8x, nxp, nbp, n8p, hwx, hwb, hw8, n8b⟩ := hne1
  have HGX := Lib.hid hgx
  clear hgx hgb hg8
  have hal8 : ∀ W : World, W.alloc (.cells #[.int .i64 0, .int .i64 0, .int .i64 0, .int .i64 0, .int .i64 0, .int .i64 0, .int .i64 0, .int .i64 0, .int .i64 0, .int .i64 0, .int .i64 0, .int .i64 0, .int .i64 0, .int .i64 0, .int .i64 0, .int .i64 0, .int .i64 0, .int .i64 0, .int .i64 0, .int .i64 0, .int .i64 0, .int .i64 0, .int .i64 0, .int .i64 0, .int .i64 0, .int .i64 0, .int .i64 0, .int .i64 0, .int .i64 0, .int .i64 0, .int .i64 0, .int .i64 0, .int .i64 0, .int .i64 0, .int .i64 0, .int .i64 0, .int .i64 0, .int .i64 0, .int .i64 0, .int .i64 0, .int .i64 0, .int .i64 0, .int .i64 0, .int .i64 0, .int .i64 0, .int .i64 0, .int .i64 0, .int .i64 0, .int .i64 0, .int .i64 0, .int .i64 0, .int .i64 0, .int .i64 0, .int .i64 0, .int .i64 0, .int .i64 0, .int .i64 0, .int .i64 0, .int .i64 0, .int .i64 0, .int .i64 0, .int .i64 0, .int .i64 0, .int .i64 0] 70) = W.alloc (.cells (iv z64).toArray 70) := fun _ => rfl
  rw [hal8]
  clear hal8
  generalize ((w.alloc (.cells (iv x).toArray 70)).alloc (.cells #[.int .i64 (F : Nat), .int .i64 (T : Nat), .int .i64 h, .int .i64 (Kl : Nat)] 33)).alloc (.cells (iv z64).toArray 70) = w3 at *
  have hs3 := hb123.size
  go_wp2_with fail
  refine (order_ref w3).mono ?_; rintro e w5 ⟨rfl, hb5⟩
  have XG5 := XG3.below hb5
  have XB5 := XB3.below hb5
  have XE5 := XE.below hb5
  have hb5' := hb123.trans (hb5.mono hs3)
  have hs5 := hb5'.size
  have hzl : (iv zzL).length = 64 := by rw [iv_len]; rfl
  have hzat : ∀ q, q < 64 → (iv zzL)[q]? = some (.int .i64 ((zzN q : Nat) : Int)) := fun q hq => by
    rw [ivs_get (by show q < 64; exact hq), (zzN_bd q hq).2.1]
  obtain ⟨ZL, hZL⟩ : ∃ z, z = zzL := ⟨_, rfl⟩
  rw [← hZL] at hzl hzat ⊢
  have hsz : (iv ZL).toArray.size = 64 := hzl
  obtain ⟨XD, hbd⟩ := Bln.copy w5 39 (iv z64) (iv ZL) (by rw [hzl, iv_len]; rfl)
  have hth : (w5.alloc (.cells (iv z64).toArray 39)).there w5.heap.size 0 (iv ZL).toArray.size := by
    rw [hsz]
    exact (Bln.new w5 39 (iv z64)).there 64 (by rw [iv_len]; decide)
  have hone := one_iv ZL
  have HSZ := Lib.hid hsz
  have HZA := Lib.hid hzat
  have h8l := XE5.lt
  have hxl5 := XG5.lt
  have hbl5 := XB5.lt
  clear hZL hsz hzl hzat hb5 hb123 XG3 XB3 XE hs3
  go_upto_region 2 with (refine wpList_store_mid rfl 39 (.tmp 9) (.tmp 15) rfl _ _ (iv ZL).toArray rfl rfl hth (by rw [HSZ.out]; exact Try.info_block) (all_oneCell_toArray hone) ?_)
  have XG1 := XG5.below hbd
  have XB1 := XB5.below hbd
  have XE1 := XE5.below hbd
  have hb1 := hb5'.trans (hbd.mono hs5)
  have hs1 := hb1.size
  have HXD : Bln ((w5.alloc (.cells (iv z64).toArray 39)).setCells w5.heap.size 0 (iv ZL)) w5.heap.size 39 (iv ZL) := XD
  generalize (w5.alloc (.cells (iv z64).toArray 39)).setCells w5.heap.size 0 (iv ZL) = w1 at *
  have hwo : w.heap.size ≤ w5.heap.size := hs5
  have nox : w5.heap.size ≠ gx := by omega
  have nob : w5.heap.size ≠ gb := by omega
  have no8 : w5.heap.size ≠ g8 := by omega
  have nop : w5.heap.size ≠ p := by omega
  generalize w5.heap.size = ob at *
  have hob1 := HXD.lt
  clear hth hbd hal hone XD XG5 XB5 XE5 hb5' hs5 h8l hxl5 hbl5
  have X1 := X.keep (S := fun _ => False) (Fr.of_below hb1) (fun f => f) (fun _ _ f => f)
  have y0 := XB1.cell (i := 0) (u := .int .i64 (F : Nat)) rfl
  go_upto_region 3 with fail
  clear y0
  go_loopw [10] (IzR gx F N x w1) (fun kv _ => F + N - (intOf kv).toNat)
  case atStart => exact ⟨F, 0, Nat.zero_le _, rfl, rfl, XG1, Fr.refl _ _⟩
  case round =>
    clear XG1
    obtain ⟨q, k, hk, hqk, rfl, XG, hf⟩ := hrel
    obtain ⟨wi, rfl⟩ : ∃ wi : World, wi = wr := ⟨_, rfl⟩
    have XB := XB1.keep hf (fun e => n1x e)
    have y1 := XB.cell (i := 1) (u := .int .i64 (T : Nat)) rfl
    by_cases hlt : q ≤ T
    · have dl : decide (q ≤ T) = true := decide_eq_true hlt
      have hzb := zzN_bd q (by omega)
      have D := HXD.keep hf (fun e => nox e)
      have cz := D.cell (HZA.out q (by omega))
      have hzl : (iv (zrN x F k)).length = 64 := by rw [iv_len, zrN_len]; exact HX64.out
      have fg := XG.fz (i := zzN q) (by rw [hzl]; exact hzb.1)
      obtain ⟨cu, hcu⟩ : ∃ cu, (iv (zrN x F k))[zzN q]? = some cu := ⟨_, List.getElem?_eq_getElem (by rw [hzl]; exact hzb.1)⟩
      have cg := XG.cell hcu
      have XN := XG.set (zzN q) (.int .i64 0)
      rw [show (iv (zrN x F k)).set (zzN q) (.int .i64 0) = iv (zrN x F (k + 1)) from by rw [zrN_set, hqk]; simp [iv]] at XN
      have hfn := hf.setCell (p := ⟨gx, zzN q, none⟩) (.inl rfl) (.int .i64 0)
      have HXN := Lib.hid (And.intro XN (And.intro hfn hqk))
      obtain ⟨z, hz⟩ : ∃ z, z = zzN q := ⟨_, rfl⟩
      rw [← hz] at cz fg cg hzb HXN
      have hz0 : (0 : Int) ≤ (z : Int) := by omega
      have hz1 : (z : Int) < 64 := by omega
      have hq0 : (0 : Int) ≤ (q : Int) := by omega
      have hq1 : (q : Int) < 64 := by omega
      clear XN hfn hz hcu hzl XG D XB hf hqk
      go_wp2_with fail
      go_roundw
      case rel => exact ⟨q + 1, k + 1, by have := HXN.out.2.2; omega, by have := HXN.out.2.2; omega, by go_num, HXN.out.1, HXN.out.2.1⟩
      case measure => have h9 := HXN.out.2.2; simp [intOf]; omega
    · have dl : decide (q ≤ T) = false := decide_eq_false hlt
      have hkN : k = N := by omega
      rw [hkN] at XG
      have hf1 : Fr (fun b => b = p ∨ b = gx) w1 wi := hf.mono (fun b hb => .inr hb)
      have X2 := X1.keep hf (fun e => nxp e.symm) (fun r hr e => by have := hAK r hr; omega)
      have y0 := XB.cell (i := 0) (u := .int .i64 (F : Nat)) rfl
      clear hkN hf hqk
      have hx64 : (zrN x F N).length = 64 := by rw [zrN_len]; exact HX64.out
      have hzr : ∀ j, 0 ≤ j → j < N → (zrN x F N).getD (zzN (F + j)) 0 = 0 := fun j _ hj => zrN_zero x F HX64.out N hFN j hj
      have XB1 := XB
      have HXD := HXD.keep hf1 (fun e => by rcases e with e | e <;> omega)
      have XE1 := XE1.keep hf1 (fun e => by rcases e with e | e <;> omega)
      have hfe : Fr (fun b => b = p) w wi := (Fr.of_below hb1).trans' hf1 (fun b hb e => by rcases e with e | e <;> omega)
      have hAw : ∀ r, A = some r → r.block ≠ gx := fun r hr e => by have := hAK r hr; omega
      have hSi : Cs wi K A1 S Z := hS.keep (hfe.below (fun k hk e => by omega) (by omega))
      have hsi := hfe.size
      have hbl := XB.lt
      clear X X1 hb1 hf1 hs1 hob1
      go_upto_block 2 with fail
      clear y0 y1
      go_cut [] from 11 to 108 (fun wx => IbP p gx (.slice A1 n1 c1) A c L R wi wx)
      case first =>
        go_wp2_with fail
        go_loopw [11] (IfR S Z p gx (.slice A1 n1 c1) A c L left F N (Kl : Nat) R wi) (fun kv _ => F + N - (intOf kv).toNat)
        case atStart => exact ⟨F, 0, a, zrN x F N, 0, (en0 : Nat), Nat.zero_le _, rfl, rfl, hx64, XG, X2, Fr.refl _ _, (by
          have h := HR.out
          rcases Nat.eq_zero_or_pos en0 with h0 | h0
          · subst h0
            exact .inl ⟨rfl, rfl, h, hzr⟩
          · rw [if_pos h0] at h
            exact .inr (.inl ⟨rfl, by omega, h.symm⟩))⟩
        case round =>
          clear XG X2 hzr
          obtain ⟨q, k, a2, x2, bad, en, hk, hqk, rfl, hx2, XG2, I2, hf2, hcase⟩ := hrel
          obtain ⟨wj, rfl⟩ : ∃ wj : World, wj = wr := ⟨_, rfl⟩
          have XB2 := XB1.keep hf2 (fun e => by rcases e with e | e <;> omega)
          have y1 := XB2.cell (i := 1) (u := .int .i64 (T : Nat)) rfl
          have y3 := XB2.cell (i := 3) (u := .int .i64 (Kl : Nat)) rfl
          have c3 := I2.c3
          have c4 := I2.c4
          have HX2 := Lib.hid hx2
          have HQK := Lib.hid hqk
          have hq1 : q ≤ F + k := by omega
          have hq2 : F + k ≤ q := by omega
          clear hx2 hqk
          by_cases hlt : q ≤ T
          · have dl : decide (q ≤ T) = true := decide_eq_true hlt
            rcases hcase with ⟨rfl, rfl, hrd, hzr2⟩ | ⟨rfl, hen0, hRe⟩ | ⟨hbad, hRb⟩
            · have HRD := Lib.hid hrd
              have HZR := Lib.hid hzr2
              clear hrd hzr2
              obtain ⟨⟨sv, m, er⟩, hF⟩ : ∃ r, rdF S Z (L.drop a2) = r := ⟨_, rfl⟩
              have hsb := rdF_255 (Z := Z) hSy (L.drop a2)
              rw [hF] at hsb
              dsimp only at hsb
              obtain ⟨s, rfl⟩ := Int.eq_ofNat_of_zero_le hsb.1
              have HF := Lib.hid hF
              have hs255 : s ≤ 255 := by omega
              have hSj : Cs wj K A1 S Z := hSi.keep (hf2.below (fun k hk e => by rcases e with e | e <;> omega) (by omega))
              have hsj := hf2.size
              have hisy := isym_any I2 hB hSj hz hn hm hF
              have HIS := Lib.hid hisy
              clear hisy hF hSj hsb
              by_cases he : er = 0
              · subst he
                go_wp2_with fail
                refine HIS.out.mono ?_; rintro e' w4 ⟨rfl, I4, hf4⟩
                rw [if_pos (by trivial)]
                clear c3 c4 I2
                have hf24 := hf2.trans (hf4.mono (fun b hb => .inl hb))
                have XG4 := XG2.keep hf4 (fun e => nxp e)
                have XB4 := XB2.keep hf4 (fun e => nbp e)
                have y1 := XB4.cell (i := 1) (u := .int .i64 (T : Nat)) rfl
                have y3 := XB4.cell (i := 3) (u := .int .i64 (Kl : Nat)) rfl
                have ds0 : decide ((s : Int) < 0) = false := decide_eq_false (by omega)
                clear hf2 hf4 XG2 XB2
                by_cases hend : s % 16 = 0 ∧ s ≠ 240
                · have hR2 : R = rdE L left (a2 + m) (s / 16) x2 := by rw [← HRD.out, rdA_end (by omega) HF.out hend]
                  have hie := iend_any I4 hB s (by omega) hend (by omega) left hl x2
                  rw [← hR2] at hie
                  have HIE := Lib.hid hie
                  have HR2 := Lib.hid hR2
                  clear hie hR2 y1 y3
                  go_wp2_with (go_at_call 149; refine HIE.out.mono ?_; rintro e' w5 ⟨rfl, a5, en5, I5, hR5, hf5⟩)
                  go_meet
                  refine ⟨x2, a5, en5, HX2.out, XG4.keep hf5 (fun e => nxp e), I5, fun h9 => ?_, hf24.trans (hf5.mono (fun b hb => .inl hb))⟩
                  obtain ⟨h10, h11⟩ := hR5 h9
                  refine ⟨?_, h10, h11⟩
                  have h12 := HR2.out
                  unfold rdE at h12
                  split at h12
                  · rw [h12] at h9; exact absurd h9 (by decide)
                  · split at h12
                    · rw [h12] at h9; exact absurd h9 (by decide)
                    · rw [h12]
                · have hno : ((s : Nat) : Int).tmod 16 ≠ 0 ∨ ((s : Nat) : Int) = 240 := by rw [Int.tmod_eq_emod_of_nonneg (by omega)]; omega
                  have HNO := Lib.hid hno
                  have e1 : ((s : Nat) : Int).tmod 16 = ((s % 16 : Nat) : Int) := by rw [Int.tmod_eq_emod_of_nonneg (by omega)]; omega
                  have e2 : ((s : Nat) : Int).tdiv 16 = ((s / 16 : Nat) : Int) := by rw [Int.tdiv_eq_ediv_of_nonneg (by omega)]; omega
                  have HEND := Lib.hid hend
                  clear hno hend
                  obtain ⟨sz, hsz⟩ : ∃ z, z = s % 16 := ⟨_, rfl⟩
                  obtain ⟨nz, hnz⟩ : ∃ z, z = s / 16 := ⟨_, rfl⟩
                  rw [← hsz] at e1
                  rw [← hnz] at e2
                  have HSZ := Lib.hid hsz
                  have HNZ := Lib.hid hnz
                  have hszb : sz ≤ 15 := by omega
                  have hnzb : nz ≤ 15 := by omega
                  by_cases h10 : 10 < sz
                  · have d10 : decide ((10 : Int) < (sz : Int)) = true := decide_eq_true (by omega)
                    have hR2 : R = ([], 0, 0, 2) := by rw [← HRD.out, rdA_mal (by omega) HF.out HEND.out (by omega)]
                    have HR2 := Lib.hid hR2
                    clear hR2 h10 hsz hnz y1 y3
                    go_wp2_with (first | (go_at_call 149; refine (iend_no _ _ HNO.out _ _).mono ?_; rintro e' w5 ⟨rfl, rfl⟩) | (go_at_call 133; refine (ifail_any I4).mono ?_; rintro e' w5 ⟨rfl, I5, hf5⟩))
                    go_meet
                    exact ⟨x2, a2 + m, 0, HX2.out, XG4.keep hf5 (fun e => nxp e), by rw [HR2.out]; exact I5, fun h9 => absurd (show (2 : Int) = 0 by rw [HR2.out] at h9; exact h9) (by decide), hf24.trans (hf5.mono (fun b hb => .inl hb))⟩
                  · have d10 : decide ((10 : Int) < (sz : Int)) = false := decide_eq_false (by omega)
                    clear hsz hnz
                    go_wp2_with (go_at_call 149; refine (iend_no _ _ HNO.out _ _).mono ?_; rintro e' w5 ⟨rfl, rfl⟩)
                    go_loopw [11, 13] (fun kv nv wr => ∃ j : Nat, j ≤ nz ∧ kv = .int .i64 ((q + j : Nat) : Int) ∧ nv = .int .i64 (j : Nat) ∧ wr = w4) (fun _ nv _ => nz - (intOf nv).toNat)
                    case atStart => exact ⟨0, by omega, by rw [Nat.add_zero], rfl, rfl⟩
                    case round =>
                      obtain ⟨j, hj, rfl, rfl, rfl⟩ := hrel
                      by_cases hjn : j < nz
                      · have dj : decide (j < nz) = true := decide_eq_true hjn
                        have hqj : ((q + j : Nat) : Int) < 1000 := by omega
                        clear y1 y3 ds0 dl
                        go_wp2_with fail
                        go_roundw
                        case rel => exact ⟨j + 1, by omega, by go_num, by go_num, trivial⟩
                        case measure => simp [intOf]; omega
                      · have dj : decide (j < nz) = false := decide_eq_false hjn
                        obtain rfl : j = nz := by omega
                        clear hj hjn
                        have hle4 := I4.le
                        by_cases h240 : s = 240
                        · have d240 : ((s : Int) == 240) = true := by simp; omega
                          have hnz15 : j = 15 := by rw [HNZ.out]; omega
                          have hsz0 : sz = 0 := by rw [HSZ.out]; omega
                          subst hnz15
                          by_cases hgt : T < q + 16
                          · have dgt : decide ((T : Int) < (q : Int) + 15 + 1) = true := decide_eq_true (by omega)
                            have hR2 : R = ([], 0, 0, 2) := by rw [← HRD.out, rdA_mal (by omega) HF.out HEND.out (by omega)]
                            have HR2 := Lib.hid hR2
                            clear hR2 h240 hgt h10 y3
                            go_wp2_with (go_at_call 133; refine (ifail_any I4).mono ?_; rintro e' w5 ⟨rfl, I5, hf5⟩)
                            go_meet
                            exact ⟨x2, a2 + m, 0, HX2.out, XG4.keep hf5 (fun e => nxp e), by rw [HR2.out]; exact I5, fun h9 => absurd (show (2 : Int) = 0 by rw [HR2.out] at h9; exact h9) (by decide), hf24.trans (hf5.mono (fun b hb => .inl hb))⟩
                          · have dgt : decide ((T : Int) < (q : Int) + 15 + 1) = false := decide_eq_false (by omega)
                            have hnx := ifr_skip (by omega) HF.out h240 (by omega) hle4 HRD.out HZR.out
                            have HNX := Lib.hid hnx
                            have hT16 : q + 16 ≤ T := by omega
                            clear hgt hnx h240
                            go_wp2_with fail
                            go_roundw
                            case rel => exact ⟨q + 16, k + 16, a2 + m, x2, 0, 0, by omega, by omega, by go_num, HX2.out, XG4, I4, hf24, .inl ⟨rfl, rfl, HNX.out, fun j' h1 h2 => HZR.out j' (by omega) h2⟩⟩
                            case measure => simp [intOf]; omega
                        · have d240 : ((s : Int) == 240) = false := by simp; omega
                          obtain ⟨qj, hqj⟩ : ∃ r, r = q + j := ⟨_, rfl⟩
                          have HQJ := Lib.hid hqj
                          have hqji : (q : Int) + (j : Int) = (qj : Int) := by omega
                          clear hqj
                          by_cases hgt : T < qj
                          · have dgt : decide (T < qj) = true := decide_eq_true hgt
                            have dgt2 : decide ((T : Int) < (qj : Int)) = true := decide_eq_true (by omega)
                            have hR2 : R = ([], 0, 0, 2) := by have := HNZ.out; rw [← HRD.out, rdA_mal (by omega) HF.out HEND.out (by omega)]
                            have HR2 := Lib.hid hR2
                            clear hR2 h240 hgt h10 y3
                            go_wp2_with (go_at_call 133; refine (ifail_any I4).mono ?_; rintro e' w5 ⟨rfl, I5, hf5⟩)
                            go_meet
                            exact ⟨x2, a2 + m, 0, HX2.out, XG4.keep hf5 (fun e => nxp e), by rw [HR2.out]; exact I5, fun h9 => absurd (show (2 : Int) = 0 by rw [HR2.out] at h9; exact h9) (by decide), hf24.trans (hf5.mono (fun b hb => .inl hb))⟩
                          · have dgt : decide (T < qj) = false := decide_eq_false hgt
                            have dgt2 : decide ((T : Int) < (qj : Int)) = false := decide_eq_false (by omega)
                            have hvb := hv_take_bd (L.drop (a2 + m)) (hB.drop (a2 + m)) sz
                            obtain ⟨v, a1, b1, hT⟩ : ∃ (v : Int) (a1 : Nat) (b1 : Int), (L.length < a2 + m + sz ∧ v = 0 ∧ a1 = a2 + m ∧ b1 = 8) ∨ (¬ L.length < a2 + m + sz ∧ v = hv ((L.drop (a2 + m)).take sz) ∧ a1 = a2 + m + sz ∧ b1 = 0) := by
                              by_cases hf : L.length < a2 + m + sz
                              · exact ⟨0, a2 + m, 8, .inl ⟨hf, rfl, rfl, rfl⟩⟩
                              · exact ⟨_, a2 + m + sz, 0, .inr ⟨hf, rfl, rfl, rfl⟩⟩
                            have I4d : Inn wr.drew p (.slice A1 n1 c1) A c L (a2 + m) 0 0 := I4.drewN 1
                            have htk : Calls Try.prog 131 #[.pointer (some ⟨p, 0, none⟩), .int .i64 (sz : Nat)] wr.drew (InP p (.slice A1 n1 c1) A c L (.int .i64 v) a1 b1 0 wr.drew) := by
                              rcases hT with ⟨h1, rfl, rfl, rfl⟩ | ⟨h1, rfl, rfl, rfl⟩
                              · exact itake_few I4d sz hszb h1
                              · exact itake_ok I4d hB sz hszb (by omega)
                            have hle1 : a1 ≤ L.length := by rcases hT with ⟨h1, _, rfl, _⟩ | ⟨h1, _, rfl, _⟩ <;> omega
                            have hva := vaN_bd v sz hszb
                            obtain ⟨va, hvq⟩ : ∃ va, va = vaZ v (sz : Int) := ⟨_, rfl⟩
                            rw [← hvq] at hva
                            have hpK := two_int Kl (by omega)
                            have hmul : -33554432 ≤ va * (2 : Int) ^ Kl ∧ va * (2 : Int) ^ Kl ≤ 33554432 := by
                              generalize (2 : Int) ^ Kl = P at *
                              have q1 : va * P ≤ 32768 * P := Int.mul_le_mul_of_nonneg_right (by omega) (by omega)
                              have q2 : -32768 * P ≤ va * P := Int.mul_le_mul_of_nonneg_right (by omega) (by omega)
                              omega
                            obtain ⟨o, hoq⟩ : ∃ o, o = va * (2 : Int) ^ Kl := ⟨_, rfl⟩
                            rw [← hoq] at hmul
                            have hw1 : wrap64 (va * (2 : Int) ^ Kl) = o := by rw [← hoq]; unfold wrap64; omega
                            have hw2 : IntKind.i64.wrap (va * (2 : Int) ^ Kl) = o := by rw [← hoq]; exact IntWalk.i64_in _ (by omega)
                            have hnx := ifr_go (S := S) (Z := Z) (L := L) (left := left) (F := F) (N := N) (k := k) (a := a2) (m := m) (s := s) (l := (Kl : Int)) (x := x2) (R := R) (by omega) HF.out HEND.out (by rw [← HSZ.out]; exact h10) (by rw [← HNZ.out]; omega) h240 hFN HRD.out HZR.out (v := v) (o := o) (b1 := b1) (a1 := a1) (by rw [← HSZ.out]; exact hT) (by rw [← HSZ.out, ← hvq, Int.toNat_natCast]; exact hoq.symm)
                            rw [← HNZ.out] at hnx
                            have HNX := Lib.hid hnx
                            have HVQ := Lib.hid hvq
                            have HTK := Lib.hid htk
                            have hq64 : qj < 64 := by omega
                            have hqT : qj ≤ T := by omega
                            clear hnx hvq htk hT hoq hva hvb I4d hgt h240 h10
                            go_upto_region 21 with fail
                            go_region_held3 (fun w' => w'.cell? ⟨gb, 3, none⟩ = some (.int .i64 (Kl : Int)))
                              (first | go_keep | exact keep_fp hf5 nbp (by assumption))
                              (first | (go_at_call 131; refine HTK.out.mono ?_; rintro e5 w5 ⟨rfl, I5, hf5⟩) | (go_at_call 43; refine (rvalue_any _ _ _).mono ?_; rintro e w' ⟨rfl, rfl⟩; rw [← HVQ.out]) | (go_at_call 122; refine (power22_any Kl (by omega) _).mono ?_; rintro e w' ⟨rfl, rfl⟩))
                            have hf5' : Fp p wr w5 := ((Fr.refl _ wr).drew).trans hf5
                            have hf25 := hf24.trans (hf5'.mono (fun b hb => .inl hb))
                            have XG5 := XG4.keep hf5' (fun e => nxp e)
                            have hzb := (zzN_bd (F + (k + j)) (by omega)).1
                            have hnx2 := HNX.out
                            obtain ⟨z, hz⟩ : ∃ z, z = zzN (F + (k + j)) := ⟨_, rfl⟩
                            rw [← hz] at hzb hnx2
                            by_cases hd : -1023 ≤ o ∧ o ≤ 1023
                            · have do1 : decide (o < -1023) = false := decide_eq_false (by omega)
                              have do2 : decide (1023 < o) = false := decide_eq_false (by omega)
                              have cz := (HXD.keep hf25 (fun e => by rcases e with e | e <;> omega)).cell (HZA.out qj hq64)
                              have hzq : zzN qj = z := by rw [hz, show qj = F + (k + j) by have := HQJ.out; omega]
                              rw [hzq] at cz
                              have fg := XG5.fz (i := z) (by rw [iv_len, HX2.out]; exact hzb)
                              have cg := XG5.cell (i := z) (u := .int .i64 (x2.getD z 0)) (ivs_get (by rw [HX2.out]; exact hzb))
                              have XN := XG5.set z (.int .i64 o)
                              rw [iv_set] at XN
                              have hfn := hf25.setCell (p := ⟨gx, z, none⟩) (.inl (.inr rfl)) (.int .i64 o)
                              have IN := I5.keep (S := fun b => b = gx) (Fr.setCell (S := fun b => b = gx) (Fr.refl _ _) (p := ⟨gx, z, none⟩) (.inl rfl) (.int .i64 o)) (fun e => nxp e.symm) (fun r hr e => hAw r hr e)
                              have hnd := hnx2.1 hd
                              have HND := Lib.hid hnd
                              have HXN := Lib.hid (And.intro XN (And.intro hfn IN))
                              clear hnd
                              clear hz XN hfn IN XG4 XB4 I4 XG5 I5 hf25 hzq hf5' hf5 hf24 y1 y3 hnx2
                              go_wp2_with fail
                              go_roundw
                              case rel => exact ⟨qj + 1, k + j + 1, a1, x2.set z o, b1, 0, by have := HQJ.out; omega, by have := HQJ.out; omega, by go_num, by rw [List.length_set]; exact HX2.out, HXN.out.1, HXN.out.2.2, HXN.out.2.1, HND.out.elim (fun q => .inl ⟨q.1, rfl, q.2.2⟩) (fun q => .inr (.inr q))⟩
                              case measure => have := HQJ.out; simp [intOf]; omega
                            · have hdo : decide (o < -1023) = true ∨ decide (o < -1023) = false ∧ decide (1023 < o) = true := by
                                by_cases h : o < -1023
                                · exact .inl (decide_eq_true h)
                                · exact .inr ⟨decide_eq_false h, decide_eq_true (by omega)⟩
                              have hnd := hnx2.2 hd
                              rcases hdo with do1 | ⟨do1, do2⟩
                              · go_upto_region 24 with (go_at_call 133; refine (ifail_any I5).mono ?_; rintro e' w6 ⟨rfl, I6, hf6⟩)
                                have hf26 := hf25.trans (hf6.mono (fun b hb => .inl hb))
                                have XG6 := XG5.keep hf6 (fun e => nxp e)
                                have cz := (HXD.keep hf26 (fun e => by rcases e with e | e <;> omega)).cell (HZA.out qj hq64)
                                have hzq : zzN qj = z := by rw [hz, show qj = F + (k + j) by have := HQJ.out; omega]
                                rw [hzq] at cz
                                have fg := XG6.fz (i := z) (by rw [iv_len, HX2.out]; exact hzb)
                                have cg := XG6.cell (i := z) (u := .int .i64 (x2.getD z 0)) (ivs_get (by rw [HX2.out]; exact hzb))
                                have XN := XG6.set z (.int .i64 o)
                                rw [iv_set] at XN
                                have hfn := hf26.setCell (p := ⟨gx, z, none⟩) (.inl (.inr rfl)) (.int .i64 o)
                                have IN := I6.keep (S := fun b => b = gx) (Fr.setCell (S := fun b => b = gx) (Fr.refl _ _) (p := ⟨gx, z, none⟩) (.inl rfl) (.int .i64 o)) (fun e => nxp e.symm) (fun r hr e => hAw r hr e)
                                have HND := Lib.hid hnd
                                have HXN := Lib.hid (And.intro XN (And.intro hfn IN))
                                clear hnd
                                clear hz XN hfn IN XG4 XB4 I4 XG6 I6 hf26 hzq XG5 I5 hf25 hf5' hf5 hf6 hf24 y1 y3 hnx2
                                go_wp2_with fail
                                go_roundw
                                case rel => exact ⟨qj + 1, k + j + 1, a1, x2.set z o, (if b1 = 0 then 2 else b1), 0, by have := HQJ.out; omega, by have := HQJ.out; omega, by go_num, by rw [List.length_set]; exact HX2.out, HXN.out.1, HXN.out.2.2, HXN.out.2.1, .inr (.inr HND.out)⟩
                                case measure => have := HQJ.out; simp [intOf]; omega
                              · go_upto_region 24 with (go_at_call 133; refine (ifail_any I5).mono ?_; rintro e' w6 ⟨rfl, I6, hf6⟩)
                                have hf26 := hf25.trans (hf6.mono (fun b hb => .inl hb))
                                have XG6 := XG5.keep hf6 (fun e => nxp e)
                                have cz := (HXD.keep hf26 (fun e => by rcases e with e | e <;> omega)).cell (HZA.out qj hq64)
                                have hzq : zzN qj = z := by rw [hz, show qj = F + (k + j) by have := HQJ.out; omega]
                                rw [hzq] at cz
                                have fg := XG6.fz (i := z) (by rw [iv_len, HX2.out]; exact hzb)
                                have cg := XG6.cell (i := z) (u := .int .i64 (x2.getD z 0)) (ivs_get (by rw [HX2.out]; exact hzb))
                                have XN := XG6.set z (.int .i64 o)
                                rw [iv_set] at XN
                                have hfn := hf26.setCell (p := ⟨gx, z, none⟩) (.inl (.inr rfl)) (.int .i64 o)
                                have IN := I6.keep (S := fun b => b = gx) (Fr.setCell (S := fun b => b = gx) (Fr.refl _ _) (p := ⟨gx, z, none⟩) (.inl rfl) (.int .i64 o)) (fun e => nxp e.symm) (fun r hr e => hAw r hr e)
                                have HND := Lib.hid hnd
                                have HXN := Lib.hid (And.intro XN (And.intro hfn IN))
                                clear hnd
                                clear hz XN hfn IN XG4 XB4 I4 XG6 I6 hf26 hzq XG5 I5 hf25 hf5' hf5 hf6 hf24 y1 y3 hnx2
                                go_wp2_with fail
                                go_roundw
                                case rel => exact ⟨qj + 1, k + j + 1, a1, x2.set z o, (if b1 = 0 then 2 else b1), 0, by have := HQJ.out; omega, by have := HQJ.out; omega, by go_num, by rw [List.length_set]; exact HX2.out, HXN.out.1, HXN.out.2.2, HXN.out.2.1, .inr (.inr HND.out)⟩
                                case measure => have := HQJ.out; simp [intOf]; omega
              · have hR2 : R = ([], 0, 0, er) := by rw [← HRD.out, rdA_bad (by omega) HF.out he]
                have HR2 := Lib.hid hR2
                have HE := Lib.hid he
                clear hR2 he
                go_wp2_with (go_at_call 132; refine HIS.out.mono ?_; rintro e' w4 ⟨rfl, I4, hf4⟩; rw [if_neg HE.out])
                go_meet
                exact ⟨x2, a2 + m, 0, HX2.out, XG2.keep hf4 (fun e => nxp e), by rw [HR2.out]; exact I4, fun h9 => absurd (by rw [HR2.out] at h9; exact h9) HE.out, hf2.trans (hf4.mono (fun b hb => .inl hb))⟩
            · have hib : IbP p gx (.slice A1 n1 c1) A c L R wi wj := ⟨x2, a2, en, HX2.out, XG2, by rw [hRe]; exact I2, fun _ => by rw [hRe]; exact ⟨rfl, rfl, by dsimp only; omega⟩, hf2⟩
              have HIB := Lib.hid hib
              have de : (en == 0) = false := by simp; omega
              clear hib XG2 I2 hf2 XB2 y3 hRe
              go_wp2_with fail
              go_meet
              exact HIB.out
            · have hib : IbP p gx (.slice A1 n1 c1) A c L R wi wj := ⟨x2, a2, en, HX2.out, XG2, by rw [hRb]; exact I2, fun h9 => absurd (by rw [hRb] at h9; exact h9) hbad, hf2⟩
              have HIB := Lib.hid hib
              have db : (bad == 0) = false := by simp; exact hbad
              clear hib XG2 I2 hf2 XB2 y3 hbad hRb
              by_cases he : en = 0
              · have de : (en == 0) = true := by simp; exact he
                clear he
                go_wp2_with fail
                go_meet
                exact HIB.out
              · have de : (en == 0) = false := by simp; exact he
                clear he
                go_wp2_with fail
                go_meet
                exact HIB.out
          · have dl : decide (q ≤ T) = false := decide_eq_false hlt
            have hib : IbP p gx (.slice A1 n1 c1) A c L R wi wj := by
              rcases hcase with ⟨rfl, rfl, hrd, _⟩ | ⟨rfl, hen0, hRe⟩ | ⟨hbad, hRb⟩
              · have hR2 : R = (x2, a2, 0, 0) := by rw [← hrd, rdA_out (by omega)]
                rw [hR2]
                exact ⟨x2, a2, 0, HX2.out, XG2, I2, fun _ => ⟨rfl, rfl, rfl⟩, hf2⟩
              · exact ⟨x2, a2, en, HX2.out, XG2, by rw [hRe]; exact I2, fun _ => by rw [hRe]; exact ⟨rfl, rfl, by dsimp only; omega⟩, hf2⟩
              · exact ⟨x2, a2, en, HX2.out, XG2, by rw [hRb]; exact I2, fun h9 => absurd (by rw [hRb] at h9; exact h9) hbad, hf2⟩
            have HIB := Lib.hid hib
            clear hib XG2 I2 hf2 hcase XB2 y3 c3 c4
            go_wp2_with fail
            go_meet
            exact HIB.out
      case rest =>
        clear XG X2 hzr
        obtain ⟨xr, ar, enr, hxl, XR, IR, hRR, hfr⟩ := hcut
        have HXR := Lib.hid hxl
        have HRR := Lib.hid hRR
        clear hRR hxl
        have XE := XE1.keep hfr (fun e => by rcases e with e | e <;> omega)
        have hrx := XR.range 0 (iv xr) (fun j v hv => by rw [Nat.zero_add]; exact hv)
        have hth : wc.there g8 0 (iv xr).toArray.size := by have h := XE.there 64 (by rw [iv_len]; decide); rw [show (iv xr).toArray.size = 64 from (iv_len xr).trans HXR.out]; exact h
        have hone := one_iv xr
        have X9 := Bln.sets (iv xr) 0 XE
        rw [setR_all (by rw [iv_len, iv_len, HXR.out]; rfl)] at X9
        have hf9 := Fr.sets (S := fun b => b = p) (a := w) (p := g8) (.inr (by omega)) (iv xr) 0 (hfe.trans' hfr (fun b hb e => by rcases e with e | e <;> omega))
        have I9 := IR.keep (Fr.sets (S := fun b => b = g8) (.inl rfl) (iv xr) 0 (Fr.refl _ _)) (fun e => n8p e.symm) (fun r hr e => by have := hAK r hr; omega)
        have HX9 := Lib.hid (And.intro X9 (And.intro hf9 I9))
        clear X9 hf9 I9 hfr XR IR
        go_wp2_with (first | ((with_reducible refine bp_id ?_); exact bodyPost_ret (results_cell_row (P := Try.prog) rfl _ _ g8 70 (iv xr).toArray (0, 0) _ rfl HX9.out.1 Try.underlying70 rfl (by rw [show (iv xr).toArray.size = 64 from (iv_len xr).trans HXR.out]; kernel_rfl)) rfl ⟨xr, ar, enr, rfl, HXR.out, HX9.out.2.2, HRR.out, HX9.out.2.1⟩) | refine wpList_load_mid rfl 70 (.tmp 5) rfl _ _ rfl (iv xr) _ hrx Try.underlying70 rfl (by rw [iv_len, HXR.out]; kernel_rfl) ?_ | refine wpList_store_mid rfl 70 (.tmp 8) (.tmp 109) rfl _ _ (iv xr).toArray rfl rfl hth (by rw [show (iv xr).toArray.size = 64 from (iv_len xr).trans HXR.out]; kernel_rfl) (all_oneCell_toArray hone) ?_)
end Go.Proofs.Ytlhappecjjbopaa
