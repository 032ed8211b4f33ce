/-
  Prog: the document's reading of a block of a finer band, by a contract. Conditions: symbols below 256, at most 1000000000 bits, at most 1000 blocks.
-/
import Derived.Test.YtlhappecjjbopaaPrRb
namespace Go.Proofs.Ytlhappecjjbopaa
set_option linter.unusedVariables false
set_option maxRecDepth 100000
open Go.ChangeShapes Go.WideShapes Go.ChangeAt Go.WideMaps Go.WideElems Go.RowKit Go.Joins
def BdJ (F N k : Nat) (x : List Int) : Prop := ∀ j, k ≤ j → j < N → -2000 ≤ x.getD (zzN (F + j)) 0 ∧ x.getD (zzN (F + j)) 0 ≤ 2000
/-- in the loop over symbols -/
def JgR (S Z : List Int) (p gx : Nat) (v0 : Value) (A : Option Addr) (c : Nat) (L : List Int) (left F N : Nat) (l : Int) (RG : List Int × Nat × Nat × Nat × Int) (w1 : World) (kv : Value) (wr : World) : Prop :=
  ∃ (q k a en : Nat) (x : List Int), k ≤ N ∧ q = F + k ∧ kv = .int .i64 (q : Nat) ∧ x.length = 64 ∧ Bln wr gx 70 (iv x) ∧ Inn wr p v0 A c L a 0 (en : Nat) ∧ Fr (fun b => b = p ∨ b = gx) w1 wr ∧ BdJ F N k x ∧ (en = 0 → rdG S Z L left F N l k a x = RG) ∧ (0 < en → RG = (x, k, a, en, 0))
/-- behind it -/
def JgE (p gx : Nat) (v0 : Value) (A : Option Addr) (c : Nat) (L : List Int) (F N : Nat) (RG : List Int × Nat × Nat × Nat × Int) (w1 : World) (kv : Value) (wr : World) : Prop :=
  ∃ (q k a : Nat) (bad en : Int) (x : List Int), q = F + k ∧ q ≤ 10000 ∧ kv = .int .i64 (q : Nat) ∧ x.length = 64 ∧ Bln wr gx 70 (iv x) ∧ Inn wr p v0 A c L a bad en ∧ Fr (fun b => b = p ∨ b = gx) w1 wr ∧ (bad = 0 ∧ k ≤ N ∧ 0 ≤ en ∧ RG = (x, k, a, en.toNat, 0) ∧ BdJ F N k x ∨ bad ≠ 0 ∧ RG.2.2.2.2 = bad)
/-- over known places -/
def JpR (p gx : Nat) (v0 : Value) (A : Option Addr) (c : Nat) (L : List Int) (F N : Nat) (l : Int) (P : List Int × Nat × Nat × Int) (z24 : Bool) (e0 e8 : Prop) (w5 : World) (kv nv : Value) (wr : World) : Prop :=
  ∃ (q k a z : Nat) (bad : Int) (x : List Int), k ≤ N ∧ q = F + k ∧ kv = .int .i64 (q : Nat) ∧ nv = .int .i64 (z : Nat) ∧ z ≤ 100 ∧ x.length = 64 ∧ Bln wr gx 70 (iv x) ∧ Inn wr p v0 A c L a bad 0 ∧ Fr (fun b => b = p ∨ b = gx) w5 wr ∧ (bad = 0 ∧ (z24 = true → 1 ≤ z) ∧ rdP L F N l k a (if z24 = true then z - 1 else z) x = P ∧ BdJ F N k x ∧ e0 ∨ bad = 8 ∧ e8)
def JpE (p gx : Nat) (v0 : Value) (A : Option Addr) (c : Nat) (L : List Int) (F N : Nat) (P : List Int × Nat × Nat × Int) (z24 : Bool) (e0 e8 : Prop) (w5 : World) (kv : Value) (wr : World) : Prop :=
  ∃ (q k kk a : Nat) (bad : Int) (x : List Int), q = F + k ∧ k ≤ N ∧ kv = .int .i64 (q : Nat) ∧ x.length = 64 ∧ Bln wr gx 70 (iv x) ∧ Inn wr p v0 A c L a bad 0 ∧ Fr (fun b => b = p ∨ b = gx) w5 wr ∧ (bad = 0 ∧ P = (x, kk, a, 0) ∧ kk ≤ N ∧ (k = if z24 = true ∧ kk < N then kk + 1 else kk) ∧ (kk < N → x.getD (zzN (F + kk)) 0 = 0) ∧ e0 ∨ bad = 8 ∧ e8)
/-- over the known places that are left -/
def JzR (p gx : Nat) (v0 : Value) (A : Option Addr) (c : Nat) (L : List Int) (F N : Nat) (l : Int) (en : Int) (P R : List Int × Nat × Nat × Int) (w5 : World) (kv : Value) (wr : World) : Prop :=
  ∃ (q k a z : Nat) (bad : Int) (x : List Int), k ≤ N ∧ q = F + k ∧ kv = .int .i64 (q : Nat) ∧ x.length = 64 ∧ Bln wr gx 70 (iv x) ∧ Inn wr p v0 A c L a bad en ∧ Fr (fun b => b = p ∨ b = gx) w5 wr ∧ (bad = 0 ∧ N - k ≤ z ∧ rdP L F N l k a z x = P ∧ BdJ F N k x ∧ R = (if P.2.2.2 ≠ 0 then ([], 0, 0, P.2.2.2) else (P.1, P.2.2.1, en.toNat, 0)) ∧ 0 ≤ en ∨ bad ≠ 0 ∧ R.2.2.2 = bad)
theorem BdJ.set {F N k : Nat} {x : List Int} (h : BdJ F N k x) (hf : F + N ≤ 64) (hk : k < N) (u : Int) : BdJ F N (k + 1) (x.set (zzN (F + k)) u) := fun j h1 h2 => by
  rw [getD_set_ne _ (zz_ne (i := j) (j := k) (by omega) (by omega) (by omega))]
  exact h j (by omega) h2
theorem keep_6 {W w5 : World} {p ob o1 gx z gb : Nat} {x y a b c d : Value} (hf : Fp p W w5) (h1 : ob ≠ p) (h2 : gx ≠ p) (h3 : gb ≠ p) (h : W.cell? ⟨ob, o1, none⟩ = some x ∧ W.cell? ⟨gx, z, none⟩ = some y ∧ W.cell? ⟨gb, 0, none⟩ = some a ∧ W.cell? ⟨gb, 1, none⟩ = some b ∧ W.cell? ⟨gb, 2, none⟩ = some c ∧ W.cell? ⟨gb, 3, none⟩ = some d) :
    w5.cell? ⟨ob, o1, none⟩ = some x ∧ w5.cell? ⟨gx, z, none⟩ = some y ∧ w5.cell? ⟨gb, 0, none⟩ = some a ∧ w5.cell? ⟨gb, 1, none⟩ = some b ∧ w5.cell? ⟨gb, 2, none⟩ = some c ∧ w5.cell? ⟨gb, 3, none⟩ = some d :=
  ⟨keep_fp hf h1 h.1, keep_fp hf h2 h.2.1, keep_fp hf h3 h.2.2.1, keep_fp hf h3 h.2.2.2.1, keep_fp hf h3 h.2.2.2.2.1, keep_fp hf h3 h.2.2.2.2.2⟩
theorem keep_5 {W w5 : World} {p ob o1 gb : Nat} {x a b c d : Value} (hf : Fp p W w5) (h1 : ob ≠ p) (h3 : gb ≠ p) (h : W.cell? ⟨ob, o1, none⟩ = some x ∧ W.cell? ⟨gb, 0, none⟩ = some a ∧ W.cell? ⟨gb, 1, none⟩ = some b ∧ W.cell? ⟨gb, 2, none⟩ = some c ∧ W.cell? ⟨gb, 3, none⟩ = some d) :
    w5.cell? ⟨ob, o1, none⟩ = some x ∧ w5.cell? ⟨gb, 0, none⟩ = some a ∧ w5.cell? ⟨gb, 1, none⟩ = some b ∧ w5.cell? ⟨gb, 2, none⟩ = some c ∧ w5.cell? ⟨gb, 3, none⟩ = some d :=
  ⟨keep_fp hf h1 h.1, keep_fp hf h3 h.2.1, keep_fp hf h3 h.2.2.1, keep_fp hf h3 h.2.2.2.1, keep_fp hf h3 h.2.2.2.2⟩
theorem set_5 {W : World} {gx z ob o1 gb : Nat} {x a b c d : Value} (u : Value) (h1 : ob ≠ gx) (h3 : gb ≠ gx) (h : W.cell? ⟨ob, o1, none⟩ = some x ∧ W.cell? ⟨gb, 0, none⟩ = some a ∧ W.cell? ⟨gb, 1, none⟩ = some b ∧ W.cell? ⟨gb, 2, none⟩ = some c ∧ W.cell? ⟨gb, 3, none⟩ = some d) :
    (W.setCell ⟨gx, z, none⟩ u).cell? ⟨ob, o1, none⟩ = some x ∧ (W.setCell ⟨gx, z, none⟩ u).cell? ⟨gb, 0, none⟩ = some a ∧ (W.setCell ⟨gx, z, none⟩ u).cell? ⟨gb, 1, none⟩ = some b ∧ (W.setCell ⟨gx, z, none⟩ u).cell? ⟨gb, 2, none⟩ = some c ∧ (W.setCell ⟨gx, z, none⟩ u).cell? ⟨gb, 3, none⟩ = some d :=
  keep_5 (p := gx) (Fr.setCell (S := fun b => b = gx) (Fr.refl _ _) (p := ⟨gx, z, none⟩) (.inl rfl) u) h1 h3 h
set_option maxHeartbeats 64000000 in
theorem ifine_any {w : World} {p : Nat} {A1 A : Option Addr} {n1 c1 c K : Nat} {S Z L : List Int} {a en0 : Nat} (X : Inn w p (.slice A1 n1 c1) A c L a 0 (en0 : Nat)) (hB : B01 L) (hS : Cs w K A1 S Z) (hKw : K ≤ p) (hAK : ∀ q, A = some q → q.block < w.heap.size) (hz : Zs Z) (hn : Z.length = n1) (hm : n1 ≤ 100000) (hSy : ∀ x ∈ S, 0 ≤ x ∧ x ≤ 255)
    (x : List Int) (hx : x.length = 64) (F T Kl : Nat) (h : Int) (hft : F ≤ T) (hT63 : T ≤ 63) (hK9 : Kl ≤ 9) (left : Nat) (hl : left ≤ 1000) (hbx : BdJ F (T + 1 - F) 0 x) {RG : List Int × Nat × Nat × Nat × Int} (hRG : (if 0 < en0 then (x, 0, a, en0, 0) else rdG S Z L left F (T + 1 - F) (Kl : Nat) 0 a x) = RG) {R : List Int × Nat × Nat × Int} (hR : endG L F (T + 1 - F) (Kl : Nat) RG = R) :
    Calls Try.prog 124 #[.pointer (some ⟨p, 0, none⟩), .agg (iv x).toArray, .agg #[.int .i64 (F : Nat), .int .i64 (T : Nat), .int .i64 h, .int .i64 (Kl : Nat)], .int .i64 (left : Nat)] w (IrP p (.slice A1 n1 c1) A c L R w) := by
  obtain ⟨N, hN⟩ : ∃ N, N = T + 1 - F := ⟨_, rfl⟩
  rw [← hN] at hR hRG hbx
  have HRG := Lib.hid hRG
  have HBX := Lib.hid hbx
  clear hRG hbx
  have hFN : F + N ≤ 64 := by omega
  have hTN : T + 1 = F + N := by omega
  have HR := Lib.hid hR
  have HX64 := Lib.hid hx
  have hpl := X.lt
  have hal : ∀ W : World, W.alloc (.cells #[.int .i64 0, .int .i64 0, .int .i64 0, .int .i64 0, .int .i64 0, .int .i64 0, .int .i64 0, .int .i64 0, .int .i64 0, .int .i64 0, .int .i64 0, .int .i64 0, .int .i64 0, .int .i64 0, .int .i64 0, .int .i64 0, .int .i64 0, .int .i64 0, .int .i64 0, .int .i64 0, .int .i64 0, .int .i64 0, .int .i64 0, .int .i64 0, .int .i64 0, .int .i64 0, .int .i64 0, .int .i64 0, .int .i64 0, .int .i64 0, .int .i64 0, .int .i64 0, .int .i64 0, .int .i64 0, .int .i64 0, .int .i64 0, .int .i64 0, .int .i64 0, .int .i64 0, .int .i64 0, .int .i64 0, .int .i64 0, .int .i64 0, .int .i64 0, .int .i64 0, .int .i64 0, .int .i64 0, .int .i64 0, .int .i64 0, .int .i64 0, .int .i64 0, .int .i64 0, .int .i64 0, .int .i64 0, .int .i64 0, .int .i64 0, .int .i64 0, .int .i64 0, .int .i64 0, .int .i64 0, .int .i64 0, .int .i64 0, .int .i64 0, .int .i64 0] 39) = W.alloc (.cells (iv z64).toArray 39) := fun _ => rfl
  have XG := Bln.new w 70 (iv x)
  have hb1 : Below w.heap.size w (w.alloc (.cells (iv x).toArray 70)) := (Below.refl _ _).alloc (Nat.le_refl _) _
  have hs1 : (w.alloc (.cells (iv x).toArray 70)).heap.size = w.heap.size + 1 := by simp
  have XB := Bln.new (w.alloc (.cells (iv x).toArray 70)) 33 [.int .i64 (F : Nat), .int .i64 (T : Nat), .int .i64 h, .int .i64 (Kl : Nat)]
  have hb2 : Below (w.alloc (.cells (iv x).toArray 70)).heap.size (w.alloc (.cells (iv x).toArray 70)) ((w.alloc (.cells (iv x).toArray 70)).alloc (.cells #[.int .i64 (F : Nat), .int .i64 (T : Nat), .int .i64 h, .int .i64 (Kl : Nat)] 33)) := (Below.refl _ _).alloc (Nat.le_refl _) _
  have hs2 : ((w.alloc (.cells (iv x).toArray 70)).alloc (.cells #[.int .i64 (F : Nat), .int .i64 (T : Nat), .int .i64 h, .int .i64 (Kl : Nat)] 33)).heap.size = w.heap.size + 1 + 1 := by simp
  have XE := Bln.new ((w.alloc (.cells (iv x).toArray 70)).alloc (.cells #[.int .i64 (F : Nat), .int .i64 (T : Nat), .int .i64 h, .int .i64 (Kl : Nat)] 33)) 70 (iv z64)
  have hb3 : Below ((w.alloc (.cells (iv x).toArray 70)).alloc (.cells #[.int .i64 (F : Nat), .int .i64 (T : Nat), .int .i64 h, .int .i64 (Kl : Nat)] 33)).heap.size ((w.alloc (.cells (iv x).toArray 70)).alloc (.cells #[.int .i64 (F : Nat), .int .i64 (T : Nat), .int .i64 h, .int .i64 (Kl : Nat)] 33)) (((w.alloc (.cells (iv x).toArray 70)).alloc (.cells #[.int .i64 (F : Nat), .int .i64 (T : Nat), .int .i64 h, .int .i64 (Kl : Nat)] 33)).alloc (.cells (iv z64).toArray 70)) := (Below.refl _ _).alloc (Nat.le_refl _) _
  have XG3 := (XG.below hb2).below hb3
  have XB3 := XB.below hb3
  rw [hs1] at XB3
  rw [hs2] at XE
  have hb123 : Below w.heap.size w (((w.alloc (.cells (iv x).toArray 70)).alloc (.cells #[.int .i64 (F : Nat), .int .i64 (T : Nat), .int .i64 h, .int .i64 (Kl : Nat)] 33)).alloc (.cells (iv z64).toArray 70)) := hb1.trans ((hb2.mono (by omega)).trans (hb3.mono (by omega)))
  clear hR hN XG XB hb1 hb2 hb3 hs1 hs2
  go_enter Try.func124, Try.ntmps124
  go_upto_region 1 with fail
  obtain ⟨gx, hgx⟩ : ∃ g, g = w.heap.size := ⟨_, rfl⟩
  obtain ⟨gb, hgb⟩ : ∃ g, g = gx + 1 := ⟨_, rfl⟩
  obtain ⟨g8, hg8⟩ : ∃ g, g = gb + 1 := ⟨_, rfl⟩
  rw [← hgx] at XG3 XB3 XE ⊢
  rw [← hgb] at XB3 XE ⊢
  rw [← hg8] at XE ⊢
  have hne1 : gb ≠ gx ∧ g8 ≠ gx ∧ gx ≠ p ∧ gb ≠ p ∧ g8 ≠ p ∧ w.heap.size ≤ gx ∧ w.heap.size ≤ gb ∧ w.heap.size ≤ g8 ∧ g8 ≠ gb := by omega
  obtain ⟨n1x, n8x, nxp, nbp, n8p, hwx, hwb, hw8, n8b⟩ := hne1
  have HGX := Lib.hid hgx
  clear hgx hgb hg8
  have hal8 : ∀ W : World, W.alloc (.cells #[.int .i64 0, .int .i64 0, .int .i64 0, .int .i64 0, .int .i64 0, .int .i64 0, .int .i64 0, .int .i64 0, .int .i64 0, .int .i64 0, .int .i64 0, .int .i64 0, .int .i64 0, .int .i64 0, .int .i64 0, .int .i64 0, .int .i64 0, .int .i64 0, .int .i64 0, .int .i64 0, .int .i64 0, .int .i64 0, .int .i64 0, .int .i64 0, .int .i64 0, .int .i64 0, .int .i64 0, .int .i64 0, .int .i64 0, .int .i64 0, .int .i64 0, .int .i64 0, .int .i64 0, .int .i64 0, .int .i64 0, .int .i64 0, .int .i64 0, .int .i64 0, .int .i64 0, .int .i64 0, .int .i64 0, .int .i64 0, .int .i64 0, .int .i64 0, .int .i64 0, .int .i64 0, .int .i64 0, .int .i64 0, .int .i64 0, .int .i64 0, .int .i64 0, .int .i64 0, .int .i64 0, .int .i64 0, .int .i64 0, .int .i64 0, .int .i64 0, .int .i64 0, .int .i64 0, .int .i64 0, .int .i64 0, .int .i64 0, .int .i64 0, .int .i64 0] 70) = W.alloc (.cells (iv z64).toArray 70) := fun _ => rfl
  rw [hal8]
  clear hal8
  generalize ((w.alloc (.cells (iv x).toArray 70)).alloc (.cells #[.int .i64 (F : Nat), .int .i64 (T : Nat), .int .i64 h, .int .i64 (Kl : Nat)] 33)).alloc (.cells (iv z64).toArray 70) = w3 at *
  have hs3 := hb123.size
  go_wp2_with fail
  refine (order_ref w3).mono ?_; rintro e w5 ⟨rfl, hb5⟩
  have XG5 := XG3.below hb5
  have XB5 := XB3.below hb5
  have XE5 := XE.below hb5
  have hb5' := hb123.trans (hb5.mono hs3)
  have hs5 := hb5'.size
  have hzl : (iv zzL).length = 64 := by rw [iv_len]; rfl
  have hzat : ∀ q, q < 64 → (iv zzL)[q]? = some (.int .i64 ((zzN q : Nat) : Int)) := fun q hq => by
    rw [ivs_get (by show q < 64; exact hq), (zzN_bd q hq).2.1]
  obtain ⟨ZL, hZL⟩ : ∃ z, z = zzL := ⟨_, rfl⟩
  rw [← hZL] at hzl hzat ⊢
  have hsz : (iv ZL).toArray.size = 64 := hzl
  obtain ⟨XD, hbd⟩ := Bln.copy w5 39 (iv z64) (iv ZL) (by rw [hzl, iv_len]; rfl)
  have hth : (w5.alloc (.cells (iv z64).toArray 39)).there w5.heap.size 0 (iv ZL).toArray.size := by
    rw [hsz]
    exact (Bln.new w5 39 (iv z64)).there 64 (by rw [iv_len]; decide)
  have hone := one_iv ZL
  have HSZ := Lib.hid hsz
  have HZA := Lib.hid hzat
  have h8l := XE5.lt
  have hxl5 := XG5.lt
  have hbl5 := XB5.lt
  clear hZL hsz hzl hzat hb5 hb123 XG3 XB3 XE hs3
  go_upto_region 2 with (refine wpList_store_mid rfl 39 (.tmp 9) (.tmp 14) rfl _ _ (iv ZL).toArray rfl rfl hth (by rw [HSZ.out]; exact Try.info_block) (all_oneCell_toArray hone) ?_)
  have XG1 := XG5.below hbd
  have XB1 := XB5.below hbd
  have XE1 := XE5.below hbd
  have hb1 := hb5'.trans (hbd.mono hs5)
  have hs1 := hb1.size
  have HXD : Bln ((w5.alloc (.cells (iv z64).toArray 39)).setCells w5.heap.size 0 (iv ZL)) w5.heap.size 39 (iv ZL) := XD
  generalize (w5.alloc (.cells (iv z64).toArray 39)).setCells w5.heap.size 0 (iv ZL) = w1 at *
  have hwo : w.heap.size ≤ w5.heap.size := hs5
  have nox : w5.heap.size ≠ gx := by omega
  have nob : w5.heap.size ≠ gb := by omega
  have no8 : w5.heap.size ≠ g8 := by omega
  have nop : w5.heap.size ≠ p := by omega
  generalize w5.heap.size = ob at *
  have hob1 := HXD.lt
  clear hth hbd hal hone XD XG5 XB5 XE5 hb5' hs5 h8l hxl5 hbl5
  have X1 := X.keep (S := fun _ => False) (Fr.of_below hb1) (fun f => f) (fun _ _ f => f)
  have XG := XG1
  have X2 := X1
  have hf1 : Fr (fun b => b = p ∨ b = gx) w1 w1 := Fr.refl _ _
  have hfe : Fr (fun b => b = p) w w1 := Fr.of_below hb1
  have hAw : ∀ r, A = some r → r.block ≠ gx := fun r hr e => by have := hAK r hr; omega
  have hSi : Cs w1 K A1 S Z := hS.keep (hfe.below (fun k hk e => by omega) (by omega))
  have hNS : gb ≠ p ∧ gb ≠ gx ∧ g8 ≠ p ∧ g8 ≠ gx ∧ ob ≠ p ∧ ob ≠ gx := ⟨nbp, n1x, n8p, n8x, fun e => nop e, fun e => nox e⟩
  have HNS := Lib.hid hNS
  have H0 := Lib.hid (show JgR S Z p gx (.slice A1 n1 c1) A c L left F N (Kl : Nat) RG w1 (.int .i64 (F : Nat)) w1 from ⟨F, 0, a, en0, x, Nat.zero_le _, rfl, rfl, HX64.out, XG, X2, Fr.refl _ _, HBX.out, fun q => by rw [← HRG.out, if_neg (by omega)], fun q => by rw [← HRG.out, if_pos q]⟩)
  have hbl := XB1.lt
  have y0 := XB1.cell (i := 0) (u := .int .i64 (F : Nat)) rfl
  have NXP := Lib.hid nxp
  clear X X1 hb1 XG XG1 X2 hNS n1x n8x nxp nbp n8p n8b nox nob no8 nop
  go_upto_block 0 with fail
  clear y0
  go_cut [10] from 11 to 127 (fun kv wx => JgE p gx (.slice A1 n1 c1) A c L F N RG w1 kv wx)
  case first =>
    go_wp2_with fail
    go_loopw [10] (JgR S Z p gx (.slice A1 n1 c1) A c L left F N (Kl : Nat) RG w1) (fun kv wr => 2 * (F + N - (intOf kv).toNat))
    case atStart => exact H0.out
    case round =>
      clear H0
      obtain ⟨q, k, a2, en, x2, hk, hqk, rfl, hx2, XG2, I2, hf2, hbd, hrd0, hrd1⟩ := hrel
      obtain ⟨wj, rfl⟩ : ∃ wj : World, wj = wr := ⟨_, rfl⟩
      have XB2 := XB1.keep hf2 (fun e => e.elim HNS.out.1 HNS.out.2.1)
      have y1 := XB2.cell (i := 1) (u := .int .i64 (T : Nat)) rfl
      have c3 := I2.c3
      have c4 := I2.c4
      have HX2 := Lib.hid hx2
      have HQK := Lib.hid hqk
      have hq1 : q ≤ F + k := by omega
      have hq2 : F + k ≤ q := by omega
      have HBD := Lib.hid hbd
      clear hx2 hqk hbd
      by_cases hlt : q ≤ T
      · have dl : decide (q ≤ T) = true := decide_eq_true hlt
        have hkN : k < N := by omega
        by_cases hen : en = 0
        · subst hen
          have hrd := hrd0 rfl
          have HRD := Lib.hid hrd
          clear hrd hrd0 hrd1
          obtain ⟨⟨sv, m, er⟩, hF⟩ : ∃ r, rdF S Z (L.drop a2) = r := ⟨_, rfl⟩
          have hsb := rdF_255 (Z := Z) hSy (L.drop a2)
          rw [hF] at hsb
          dsimp only at hsb
          obtain ⟨s, rfl⟩ := Int.eq_ofNat_of_zero_le hsb.1
          have HF := Lib.hid hF
          have hs255 : s ≤ 255 := by omega
          have hSj : Cs wj K A1 S Z := hSi.keep (hf2.below (fun k hk e => by rcases e with e | e <;> omega) (by omega))
          have hsj := hf2.size
          have hisy := isym_any I2 hB hSj hz hn hm hF
          have HIS := Lib.hid hisy
          clear hisy hF hSj hsb
          by_cases he : er = 0
          · subst he
            go_wp2_with fail
            refine HIS.out.mono ?_; rintro e' w4 ⟨rfl, I4, hf4⟩
            rw [if_pos (by trivial)]
            clear c3 c4 I2
            have hf24 := hf2.trans (hf4.mono (fun b hb => .inl hb))
            have XG4 := XG2.keep hf4 (fun e => NXP.out e)
            have XB4 := XB2.keep hf4 (fun e => HNS.out.1 e)
            have y1 := XB4.cell (i := 1) (u := .int .i64 (T : Nat)) rfl
            have y3 := XB4.cell (i := 3) (u := .int .i64 (Kl : Nat)) rfl
            have ds0 : decide ((s : Int) < 0) = false := decide_eq_false (by omega)
            clear hf2 hf4 XG2 XB2
            by_cases hend : s % 16 = 0 ∧ s ≠ 240
            · obtain ⟨RE, hRE⟩ : ∃ r, r = rdE L left (a2 + m) (s / 16) x2 := ⟨_, rfl⟩
              have hR2 : RG = (RE.1, k, RE.2) := by rw [hRE, ← HRD.out, rdG_end hkN HF.out hend]
              have hie := iend_any I4 hB s (by omega) hend (by omega) left hl x2
              rw [← hRE] at hie
              have HIE := Lib.hid hie
              have HR2 := Lib.hid hR2
              have HRE := Lib.hid hRE
              clear hie hR2 y1 y3 hRE
              go_wp2_with (go_at_call 149; refine HIE.out.mono ?_; rintro e' w5 ⟨rfl, a5, en5, I5, hR5, hf5⟩)
              go_meet
              refine ⟨q, k, a5, RE.2.2.2, en5, x2, HQK.out, by omega, rfl, HX2.out, XG4.keep hf5 (fun e => NXP.out e), I5, hf24.trans (hf5.mono (fun b hb => .inl hb)), ?_⟩
              by_cases h9 : RE.2.2.2 = 0
              · obtain ⟨h10, h11⟩ := hR5 h9
                have h12 := HRE.out
                unfold rdE at h12
                split at h12
                · rw [h12] at h9; exact absurd h9 (by decide)
                · split at h12
                  · rw [h12] at h9; exact absurd h9 (by decide)
                  · refine .inl ⟨h9, hk, by rw [h11]; omega, ?_, HBD.out⟩
                    rw [HR2.out, h11, h10, Int.toNat_natCast]
                    rw [h12]
              · exact .inr ⟨h9, by rw [HR2.out]⟩
            · have hno : ((s : Nat) : Int).tmod 16 ≠ 0 ∨ ((s : Nat) : Int) = 240 := by rw [Int.tmod_eq_emod_of_nonneg (by omega)]; omega
              have HNO := Lib.hid hno
              have e1 : ((s : Nat) : Int).tmod 16 = ((s % 16 : Nat) : Int) := by rw [Int.tmod_eq_emod_of_nonneg (by omega)]; omega
              have e2 : ((s : Nat) : Int).tdiv 16 = ((s / 16 : Nat) : Int) := by rw [Int.tdiv_eq_ediv_of_nonneg (by omega)]; omega
              have HEND := Lib.hid hend
              clear hno hend
              obtain ⟨sz, hsz⟩ : ∃ z, z = s % 16 := ⟨_, rfl⟩
              obtain ⟨nz, hnz⟩ : ∃ z, z = s / 16 := ⟨_, rfl⟩
              rw [← hsz] at e1
              rw [← hnz] at e2
              have HSZ := Lib.hid hsz
              have HNZ := Lib.hid hnz
              have hszb : sz ≤ 15 := by omega
              have hnzb : nz ≤ 15 := by omega
              by_cases h10 : 1 < sz
              · have d10 : decide ((1 : Int) < (sz : Int)) = true := decide_eq_true (by omega)
                have hR2 : RG = ([], 0, 0, 0, 2) := by rw [← HRD.out, rdG_mal hkN HF.out HEND.out (by omega)]
                have HR2 := Lib.hid hR2
                clear hR2 h10 hsz hnz y1 y3
                go_wp2_with (first | (go_at_call 149; refine (iend_no _ _ HNO.out _ _).mono ?_; rintro e' w5 ⟨rfl, rfl⟩) | (go_at_call 133; refine (ifail_any I4).mono ?_; rintro e' w5 ⟨rfl, I5, hf5⟩))
                go_meet
                exact ⟨q, k, a2 + m, 2, 0, x2, HQK.out, by omega, rfl, HX2.out, XG4.keep hf5 (fun e => NXP.out e), I5, hf24.trans (hf5.mono (fun b hb => .inl hb)), .inr ⟨by decide, by rw [HR2.out]⟩⟩
              · have d10 : decide ((1 : Int) < (sz : Int)) = false := decide_eq_false (by omega)
                have H10 := Lib.hid h10
                have hsz1 : sz ≤ 1 := by omega
                clear hsz hnz h10
                go_upto_if 52 with (go_at_call 149; refine (iend_no _ _ HNO.out _ _).mono ?_; rintro e' w5 ⟨rfl, rfl⟩)
                have hpK := two_int Kl (by omega)
                go_cut [12] from 53 to 60 (fun vv wx => ∃ (v b1 : Int) (a1 : Nat), vv = .int .i64 v ∧ Hid (b1 = 0 ∧ ¬ L.length < a2 + m + sz ∧ a1 = a2 + m + sz ∧ v = (if sz = 1 then (2 * L.getD (a2 + m) 0 - 1) * 2 ^ Kl else 0) ∨ b1 = 8 ∧ L.length < a2 + m + sz) ∧ Bln wx gx 70 (iv x2) ∧ Inn wx p (.slice A1 n1 c1) A c L a1 b1 0 ∧ Fr (fun b => b = p ∨ b = gx) w1 wx)
                case first =>
                  by_cases hs1 : sz = 1
                  · subst hs1
                    have hpw := fun W : World => power22_any Kl (by omega) W
                    have HPW := Lib.hid hpw
                    have hwn : wrap64 (-((2 : Int) ^ Kl)) = -(2 ^ Kl) := by unfold wrap64; omega
                    have hwn2 : IntKind.i64.wrap (-((2 : Int) ^ Kl)) = -(2 ^ Kl) := IntWalk.i64_in _ (by omega)
                    clear hpw
                    by_cases hf : L.length < a2 + m + 1
                    · have htk := itake_few I4 1 (by omega) hf
                      have HTK := Lib.hid htk
                      have HFE := Lib.hid hf
                      clear htk hf
                      go_wp2_with (first | (go_at_call 122; refine (HPW.out _).mono ?_; rintro e w' ⟨rfl, rfl⟩) | (go_at_call 131; refine HTK.out.mono ?_; rintro e' w5 ⟨rfl, I5, hf5⟩))
                      go_meet
                      exact ⟨_, 8, a2 + m, rfl, Lib.hid (.inr ⟨rfl, HFE.out⟩), XG4.keep hf5 (fun e => NXP.out e), I5, hf24.trans (hf5.mono (fun b hb => .inl hb))⟩
                    · have hlt2 : a2 + m < L.length := by omega
                      have htk := itake_ok I4 hB 1 (by omega) (by omega)
                      have hbit : hv ((L.drop (a2 + m)).take 1) = L.getD (a2 + m) 0 ∧ (L.getD (a2 + m) 0 = 0 ∨ L.getD (a2 + m) 0 = 1) := by
                        rw [List.drop_eq_getElem_cons hlt2, List.take_succ_cons, List.take_zero, List.getD_eq_getElem?_getD, List.getElem?_eq_getElem hlt2]
                        have h01 := hB _ (List.getElem_mem hlt2)
                        simp [hv]
                        exact h01
                      rw [hbit.1] at htk
                      have hb01 := hbit.2
                      have HTK := Lib.hid htk
                      have HFE := Lib.hid hf
                      clear htk hf hbit
                      generalize hbtq : L.getD (a2 + m) 0 = bt at *
                      have HBT := Lib.hid hbtq
                      clear hbtq
                      rcases hb01 with rfl | rfl
                      · go_wp2_with (first | (go_at_call 122; refine (HPW.out _).mono ?_; rintro e w' ⟨rfl, rfl⟩) | (go_at_call 131; refine HTK.out.mono ?_; rintro e' w5 ⟨rfl, I5, hf5⟩))
                        go_meet
                        exact ⟨_, 0, a2 + m + 1, rfl, Lib.hid (.inl ⟨rfl, HFE.out, rfl, by rw [if_pos (by trivial)]; omega⟩), XG4.keep hf5 (fun e => NXP.out e), I5, hf24.trans (hf5.mono (fun b hb => .inl hb))⟩
                      · go_wp2_with (first | (go_at_call 122; refine (HPW.out _).mono ?_; rintro e w' ⟨rfl, rfl⟩) | (go_at_call 131; refine HTK.out.mono ?_; rintro e' w5 ⟨rfl, I5, hf5⟩))
                        go_meet
                        exact ⟨_, 0, a2 + m + 1, rfl, Lib.hid (.inl ⟨rfl, HFE.out, rfl, by rw [if_pos (by trivial)]; omega⟩), XG4.keep hf5 (fun e => NXP.out e), I5, hf24.trans (hf5.mono (fun b hb => .inl hb))⟩
                  · have d1 : ((sz : Int) == 1) = false := by simp; omega
                    have hsz0 : sz = 0 := by omega
                    have hle4 := I4.le
                    subst hsz0
                    clear y1 y3
                    go_wp2_with fail
                    go_meet
                    exact ⟨0, 0, a2 + m, rfl, Lib.hid (.inl ⟨rfl, by omega, rfl, by rw [if_neg (by omega)]⟩), XG4, I4, hf24⟩
                case rest =>
                  obtain ⟨v, b1, a1, rfl, hvq, XG5, I5, f5⟩ := hcut
                  obtain ⟨w5, rfl⟩ : ∃ w5 : World, w5 = wc := ⟨_, rfl⟩
                  clear XG4 XB4 I4 hf24 y1 y3
                  obtain ⟨q0, hq0⟩ : ∃ z, z = (if s = 240 then 16 else nz) := ⟨_, rfl⟩
                  have HQ0 := Lib.hid hq0
                  clear hq0
                  go_upto_if 64 with fail
                  go_cut [13] from 64 to 64 (fun nv wx => nv = .int .i64 (q0 : Nat) ∧ w5 = wx)
                  case first =>
                    by_cases h240 : s = 240
                    · have d240 : ((s : Int) == 240) = true := by simp; omega
                      have hq16 : q0 = 16 := by rw [HQ0.out, if_pos h240]
                      clear h240
                      subst hq16
                      go_wp2_with fail
                      go_meet
                      exact ⟨rfl, by trivial⟩
                    · have d240 : ((s : Int) == 240) = false := by simp; omega
                      have hq16 : q0 = nz := by rw [HQ0.out, if_neg h240]
                      clear h240
                      subst hq16
                      go_wp2_with fail
                      go_meet
                      exact ⟨rfl, by trivial⟩
                  case rest =>
                    obtain ⟨rfl, rfl⟩ := hcut
                    obtain ⟨P, hP⟩ : ∃ P, rdP L F N (Kl : Nat) k (a2 + m + sz) nz x2 = P := ⟨_, rfl⟩
                    have hge := rdP_ge L F N (Kl : Nat) k (a2 + m + sz) nz x2
                    have haf := rdP_after L F N (Kl : Nat) (by omega) (N - k) k (a2 + m + sz) nz x2 (Nat.le_refl _)
                    rw [hP] at hge haf
                    have HAF := Lib.hid haf
                    have HGE := Lib.hid hge
                    have hno1 : ¬ 1 < s % 16 := by rw [← HSZ.out]; exact H10.out
                    have hPs : rdP L F N (Kl : Nat) k (a2 + m + s % 16) (s / 16) x2 = P := by rw [← HSZ.out, ← HNZ.out]; exact hP
                    have hfw : L.length < a2 + m + sz → RG.2.2.2.2 = 8 := fun q9 => by
                      rw [← HRD.out, rdG_few hkN HF.out HEND.out hno1 (by rw [← HSZ.out]; exact q9)]
                    have hP8 : P.2.2.2 = 8 → RG.2.2.2.2 = 8 := fun q9 => by
                      by_cases hw : L.length < a2 + m + sz
                      · exact hfw hw
                      · obtain ⟨P1, P2, P3, P4⟩ := P
                        rw [← HRD.out, rdG_few2 hkN HF.out HEND.out hno1 (by rw [← HSZ.out]; exact hw) hPs (by dsimp only at q9; omega)]
                    have HP8 := Lib.hid hP8
                    have HPS := Lib.hid hPs
                    have HNO1 := Lib.hid hno1
                    have hz24 : (decide (s = 240) = true → 1 ≤ q0) ∧ q0 ≤ 100 := by
                      rw [HQ0.out]; split
                      · exact ⟨fun _ => by omega, by omega⟩
                      · exact ⟨fun h9 => absurd (of_decide_eq_true h9) (by assumption), by omega⟩
                    have h0P := Lib.hid (show JpR p gx (.slice A1 n1 c1) A c L F N (Kl : Nat) P (decide (s = 240)) (¬ L.length < a2 + m + sz) (RG.2.2.2.2 = 8) w5 (.int .i64 (q : Nat)) (.int .i64 (q0 : Nat)) w5 from
                      ⟨q, k, a1, q0, b1, x2, hk, HQK.out, rfl, rfl, hz24.2, HX2.out, XG5, I5, Fr.refl _ _, (by
                        rcases hvq.out with ⟨h1, h2, h3, _⟩ | ⟨h1, h2⟩
                        · refine .inl ⟨h1, hz24.1, ?_, HBD.out, h2⟩
                          rw [h3, ← hP, HQ0.out]
                          by_cases h240 : s = 240
                          · have h15 : nz = 15 := by rw [HNZ.out, h240]
                            rw [if_pos h240, if_pos (decide_eq_true h240), h15]
                          · rw [if_neg h240, if_neg (by simpa using h240)]
                        · exact .inr ⟨h1, hfw h2⟩)⟩)
                    obtain ⟨z24, hz24q⟩ : ∃ b, b = decide (s = 240) := ⟨_, rfl⟩
                    rw [← hz24q] at h0P
                    have HZ24 := Lib.hid hz24q
                    have d240 : ((s : Int) == 240) = z24 := by
                      rw [hz24q]
                      by_cases h : s = 240
                      · rw [decide_eq_true h]; simp; omega
                      · rw [decide_eq_false h]; simp; omega
                    have HVQ := hvq
                    clear hge haf hno1 hPs hfw hP8 hz24 hz24q hvq XG5 I5 hP
                    go_upto_block 2 with fail
                    go_cut [10, 13] from 65 to 107 (fun kv _ wx => JpE p gx (.slice A1 n1 c1) A c L F N P z24 (¬ L.length < a2 + m + sz) (RG.2.2.2.2 = 8) w5 kv wx)
                    case first =>
                      go_wp2_with fail
                      go_loopw [10, 13] (JpR p gx (.slice A1 n1 c1) A c L F N (Kl : Nat) P z24 (¬ L.length < a2 + m + sz) (RG.2.2.2.2 = 8) w5) (fun kv _ _ => F + N - (intOf kv).toNat)
                      case atStart => exact h0P.out
                      case round =>
                        clear h0P
                        obtain ⟨qi, ki, ai, zi, bad, xi, hki, hqki, rfl, rfl, hzi, hxi, XGi, Ii, fi, hcase⟩ := hrel
                        obtain ⟨w6, rfl⟩ : ∃ w6 : World, w6 = wr := ⟨_, rfl⟩
                        have f56 := f5.trans fi
                        have XBi := XB1.keep f56 (fun e => e.elim HNS.out.1 HNS.out.2.1)
                        have y1 := XBi.cell (i := 1) (u := .int .i64 (T : Nat)) rfl
                        have c3 := Ii.c3
                        have HXI := Lib.hid hxi
                        have HQKI := Lib.hid hqki
                        have hqi1 : qi ≤ F + ki := by omega
                        have hqi2 : F + ki ≤ qi := by omega
                        clear hxi hqki
                        by_cases hlt6 : qi ≤ T
                        · have dl6 : decide (qi ≤ T) = true := decide_eq_true hlt6
                          have hkiN : ki < N := by omega
                          rcases hcase with ⟨rfl, hz1, hrp, hbdi, he0⟩ | ⟨rfl, he8⟩
                          · have hzb := (zzN_bd qi (by omega)).1
                            have hbv := hbdi ki (Nat.le_refl _) hkiN
                            have cz := (HXD.keep f56 (fun e => e.elim HNS.out.2.2.2.2.1 HNS.out.2.2.2.2.2)).cell (HZA.out qi (by omega))
                            rw [show F + ki = qi by omega] at hbv
                            have hon := @rdP_on L F N ki ai (if z24 = true then zi - 1 else zi) (Kl : Int) xi hkiN
                            have hfew := @rdP_few L F N ki ai (if z24 = true then zi - 1 else zi) (Kl : Int) xi hkiN
                            have hstop := @rdP_stop L F N ki ai (if z24 = true then zi - 1 else zi) (Kl : Int) xi hkiN
                            have hzero := @rdP_zero L F N ki ai (if z24 = true then zi - 1 else zi) (Kl : Int) xi hkiN
                            have hset := fun u => hbdi.set (by omega) hkiN u
                            rw [hrp] at hon hfew hstop hzero
                            rw [show F + ki = qi by omega] at hon hfew hstop hzero hset
                            obtain ⟨zz, hzz⟩ : ∃ r, r = zzN qi := ⟨_, rfl⟩
                            rw [← hzz] at hzb cz hbv hon hfew hstop hzero hset
                            have cg := XGi.cell (i := zz) (u := .int .i64 (xi.getD zz 0)) (ivs_get (by rw [HXI.out]; exact hzb))
                            have fg := XGi.fz (i := zz) (by rw [iv_len, HXI.out]; exact hzb)
                            have HON := Lib.hid hon
                            have HFEW := Lib.hid hfew
                            have HSTOP := Lib.hid hstop
                            have HZERO := Lib.hid hzero
                            have HSET := Lib.hid hset
                            have HBDI := Lib.hid hbdi
                            have HZZ := Lib.hid hzz
                            have HZ1 := Lib.hid hz1
                            have HE0 := Lib.hid he0
                            have hqi0 : (0 : Int) ≤ (qi : Int) := by omega
                            have hqi64 : (qi : Int) < 64 := by omega
                            have hz0 : (0 : Int) ≤ (zz : Int) := by omega
                            have hz64 : (zz : Int) < 64 := by omega
                            obtain ⟨vx, hvx⟩ : ∃ r, r = xi.getD zz 0 := ⟨_, rfl⟩
                            rw [← hvx] at cg hbv
                            have HVX := Lib.hid hvx
                            clear hon hfew hstop hzero hset hbdi hzz hz1 he0 hrp
                            by_cases h0 : vx = 0
                            · have d0 : (vx != 0) = false := by simp; exact h0
                              have h00 : xi.getD zz 0 = 0 := by rw [← hvx]; exact h0
                              have H00 := Lib.hid h00
                              clear hvx h0 h00
                              by_cases hzi0 : zi = 0
                              · have dz : ((zi : Int) == 0) = true := by simp; exact hzi0
                                have hzf : z24 = false := by
                                  rcases hb : z24 with _ | _
                                  · rfl
                                  · have := HZ1.out hb; omega
                                have hje : JpE p gx (.slice A1 n1 c1) A c L F N P z24 (¬ L.length < a2 + m + sz) (RG.2.2.2.2 = 8) w5 (.int .i64 (qi : Nat)) w6 := ⟨qi, ki, ki, ai, 0, xi, HQKI.out, hki, rfl, HXI.out, XGi, Ii, fi, .inl ⟨rfl, HSTOP.out H00.out (by rw [hzf]; exact hzi0), hki, by rw [hzf]; rfl, fun _ => by rw [show F + ki = qi by omega, ← HZZ.out]; exact H00.out, HE0.out⟩⟩
                                have HJE := Lib.hid hje
                                clear hje hzi0
                                go_wp2_with fail
                                go_meet
                                exact HJE.out
                              · have dz : ((zi : Int) == 0) = false := by simp; exact hzi0
                                have hz1n : 1 ≤ zi := by omega
                                by_cases hlast : zi = 1 ∧ z24 = true
                                · obtain ⟨rfl, rfl⟩ := hlast
                                  have hje : JpE p gx (.slice A1 n1 c1) A c L F N P true (¬ L.length < a2 + m + sz) (RG.2.2.2.2 = 8) w5 (.int .i64 ((qi + 1 : Nat) : Nat)) w6 := ⟨qi + 1, ki + 1, ki, ai, 0, xi, by omega, by omega, rfl, HXI.out, XGi, Ii, fi, .inl ⟨rfl, HSTOP.out H00.out rfl, hki, by rw [if_pos ⟨rfl, hkiN⟩], fun _ => by rw [show F + ki = qi by omega, ← HZZ.out]; exact H00.out, HE0.out⟩⟩
                                  have HJE := Lib.hid hje
                                  clear hje
                                  go_wp2_with fail
                                  go_meet
                                  have h := HJE.out
                                  rw [show (((qi + 1 : Nat) : Nat) : Int) = (qi : Int) + 1 by omega] at h
                                  exact h
                                · have hnx := HZERO.out H00.out (by
                                    rcases hb : z24 with _ | _
                                    · exact hzi0
                                    · intro h9
                                      exact hlast ⟨by simp at h9; omega, hb⟩)
                                  have hnz : (if z24 = true then zi - 1 else zi) - 1 = (if z24 = true then zi - 1 - 1 else zi - 1) := by split <;> rfl
                                  rw [hnz] at hnx
                                  have dlast : ((zi : Int) - 1 == 0) = false ∨ ((zi : Int) - 1 == 0) = true ∧ z24 = false := by
                                    by_cases h : zi = 1
                                    · refine .inr ⟨by simp; omega, ?_⟩
                                      rcases hb : z24 with _ | _
                                      · rfl
                                      · exact absurd ⟨h, hb⟩ hlast
                                    · exact .inl (by simp; omega)
                                  have hz1' : z24 = true → 1 ≤ zi - 1 := fun h => by
                                    have := HZ1.out h
                                    by_cases h1 : zi = 1
                                    · exact absurd ⟨h1, h⟩ hlast
                                    · omega
                                  have HNX := Lib.hid (show JpR p gx (.slice A1 n1 c1) A c L F N (Kl : Nat) P z24 (¬ L.length < a2 + m + sz) (RG.2.2.2.2 = 8) w5 (.int .i64 ((qi : Int) + 1)) (.int .i64 ((zi : Int) - 1)) w6 from
                                    ⟨qi + 1, ki + 1, ai, zi - 1, 0, xi, by omega, by omega, by go_num, by go_num, by omega, HXI.out, XGi, Ii, fi, .inl ⟨rfl, hz1', hnx.symm, fun j h1 h2 => HBDI.out j (by omega) h2, HE0.out⟩⟩)
                                  clear hnx hnz hz1' hlast hzi0 XGi Ii fi f56 XBi
                                  rcases dlast with dl1 | ⟨dl1, rfl⟩
                                  · go_wp2_with fail
                                    go_roundw
                                    case rel => exact HNX.out
                                    case measure => simp [intOf]; omega
                                  · go_wp2_with fail
                                    go_roundw
                                    case rel => exact HNX.out
                                    case measure => simp [intOf]; omega
                            · have d0 : (vx != 0) = true := by simp; exact h0
                              have hnz0 : xi.getD zz 0 ≠ 0 := by rw [← hvx]; exact h0
                              have HNZ0 := Lib.hid hnz0
                              have Iid : Inn w6.drew p (.slice A1 n1 c1) A c L ai 0 0 := Ii.drewN 1
                              have hbe := ibetter_any Iid hB vx hbv (F : Int) (T : Int) h Kl (by omega)
                              have HBE := Lib.hid hbe
                              have yb0 := XBi.cell (i := 0) (u := .int .i64 (F : Nat)) rfl
                              have yb2 := XBi.cell (i := 2) (u := .int .i64 h) rfl
                              have yb3 := XBi.cell (i := 3) (u := .int .i64 (Kl : Nat)) rfl
                              have HI6 := Lib.hid (And.intro XGi (And.intro Ii fi))
                              clear hbe hnz0 hvx h0 Iid Ii XGi fi XBi
                              by_cases hfw : L.length ≤ ai
                              · have hp8 := HP8.out (by rw [HFEW.out HNZ0.out hfw])
                                have HP8b := Lib.hid hp8
                                have HFWb := Lib.hid hfw
                                clear hp8 hfw
                                go_upto_region 18 with fail
                                refine wp_region_held_drew (S := (fun W : World => W.cell? ⟨ob, qi, none⟩ = some (.int .i64 (zz : Nat)) ∧ W.cell? ⟨gb, 0, none⟩ = some (.int .i64 (F : Nat)) ∧ W.cell? ⟨gb, 1, none⟩ = some (.int .i64 (T : Nat)) ∧ W.cell? ⟨gb, 2, none⟩ = some (.int .i64 h) ∧ W.cell? ⟨gb, 3, none⟩ = some (.int .i64 (Kl : Nat)))) (by kernel_rfl) ⟨cz, yb0, y1, yb2, yb3⟩ (fun hHeld => ?_)
                                refine wpAnyH_take (i := 0) (oi := { dst := some 82, op := Op.move (Operand.tmp 10), type := 3, pos := _, after := _, guard := none }) (v := Value.int .i64 (qi : Nat)) rfl (by kernel_rfl) (by kernel_rfl) (by kernel_rfl) (fun _ _ _ h => h) (Or.inl ⟨by rfl, fun w hSw => by go_simp⟩) hHeld ?_
                                simp only [Act.put, List.setIfInBounds_toArray, List.set_cons_zero, List.set_cons_succ]
                                refine wpAnyH_take (i := 1) (oi := { dst := some 83, op := Op.indexAddr 39 (Operand.tmp 9) (Operand.tmp 82), type := 0, pos := _, after := _, guard := none }) (v := Value.pointer (some ⟨ob, qi, none⟩)) rfl (by kernel_rfl) (by kernel_rfl) (by kernel_rfl) (fun _ _ _ h => h) (Or.inl ⟨by rfl, fun w hSw => by go_simp⟩) hHeld ?_
                                simp only [Act.put, List.setIfInBounds_toArray, List.set_cons_zero, List.set_cons_succ]
                                refine wpAnyH_take (i := 2) (oi := { dst := some 84, op := Op.load 3 (Operand.tmp 83), type := 3, pos := _, after := _, guard := none }) (v := Value.int .i64 (zz : Nat)) rfl (by kernel_rfl) (by kernel_rfl) (by kernel_rfl) (fun _ _ _ h => h) (Or.inl ⟨by rfl, fun w hSw => by go_simp⟩) hHeld ?_
                                simp only [Act.put, List.setIfInBounds_toArray, List.set_cons_zero, List.set_cons_succ]
                                refine wpAnyH_take (i := 3) (oi := { dst := some 85, op := Op.move (Operand.tmp 0), type := 173, pos := _, after := _, guard := none }) (v := Value.pointer (some ⟨p, 0, none⟩)) rfl (by kernel_rfl) (by kernel_rfl) (by kernel_rfl) (fun _ _ _ h => h) (Or.inl ⟨by rfl, fun w hSw => by go_simp⟩) hHeld ?_
                                simp only [Act.put, List.setIfInBounds_toArray, List.set_cons_zero, List.set_cons_succ]
                                refine wpAnyH_take (i := 4) (oi := { dst := some 86, op := Op.move (Operand.tmp 10), type := 3, pos := _, after := _, guard := none }) (v := Value.int .i64 (qi : Nat)) rfl (by kernel_rfl) (by kernel_rfl) (by kernel_rfl) (fun _ _ _ h => h) (Or.inl ⟨by rfl, fun w hSw => by go_simp⟩) hHeld ?_
                                simp only [Act.put, List.setIfInBounds_toArray, List.set_cons_zero, List.set_cons_succ]
                                refine wpAnyH_take (i := 5) (oi := { dst := some 87, op := Op.indexAddr 39 (Operand.tmp 9) (Operand.tmp 86), type := 0, pos := _, after := _, guard := none }) (v := Value.pointer (some ⟨ob, qi, none⟩)) rfl (by kernel_rfl) (by kernel_rfl) (by kernel_rfl) (fun _ _ _ h => h) (Or.inl ⟨by rfl, fun w hSw => by go_simp⟩) hHeld ?_
                                simp only [Act.put, List.setIfInBounds_toArray, List.set_cons_zero, List.set_cons_succ]
                                refine wpAnyH_take (i := 6) (oi := { dst := some 88, op := Op.load 3 (Operand.tmp 87), type := 3, pos := _, after := _, guard := none }) (v := Value.int .i64 (zz : Nat)) rfl (by kernel_rfl) (by kernel_rfl) (by kernel_rfl) (fun _ _ _ h => h) (Or.inl ⟨by rfl, fun w hSw => by go_simp⟩) hHeld ?_
                                simp only [Act.put, List.setIfInBounds_toArray, List.set_cons_zero, List.set_cons_succ]
                                refine wpAnyH_take (i := 7) (oi := { dst := some 89, op := Op.indexAddr 70 (Operand.tmp 5) (Operand.tmp 88), type := 0, pos := _, after := _, guard := none }) (v := Value.pointer (some ⟨gx, zz, none⟩)) rfl (by kernel_rfl) (by kernel_rfl) (by kernel_rfl) (fun _ _ _ h => h) (Or.inl ⟨by rfl, fun w hSw => by go_simp⟩) hHeld ?_
                                simp only [Act.put, List.setIfInBounds_toArray, List.set_cons_zero, List.set_cons_succ]
                                refine wpAnyH_take (i := 9) (oi := { dst := some 91, op := Op.load 33 (Operand.tmp 6), type := 33, pos := _, after := _, guard := none }) (v := Value.agg #[.int .i64 (F : Nat), .int .i64 (T : Nat), .int .i64 h, .int .i64 (Kl : Nat)]) rfl (by kernel_rfl) (by kernel_rfl) (by kernel_rfl) (fun _ _ _ h => h) (Or.inl ⟨by rfl, fun w hSw => by go_simp⟩) hHeld ?_
                                simp only [Act.put, List.setIfInBounds_toArray, List.set_cons_zero, List.set_cons_succ]
                                refine wpAnyH_ready (rs := [8]) (by kernel_rfl) (by simp) ?_
                                refine AllReadyH.cons (o := { dst := some 90, op := Op.load 3 (Operand.tmp 89), type := 3, pos := _, after := _, guard := none }) rfl (fun K' hK => ?_) AllReadyH.nil
                                rw [if_pos (by rfl)]
                                go_simp
                                refine hK.out _ _ hHeld (fun _ => ?_)
                                clear hK K'
                                refine wpAnyH_ready (rs := [10]) (by kernel_rfl) (by simp) ?_
                                refine AllReadyH.cons (o := { dst := some 92, op := Op.call { callee := Callee.value (Operand.func 150), args := #[Operand.tmp 85, Operand.tmp 90, Operand.tmp 91], argTypes := #[173, 3, 33] }, type := 3, pos := _, after := _, guard := none }) rfl (fun K' hK => ?_) AllReadyH.nil
                                rw [if_pos (by rfl)]
                                go_simp
                                refine HBE.out.mono ?_
                                rintro e7 w7 ⟨h71, _, hf7⟩
                                obtain ⟨yv, rfl, I7⟩ := h71 HFWb.out
                                have fg7 := (hf7.frozen (p := ⟨gx, zz, none⟩) HI6.out.1.lt (fun e => NXP.out e)).trans fg
                                have cg7 := (hf7.cell (p := ⟨gx, zz, none⟩) HI6.out.1.lt (fun e => NXP.out e)).trans cg
                                have hs7 := keep_5 hf7 (fun e => HNS.out.2.2.2.2.1 e) HNS.out.1 hHeld
                                refine hK.out _ _ hs7 (fun _ => ?_)
                                clear hK K'
                                refine wpAnyH_take (i := 11) (oi := { dst := some 93, op := Op.indexAddr 70 (Operand.tmp 5) (Operand.tmp 84), type := 0, pos := _, after := _, guard := none }) (v := Value.pointer (some ⟨gx, zz, none⟩)) rfl (by kernel_rfl) (by kernel_rfl) (by kernel_rfl) (fun _ _ _ h => h) (Or.inl ⟨by rfl, fun w hSw => by go_simp⟩) hs7 ?_
                                simp only [Act.put, List.setIfInBounds_toArray, List.set_cons_zero, List.set_cons_succ]
                                refine wpAnyH_ready (rs := [12]) (by kernel_rfl) (by simp) ?_
                                refine AllReadyH.cons (o := { dst := none, op := Op.store 3 (Operand.tmp 93) (Operand.tmp 92), type := 0, pos := _, after := _, guard := none }) rfl (fun K' hK => ?_) AllReadyH.nil
                                rw [if_pos (by rfl)]
                                go_simp
                                refine hK.out _ _ (set_5 _ (fun e => HNS.out.2.2.2.2.2 e) HNS.out.2.1 hs7) (fun _ => ?_)
                                clear hK K'
                                refine wpAnyH_done (by kernel_rfl) ?_ _
                                have XG7 := (HI6.out.1.keep ((Fr.refl _ w6).drew.trans hf7) (fun e => NXP.out e)).set zz (.int .i64 yv)
                                rw [iv_set] at XG7
                                have I8 := I7.keep (S := fun b => b = gx) (Fr.setCell (S := fun b => b = gx) (Fr.refl _ _) (p := ⟨gx, zz, none⟩) (.inl rfl) (.int .i64 yv)) (fun e => NXP.out e.symm) (fun r hr e => hAw r hr e)
                                have f8 := (HI6.out.2.2.trans (((Fr.refl (fun b => b = p) w6).drew.trans hf7).mono (S' := fun b => b = p ∨ b = gx) (fun b hb => .inl hb))).setCell (p := ⟨gx, zz, none⟩) (.inl (.inr rfl)) (.int .i64 yv)
                                have HNX := Lib.hid (show JpR p gx (.slice A1 n1 c1) A c L F N (Kl : Nat) P z24 (¬ L.length < a2 + m + sz) (RG.2.2.2.2 = 8) w5 (.int .i64 ((qi : Int) + 1)) (.int .i64 (zi : Nat)) (w7.setCell ⟨gx, zz, none⟩ (.int .i64 yv)) from
                                  ⟨qi + 1, ki + 1, ai, zi, 8, xi.set zz yv, by omega, by omega, by go_num, rfl, hzi, by rw [List.length_set]; exact HXI.out, XG7, I8, f8, .inr ⟨rfl, HP8b.out⟩⟩)
                                clear XG7 I8 f8 I7 hf7 fg7 cg7 cg fg cz c3 hs7 hHeld f56
                                go_wp2_with fail
                                go_roundw
                                case rel => exact HNX.out
                                case measure => simp [intOf]; omega
                              · have hp8 := HON.out HNZ0.out hfw
                                have HP8b := Lib.hid hp8
                                have HFWb := Lib.hid hfw
                                clear hp8 hfw
                                go_upto_region 18 with fail
                                refine wp_region_held_drew (S := (fun W : World => W.cell? ⟨ob, qi, none⟩ = some (.int .i64 (zz : Nat)) ∧ W.cell? ⟨gb, 0, none⟩ = some (.int .i64 (F : Nat)) ∧ W.cell? ⟨gb, 1, none⟩ = some (.int .i64 (T : Nat)) ∧ W.cell? ⟨gb, 2, none⟩ = some (.int .i64 h) ∧ W.cell? ⟨gb, 3, none⟩ = some (.int .i64 (Kl : Nat)))) (by kernel_rfl) ⟨cz, yb0, y1, yb2, yb3⟩ (fun hHeld => ?_)
                                refine wpAnyH_take (i := 0) (oi := { dst := some 82, op := Op.move (Operand.tmp 10), type := 3, pos := _, after := _, guard := none }) (v := Value.int .i64 (qi : Nat)) rfl (by kernel_rfl) (by kernel_rfl) (by kernel_rfl) (fun _ _ _ h => h) (Or.inl ⟨by rfl, fun w hSw => by go_simp⟩) hHeld ?_
                                simp only [Act.put, List.setIfInBounds_toArray, List.set_cons_zero, List.set_cons_succ]
                                refine wpAnyH_take (i := 1) (oi := { dst := some 83, op := Op.indexAddr 39 (Operand.tmp 9) (Operand.tmp 82), type := 0, pos := _, after := _, guard := none }) (v := Value.pointer (some ⟨ob, qi, none⟩)) rfl (by kernel_rfl) (by kernel_rfl) (by kernel_rfl) (fun _ _ _ h => h) (Or.inl ⟨by rfl, fun w hSw => by go_simp⟩) hHeld ?_
                                simp only [Act.put, List.setIfInBounds_toArray, List.set_cons_zero, List.set_cons_succ]
                                refine wpAnyH_take (i := 2) (oi := { dst := some 84, op := Op.load 3 (Operand.tmp 83), type := 3, pos := _, after := _, guard := none }) (v := Value.int .i64 (zz : Nat)) rfl (by kernel_rfl) (by kernel_rfl) (by kernel_rfl) (fun _ _ _ h => h) (Or.inl ⟨by rfl, fun w hSw => by go_simp⟩) hHeld ?_
                                simp only [Act.put, List.setIfInBounds_toArray, List.set_cons_zero, List.set_cons_succ]
                                refine wpAnyH_take (i := 3) (oi := { dst := some 85, op := Op.move (Operand.tmp 0), type := 173, pos := _, after := _, guard := none }) (v := Value.pointer (some ⟨p, 0, none⟩)) rfl (by kernel_rfl) (by kernel_rfl) (by kernel_rfl) (fun _ _ _ h => h) (Or.inl ⟨by rfl, fun w hSw => by go_simp⟩) hHeld ?_
                                simp only [Act.put, List.setIfInBounds_toArray, List.set_cons_zero, List.set_cons_succ]
                                refine wpAnyH_take (i := 4) (oi := { dst := some 86, op := Op.move (Operand.tmp 10), type := 3, pos := _, after := _, guard := none }) (v := Value.int .i64 (qi : Nat)) rfl (by kernel_rfl) (by kernel_rfl) (by kernel_rfl) (fun _ _ _ h => h) (Or.inl ⟨by rfl, fun w hSw => by go_simp⟩) hHeld ?_
                                simp only [Act.put, List.setIfInBounds_toArray, List.set_cons_zero, List.set_cons_succ]
                                refine wpAnyH_take (i := 5) (oi := { dst := some 87, op := Op.indexAddr 39 (Operand.tmp 9) (Operand.tmp 86), type := 0, pos := _, after := _, guard := none }) (v := Value.pointer (some ⟨ob, qi, none⟩)) rfl (by kernel_rfl) (by kernel_rfl) (by kernel_rfl) (fun _ _ _ h => h) (Or.inl ⟨by rfl, fun w hSw => by go_simp⟩) hHeld ?_
                                simp only [Act.put, List.setIfInBounds_toArray, List.set_cons_zero, List.set_cons_succ]
                                refine wpAnyH_take (i := 6) (oi := { dst := some 88, op := Op.load 3 (Operand.tmp 87), type := 3, pos := _, after := _, guard := none }) (v := Value.int .i64 (zz : Nat)) rfl (by kernel_rfl) (by kernel_rfl) (by kernel_rfl) (fun _ _ _ h => h) (Or.inl ⟨by rfl, fun w hSw => by go_simp⟩) hHeld ?_
                                simp only [Act.put, List.setIfInBounds_toArray, List.set_cons_zero, List.set_cons_succ]
                                refine wpAnyH_take (i := 7) (oi := { dst := some 89, op := Op.indexAddr 70 (Operand.tmp 5) (Operand.tmp 88), type := 0, pos := _, after := _, guard := none }) (v := Value.pointer (some ⟨gx, zz, none⟩)) rfl (by kernel_rfl) (by kernel_rfl) (by kernel_rfl) (fun _ _ _ h => h) (Or.inl ⟨by rfl, fun w hSw => by go_simp⟩) hHeld ?_
                                simp only [Act.put, List.setIfInBounds_toArray, List.set_cons_zero, List.set_cons_succ]
                                refine wpAnyH_take (i := 9) (oi := { dst := some 91, op := Op.load 33 (Operand.tmp 6), type := 33, pos := _, after := _, guard := none }) (v := Value.agg #[.int .i64 (F : Nat), .int .i64 (T : Nat), .int .i64 h, .int .i64 (Kl : Nat)]) rfl (by kernel_rfl) (by kernel_rfl) (by kernel_rfl) (fun _ _ _ h => h) (Or.inl ⟨by rfl, fun w hSw => by go_simp⟩) hHeld ?_
                                simp only [Act.put, List.setIfInBounds_toArray, List.set_cons_zero, List.set_cons_succ]
                                refine wpAnyH_ready (rs := [8]) (by kernel_rfl) (by simp) ?_
                                refine AllReadyH.cons (o := { dst := some 90, op := Op.load 3 (Operand.tmp 89), type := 3, pos := _, after := _, guard := none }) rfl (fun K' hK => ?_) AllReadyH.nil
                                rw [if_pos (by rfl)]
                                go_simp
                                refine hK.out _ _ hHeld (fun _ => ?_)
                                clear hK K'
                                refine wpAnyH_ready (rs := [10]) (by kernel_rfl) (by simp) ?_
                                refine AllReadyH.cons (o := { dst := some 92, op := Op.call { callee := Callee.value (Operand.func 150), args := #[Operand.tmp 85, Operand.tmp 90, Operand.tmp 91], argTypes := #[173, 3, 33] }, type := 3, pos := _, after := _, guard := none }) rfl (fun K' hK => ?_) AllReadyH.nil
                                rw [if_pos (by rfl)]
                                go_simp
                                refine HBE.out.mono ?_
                                rintro e7 w7 ⟨_, h71, hf7⟩
                                obtain ⟨rfl, I7⟩ := h71 HFWb.out
                                have fg7 := (hf7.frozen (p := ⟨gx, zz, none⟩) HI6.out.1.lt (fun e => NXP.out e)).trans fg
                                have cg7 := (hf7.cell (p := ⟨gx, zz, none⟩) HI6.out.1.lt (fun e => NXP.out e)).trans cg
                                have hs7 := keep_5 hf7 (fun e => HNS.out.2.2.2.2.1 e) HNS.out.1 hHeld
                                refine hK.out _ _ hs7 (fun _ => ?_)
                                clear hK K'
                                refine wpAnyH_take (i := 11) (oi := { dst := some 93, op := Op.indexAddr 70 (Operand.tmp 5) (Operand.tmp 84), type := 0, pos := _, after := _, guard := none }) (v := Value.pointer (some ⟨gx, zz, none⟩)) rfl (by kernel_rfl) (by kernel_rfl) (by kernel_rfl) (fun _ _ _ h => h) (Or.inl ⟨by rfl, fun w hSw => by go_simp⟩) hs7 ?_
                                simp only [Act.put, List.setIfInBounds_toArray, List.set_cons_zero, List.set_cons_succ]
                                refine wpAnyH_ready (rs := [12]) (by kernel_rfl) (by simp) ?_
                                refine AllReadyH.cons (o := { dst := none, op := Op.store 3 (Operand.tmp 93) (Operand.tmp 92), type := 0, pos := _, after := _, guard := none }) rfl (fun K' hK => ?_) AllReadyH.nil
                                rw [if_pos (by rfl)]
                                go_simp
                                refine hK.out _ _ (set_5 _ (fun e => HNS.out.2.2.2.2.2 e) HNS.out.2.1 hs7) (fun _ => ?_)
                                clear hK K'
                                refine wpAnyH_done (by kernel_rfl) ?_ _
                                have XG7 := (HI6.out.1.keep ((Fr.refl _ w6).drew.trans hf7) (fun e => NXP.out e)).set zz (.int .i64 (bet vx (L.getD ai 0) (Kl : Nat)))
                                rw [iv_set] at XG7
                                have I8 := I7.keep (S := fun b => b = gx) (Fr.setCell (S := fun b => b = gx) (Fr.refl _ _) (p := ⟨gx, zz, none⟩) (.inl rfl) (.int .i64 (bet vx (L.getD ai 0) (Kl : Nat)))) (fun e => NXP.out e.symm) (fun r hr e => hAw r hr e)
                                have f8 := (HI6.out.2.2.trans (((Fr.refl (fun b => b = p) w6).drew.trans hf7).mono (S' := fun b => b = p ∨ b = gx) (fun b hb => .inl hb))).setCell (p := ⟨gx, zz, none⟩) (.inl (.inr rfl)) (.int .i64 (bet vx (L.getD ai 0) (Kl : Nat)))
                                have HNX := Lib.hid (show JpR p gx (.slice A1 n1 c1) A c L F N (Kl : Nat) P z24 (¬ L.length < a2 + m + sz) (RG.2.2.2.2 = 8) w5 (.int .i64 ((qi : Int) + 1)) (.int .i64 (zi : Nat)) (w7.setCell ⟨gx, zz, none⟩ (.int .i64 (bet vx (L.getD ai 0) (Kl : Nat)))) from
                                  ⟨qi + 1, ki + 1, ai + 1, zi, 0, xi.set zz (bet vx (L.getD ai 0) (Kl : Nat)), by omega, by omega, by go_num, rfl, hzi, by rw [List.length_set]; exact HXI.out, XG7, I8, f8, .inl ⟨rfl, HZ1.out, by rw [HVX.out]; exact HP8b.out.symm, by have h9 := HSET.out (bet vx (L.getD ai 0) (Kl : Nat)); exact h9, HE0.out⟩⟩)
                                clear XG7 I8 f8 I7 hf7 fg7 cg7 cg fg cz c3 hs7 hHeld f56
                                go_wp2_with fail
                                go_roundw
                                case rel => exact HNX.out
                                case measure => simp [intOf]; omega
                          · have hje : JpE p gx (.slice A1 n1 c1) A c L F N P z24 (¬ L.length < a2 + m + sz) (RG.2.2.2.2 = 8) w5 (.int .i64 (qi : Nat)) w6 := ⟨qi, ki, 0, ai, 8, xi, HQKI.out, hki, rfl, HXI.out, XGi, Ii, fi, .inr ⟨rfl, he8⟩⟩
                            have HJE := Lib.hid hje
                            clear hje XGi Ii fi he8 f56 XBi
                            go_wp2_with fail
                            go_meet
                            exact HJE.out
                        · have dl6 : decide (qi ≤ T) = false := decide_eq_false hlt6
                          have hje : JpE p gx (.slice A1 n1 c1) A c L F N P z24 (¬ L.length < a2 + m + sz) (RG.2.2.2.2 = 8) w5 (.int .i64 (qi : Nat)) w6 := ⟨qi, ki, ki, ai, bad, xi, HQKI.out, hki, rfl, HXI.out, XGi, Ii, fi, (by
                            rcases hcase with ⟨rfl, hz1, hrp, hbdi, he0⟩ | ⟨rfl, he8⟩
                            · exact .inl ⟨rfl, by rw [← hrp, rdP_out (by omega)], hki, by rw [if_neg (by omega)], fun h9 => absurd h9 (by omega), he0⟩
                            · exact .inr ⟨rfl, he8⟩)⟩
                          have HJE := Lib.hid hje
                          clear hje XGi Ii fi hcase f56 XBi c3
                          go_wp2_with fail
                          go_meet
                          exact HJE.out
                    case rest =>
                      clear h0P
                      obtain ⟨q6, k6, kk, a6, bad, x6, hqk6, hk6, rfl, hx6, XG6, I6, f6, hcase⟩ := hcut
                      obtain ⟨w6, rfl⟩ : ∃ w6 : World, w6 = wc := ⟨_, rfl⟩
                      have f56 := f5.trans f6
                      have XB6 := XB1.keep f56 (fun e => e.elim HNS.out.1 HNS.out.2.1)
                      have y1 := XB6.cell (i := 1) (u := .int .i64 (T : Nat)) rfl
                      have c3 := I6.c3
                      have HQK6 := Lib.hid hqk6
                      have HX6 := Lib.hid hx6
                      have hq61 : q6 ≤ F + k6 := by omega
                      have hq62 : F + k6 ≤ q6 := by omega
                      clear hqk6 hx6
                      rcases hcase with ⟨rfl, hPq, hkk, hk6q, hz6, he0⟩ | ⟨rfl, he8⟩
                      · subst hPq
                        have hge := HGE.out
                        dsimp only at hge
                        have HK6 := Lib.hid hk6q
                        have hv4 : v = (if s % 16 = 1 then (2 * L.getD (a2 + m) 0 - 1) * 2 ^ ((Kl : Nat) : Int).toNat else 0) := by
                          rw [Int.toNat_natCast, ← HSZ.out]
                          rcases HVQ.out with h | h
                          · exact h.2.2.2
                          · exact absurd h.2 he0
                        have HV4 := Lib.hid hv4
                        have hmal := rdG_mal2 (left := left) hkN HF.out HEND.out HNO1.out (by rw [← HSZ.out]; exact he0) HPS.out
                        have hgo := rdG_go (left := left) hkN HF.out HEND.out HNO1.out (by rw [← HSZ.out]; exact he0) HPS.out
                        rw [HRD.out] at hmal hgo
                        have HMAL := Lib.hid hmal
                        have HGO := Lib.hid hgo
                        have HZ6 := Lib.hid hz6
                        have h24 : z24 = true ↔ s = 240 := by rw [HZ24.out]; simp
                        have H24 := Lib.hid h24
                        have hk6r : (s = 240 ∧ kk < N → k6 = kk + 1) ∧ (¬ (s = 240 ∧ kk < N) → k6 = kk) := by
                          rw [hk6q]
                          refine ⟨fun h9 => by rw [if_pos ⟨h24.2 h9.1, h9.2⟩], fun h9 => by rw [if_neg (fun h8 => h9 ⟨h24.1 h8.1, h8.2⟩)]⟩
                        have HK6R := Lib.hid hk6r
                        clear hmal hgo hz6 hv4 h24 hk6q he0 hk6r
                        by_cases hgt : T < q6
                        · have dgt : decide (T < q6) = true := decide_eq_true hgt
                          have hR2 : RG = ([], 0, 0, 0, 2) := HMAL.out (by
                            have h := HK6R.out
                            by_cases h9 : s = 240 ∧ kk < N
                            · have := h.1 h9; exact .inr ⟨h9.1, by omega⟩
                            · have := h.2 h9; exact .inl (by omega))
                          have HR2 := Lib.hid hR2
                          clear hR2 hgt
                          go_wp2_with (go_at_call 133; refine (ifail_any I6).mono ?_; rintro e' w7 ⟨rfl, I7, hf7⟩)
                          go_meet
                          exact ⟨q6, k6, a6, 2, 0, x6, HQK6.out, by omega, rfl, HX6.out, XG6.keep hf7 (fun e => NXP.out e), I7, f56.trans (hf7.mono (fun b hb => .inl hb)), .inr ⟨by decide, by rw [HR2.out]⟩⟩
                        · have dgt : decide (T < q6) = false := decide_eq_false hgt
                          have hkkN : kk < N := by
                            have h := HK6R.out
                            by_cases h9 : s = 240 ∧ kk < N
                            · exact h9.2
                            · have := h.2 h9; omega
                          have hrg := HGO.out (by
                            have h := HK6R.out
                            by_cases h9 : s = 240
                            · have := h.1 ⟨h9, hkkN⟩; omega
                            · omega)
                          rw [← HV4.out] at hrg
                          have hbn : ∀ u, BdJ F N (kk + 1) (x6.set (zzN (F + kk)) u) := fun u j h1 h2 => by
                            rw [getD_set_ne _ (zz_ne (i := j) (j := kk) (by omega) (by omega) (by omega)), HAF.out j (by dsimp only; omega) h2]
                            exact HBD.out j (by omega) h2
                          have hT6 : q6 ≤ T := by omega
                          clear hgt
                          by_cases h240 : s = 240
                          · have d241 : ((s : Int) != 240) = false := by simp; omega
                            have hk7 := HK6R.out.1 ⟨h240, hkkN⟩
                            have hv0 : v = 0 := by rw [HV4.out, if_neg (by omega)]
                            rw [hv0, set_zero (HZ6.out hkkN)] at hrg
                            have hb0 := hbn 0
                            rw [set_zero (HZ6.out hkkN)] at hb0
                            have HNX := Lib.hid (show JgR S Z p gx (.slice A1 n1 c1) A c L left F N (Kl : Nat) RG w1 (.int .i64 (q6 : Nat)) w6 from
                              ⟨q6, kk + 1, a6, 0, x6, by omega, by have := HQK6.out; omega, rfl, HX6.out, XG6, I6, f56, hb0, fun _ => hrg.symm, fun h9 => absurd h9 (by decide)⟩)
                            have hm9 : q < q6 := by omega
                            clear hrg hb0 hbn h240 hk7 hv0 XG6 I6 f56 XB6 f6
                            go_wp2_with fail
                            go_roundw
                            case rel => exact HNX.out
                            case measure => simp [intOf]; omega
                          · have d241 : ((s : Int) != 240) = true := by simp; omega
                            have hk7 := HK6R.out.2 (fun h9 => h240 h9.1)
                            have cz := (HXD.keep f56 (fun e => e.elim HNS.out.2.2.2.2.1 HNS.out.2.2.2.2.2)).cell (HZA.out q6 (by omega))
                            have hzb := (zzN_bd q6 (by omega)).1
                            have hb0 := hbn v
                            rw [show F + kk = q6 by omega] at hb0 hrg
                            obtain ⟨zz, hzz⟩ : ∃ r, r = zzN q6 := ⟨_, rfl⟩
                            rw [← hzz] at cz hzb hb0 hrg
                            have fg := XG6.fz (i := zz) (by rw [iv_len, HX6.out]; exact hzb)
                            have cg := XG6.cell (i := zz) (u := .int .i64 (x6.getD zz 0)) (ivs_get (by rw [HX6.out]; exact hzb))
                            have XG7 := XG6.set zz (.int .i64 v)
                            rw [iv_set] at XG7
                            have I7 := I6.keep (S := fun b => b = gx) (Fr.setCell (S := fun b => b = gx) (Fr.refl _ _) (p := ⟨gx, zz, none⟩) (.inl rfl) (.int .i64 v)) (fun e => NXP.out e.symm) (fun r hr e => hAw r hr e)
                            have f7 := f56.setCell (p := ⟨gx, zz, none⟩) (.inl (.inr rfl)) (.int .i64 v)
                            have HNX := Lib.hid (show JgR S Z p gx (.slice A1 n1 c1) A c L left F N (Kl : Nat) RG w1 (.int .i64 ((q6 : Int) + 1)) (w6.setCell ⟨gx, zz, none⟩ (.int .i64 v)) from
                              ⟨q6 + 1, kk + 1, a6, 0, x6.set zz v, by omega, by have := HQK6.out; omega, by go_num, by rw [List.length_set]; exact HX6.out, XG7, I7, f7, hb0, fun _ => hrg.symm, fun h9 => absurd h9 (by decide)⟩)
                            have hm9 : q < q6 + 1 := by omega
                            have hqi0 : (0 : Int) ≤ (q6 : Int) := by omega
                            have hqi64 : (q6 : Int) < 64 := by omega
                            have hz0 : (0 : Int) ≤ (zz : Int) := by omega
                            have hz64 : (zz : Int) < 64 := by omega
                            clear hrg hb0 hbn h240 hk7 XG6 I6 XB6 f6 hzz XG7 I7 f7 f56
                            go_wp2_with fail
                            go_roundw
                            case rel => exact HNX.out
                            case measure => simp [intOf]; omega
                      · have hje : JgE p gx (.slice A1 n1 c1) A c L F N RG w1 (.int .i64 (q6 : Nat)) w6 := ⟨q6, k6, a6, 8, 0, x6, HQK6.out, by omega, rfl, HX6.out, XG6, I6, f56, .inr ⟨by decide, he8⟩⟩
                        have HJE := Lib.hid hje
                        clear hje XG6 I6 f56 XB6 f6 he8
                        go_wp2_with fail
                        go_meet
                        exact HJE.out
          · have hR2 : RG = ([], 0, 0, 0, er) := by rw [← HRD.out, rdG_bad hkN HF.out he]
            have HR2 := Lib.hid hR2
            have HE := Lib.hid he
            clear hR2 he
            go_wp2_with (go_at_call 132; refine HIS.out.mono ?_; rintro e' w4 ⟨rfl, I4, hf4⟩; rw [if_neg HE.out])
            go_meet
            exact ⟨q, k, a2 + m, er, 0, x2, HQK.out, by omega, rfl, HX2.out, XG2.keep hf4 (fun e => NXP.out e), I4, hf2.trans (hf4.mono (fun b hb => .inl hb)), .inr ⟨HE.out, by rw [HR2.out]⟩⟩
        · have hje : JgE p gx (.slice A1 n1 c1) A c L F N RG w1 (.int .i64 (q : Nat)) wj := ⟨q, k, a2, 0, (en : Nat), x2, HQK.out, by omega, rfl, HX2.out, XG2, I2, hf2, .inl ⟨rfl, hk, by omega, by rw [Int.toNat_natCast]; exact hrd1 (by omega), HBD.out⟩⟩
          have HJE := Lib.hid hje
          have de : ((en : Int) == 0) = false := by simp; exact hen
          clear hje XG2 I2 hf2 XB2 hrd0 hrd1 hen
          go_wp2_with fail
          go_meet
          exact HJE.out
      · have dl : decide (q ≤ T) = false := decide_eq_false hlt
        have hRk : RG = (x2, k, a2, en, 0) := by
          by_cases hen : en = 0
          · rw [← hrd0 hen, rdG_out (by omega), hen]
          · exact hrd1 (by omega)
        have hje : JgE p gx (.slice A1 n1 c1) A c L F N RG w1 (.int .i64 (q : Nat)) wj := ⟨q, k, a2, 0, (en : Nat), x2, HQK.out, by omega, rfl, HX2.out, XG2, I2, hf2, .inl ⟨rfl, hk, by omega, by rw [Int.toNat_natCast]; exact hRk, HBD.out⟩⟩
        have HJE := Lib.hid hje
        clear hje XG2 I2 hf2 XB2 hrd0 hrd1 hRk c3 c4
        go_wp2_with fail
        go_meet
        exact HJE.out
  case rest =>
    clear H0
    obtain ⟨q, k, a2, bad, en, x2, hqk, hq9, rfl, hx2, XG2, I2, hf2, hcase⟩ := hcut
    obtain ⟨w2, rfl⟩ : ∃ w2 : World, w2 = wc := ⟨_, rfl⟩
    obtain ⟨RP, hRP⟩ : ∃ RP, rdP L F N (Kl : Nat) k a2 N x2 = RP := ⟨_, rfl⟩
    have h0 : (bad = 0 ∧ k ≤ N ∨ bad ≠ 0) ∧ (bad = 0 ∧ N - k ≤ N ∧ rdP L F N (Kl : Nat) k a2 N x2 = RP ∧ BdJ F N k x2 ∧ R = (if RP.2.2.2 ≠ 0 then ([], 0, 0, RP.2.2.2) else (RP.1, RP.2.2.1, en.toNat, 0)) ∧ 0 ≤ en ∨ bad ≠ 0 ∧ R.2.2.2 = bad) := by
      rcases hcase with ⟨rfl, hk, hen, hrg, hbd⟩ | ⟨hbad, hrg⟩
      · refine ⟨.inl ⟨rfl, hk⟩, .inl ⟨rfl, by omega, hRP, hbd, ?_, hen⟩⟩
        rw [← HR.out, hrg]
        unfold endG rdZ
        rw [if_neg (by simp)]
        dsimp only
        rw [hRP]
      · refine ⟨.inr hbad, .inr ⟨hbad, ?_⟩⟩
        rw [← HR.out]
        unfold endG
        rw [if_pos (by rw [hrg]; exact hbad)]
        exact hrg
    have H0c := Lib.hid h0
    have HX2 := Lib.hid hx2
    have HQK := Lib.hid hqk
    have hq1 : q ≤ F + k := by omega
    have hq2 : F + k ≤ q := by omega
    clear hcase hqk hx2 h0
    go_upto_block 4 with fail
    go_cut [10] from 128 to 158 (fun _ wx => IbP p gx (.slice A1 n1 c1) A c L R w1 wx)
    case first =>
      go_wp2_with fail
      go_loopw [10] (fun kv wr => JzR p gx (.slice A1 n1 c1) A c L F N (Kl : Nat) en RP R w1 kv wr ∨ (N < k ∧ bad ≠ 0 ∧ R.2.2.2 = bad ∧ kv = .int .i64 (q : Nat) ∧ wr = w2)) (fun kv _ => F + N - (intOf kv).toNat)
      case atStart =>
        by_cases hkN : k ≤ N
        · exact .inl ⟨q, k, a2, N, bad, x2, hkN, HQK.out, rfl, HX2.out, XG2, I2, hf2, H0c.out.2⟩
        · refine .inr ⟨by omega, ?_, ?_, rfl, rfl⟩
          · rcases H0c.out.1 with h | h
            · exact absurd h.2 hkN
            · exact h
          · rcases H0c.out.2 with h | h
            · rcases H0c.out.1 with h1 | h1
              · exact absurd h1.2 hkN
              · exact absurd h.1 h1
            · exact h.2
      case round =>
        rcases hrel with hrel | ⟨hkN, hbad, hRb, rfl, rfl⟩
        · obtain ⟨qi, ki, ai, zi, bi, xi, hki, hqki, rfl, hxi, XGi, Ii, fi, hcase⟩ := hrel
          obtain ⟨w6, rfl⟩ : ∃ w6 : World, w6 = wr := ⟨_, rfl⟩
          have XBi := XB1.keep fi (fun e => e.elim HNS.out.1 HNS.out.2.1)
          have y1 := XBi.cell (i := 1) (u := .int .i64 (T : Nat)) rfl
          have c3 := Ii.c3
          have HXI := Lib.hid hxi
          have HQKI := Lib.hid hqki
          have hqi1 : qi ≤ F + ki := by omega
          have hqi2 : F + ki ≤ qi := by omega
          clear hxi hqki
          by_cases hlt6 : qi ≤ T
          · have dl6 : decide (qi ≤ T) = true := decide_eq_true hlt6
            have hkiN : ki < N := by omega
            rcases hcase with ⟨rfl, hz1, hrp, hbdi, hRR, hen⟩ | ⟨hbi, hRb⟩
            · have hzb := (zzN_bd qi (by omega)).1
              have hbv := hbdi ki (Nat.le_refl _) hkiN
              have cz := (HXD.keep fi (fun e => e.elim HNS.out.2.2.2.2.1 HNS.out.2.2.2.2.2)).cell (HZA.out qi (by omega))
              rw [show F + ki = qi by omega] at hbv
              have hon := @rdP_on L F N ki ai zi (Kl : Int) xi hkiN
              have hfew := @rdP_few L F N ki ai zi (Kl : Int) xi hkiN
              have hzero := @rdP_zero L F N ki ai zi (Kl : Int) xi hkiN
              have hset := fun u => hbdi.set (by omega) hkiN u
              rw [hrp] at hon hfew hzero
              rw [show F + ki = qi by omega] at hon hfew hzero hset
              obtain ⟨zz, hzz⟩ : ∃ r, r = zzN qi := ⟨_, rfl⟩
              rw [← hzz] at hzb cz hbv hon hfew hzero hset
              have cg := XGi.cell (i := zz) (u := .int .i64 (xi.getD zz 0)) (ivs_get (by rw [HXI.out]; exact hzb))
              have fg := XGi.fz (i := zz) (by rw [iv_len, HXI.out]; exact hzb)
              have HON := Lib.hid hon
              have HFEW := Lib.hid hfew
              have HZERO := Lib.hid hzero
              have HSET := Lib.hid hset
              have HBDI := Lib.hid hbdi
              have HRR := Lib.hid hRR
              have HEN := Lib.hid hen
              have hqi0 : (0 : Int) ≤ (qi : Int) := by omega
              have hqi64 : (qi : Int) < 64 := by omega
              have hz0 : (0 : Int) ≤ (zz : Int) := by omega
              have hz64 : (zz : Int) < 64 := by omega
              obtain ⟨vx, hvx⟩ : ∃ r, r = xi.getD zz 0 := ⟨_, rfl⟩
              rw [← hvx] at cg hbv
              have HVX := Lib.hid hvx
              clear hon hfew hzero hset hbdi hzz hrp hRR hen
              by_cases h0 : vx = 0
              · have d0 : (vx != 0) = false := by simp; exact h0
                have h00 : xi.getD zz 0 = 0 := by rw [← hvx]; exact h0
                have hnx := HZERO.out h00 (by omega)
                have HNX := Lib.hid (show JzR p gx (.slice A1 n1 c1) A c L F N (Kl : Nat) en RP R w1 (.int .i64 ((qi : Int) + 1)) w6 from
                  ⟨qi + 1, ki + 1, ai, zi - 1, 0, xi, by omega, by omega, by go_num, HXI.out, XGi, Ii, fi, .inl ⟨rfl, by omega, hnx.symm, fun j h1 h2 => HBDI.out j (by omega) h2, HRR.out, HEN.out⟩⟩)
                clear hnx h00 h0 hvx XGi Ii fi XBi
                go_wp2_with fail
                go_roundw
                case rel => exact .inl HNX.out
                case measure => simp [intOf]; omega
              · have d0 : (vx != 0) = true := by simp; exact h0
                have hnz0 : xi.getD zz 0 ≠ 0 := by rw [← hvx]; exact h0
                have HNZ0 := Lib.hid hnz0
                have Iid : Inn w6.drew p (.slice A1 n1 c1) A c L ai 0 en := Ii.drewN 1
                have hbe := ibetter_any Iid hB vx hbv (F : Int) (T : Int) h Kl (by omega)
                have HBE := Lib.hid hbe
                have yb0 := XBi.cell (i := 0) (u := .int .i64 (F : Nat)) rfl
                have yb2 := XBi.cell (i := 2) (u := .int .i64 h) rfl
                have yb3 := XBi.cell (i := 3) (u := .int .i64 (Kl : Nat)) rfl
                have HI6 := Lib.hid (And.intro XGi (And.intro Ii fi))
                clear hbe hnz0 hvx h0 Iid Ii XGi fi XBi
                by_cases hfw : L.length ≤ ai
                · have hp8 : R.2.2.2 = 8 := by rw [HRR.out, HFEW.out HNZ0.out hfw]; rfl
                  have HP8b := Lib.hid hp8
                  have HFWb := Lib.hid hfw
                  clear hp8 hfw
                  go_upto_region 32 with fail
                  refine wp_region_held_drew (S := (fun W : World => W.cell? ⟨ob, qi, none⟩ = some (.int .i64 (zz : Nat)) ∧ W.cell? ⟨gb, 0, none⟩ = some (.int .i64 (F : Nat)) ∧ W.cell? ⟨gb, 1, none⟩ = some (.int .i64 (T : Nat)) ∧ W.cell? ⟨gb, 2, none⟩ = some (.int .i64 h) ∧ W.cell? ⟨gb, 3, none⟩ = some (.int .i64 (Kl : Nat)))) (by kernel_rfl) ⟨cz, yb0, y1, yb2, yb3⟩ (fun hHeld => ?_)
                  refine wpAnyH_take (i := 0) (oi := { dst := some 145, op := Op.move (Operand.tmp 10), type := 3, pos := _, after := _, guard := none }) (v := Value.int .i64 (qi : Nat)) rfl (by kernel_rfl) (by kernel_rfl) (by kernel_rfl) (fun _ _ _ h => h) (Or.inl ⟨by rfl, fun w hSw => by go_simp⟩) hHeld ?_
                  simp only [Act.put, List.setIfInBounds_toArray, List.set_cons_zero, List.set_cons_succ]
                  refine wpAnyH_take (i := 1) (oi := { dst := some 146, op := Op.indexAddr 39 (Operand.tmp 9) (Operand.tmp 145), type := 0, pos := _, after := _, guard := none }) (v := Value.pointer (some ⟨ob, qi, none⟩)) rfl (by kernel_rfl) (by kernel_rfl) (by kernel_rfl) (fun _ _ _ h => h) (Or.inl ⟨by rfl, fun w hSw => by go_simp⟩) hHeld ?_
                  simp only [Act.put, List.setIfInBounds_toArray, List.set_cons_zero, List.set_cons_succ]
                  refine wpAnyH_take (i := 2) (oi := { dst := some 147, op := Op.load 3 (Operand.tmp 146), type := 3, pos := _, after := _, guard := none }) (v := Value.int .i64 (zz : Nat)) rfl (by kernel_rfl) (by kernel_rfl) (by kernel_rfl) (fun _ _ _ h => h) (Or.inl ⟨by rfl, fun w hSw => by go_simp⟩) hHeld ?_
                  simp only [Act.put, List.setIfInBounds_toArray, List.set_cons_zero, List.set_cons_succ]
                  refine wpAnyH_take (i := 3) (oi := { dst := some 148, op := Op.move (Operand.tmp 0), type := 173, pos := _, after := _, guard := none }) (v := Value.pointer (some ⟨p, 0, none⟩)) rfl (by kernel_rfl) (by kernel_rfl) (by kernel_rfl) (fun _ _ _ h => h) (Or.inl ⟨by rfl, fun w hSw => by go_simp⟩) hHeld ?_
                  simp only [Act.put, List.setIfInBounds_toArray, List.set_cons_zero, List.set_cons_succ]
                  refine wpAnyH_take (i := 4) (oi := { dst := some 149, op := Op.move (Operand.tmp 10), type := 3, pos := _, after := _, guard := none }) (v := Value.int .i64 (qi : Nat)) rfl (by kernel_rfl) (by kernel_rfl) (by kernel_rfl) (fun _ _ _ h => h) (Or.inl ⟨by rfl, fun w hSw => by go_simp⟩) hHeld ?_
                  simp only [Act.put, List.setIfInBounds_toArray, List.set_cons_zero, List.set_cons_succ]
                  refine wpAnyH_take (i := 5) (oi := { dst := some 150, op := Op.indexAddr 39 (Operand.tmp 9) (Operand.tmp 149), type := 0, pos := _, after := _, guard := none }) (v := Value.pointer (some ⟨ob, qi, none⟩)) rfl (by kernel_rfl) (by kernel_rfl) (by kernel_rfl) (fun _ _ _ h => h) (Or.inl ⟨by rfl, fun w hSw => by go_simp⟩) hHeld ?_
                  simp only [Act.put, List.setIfInBounds_toArray, List.set_cons_zero, List.set_cons_succ]
                  refine wpAnyH_take (i := 6) (oi := { dst := some 151, op := Op.load 3 (Operand.tmp 150), type := 3, pos := _, after := _, guard := none }) (v := Value.int .i64 (zz : Nat)) rfl (by kernel_rfl) (by kernel_rfl) (by kernel_rfl) (fun _ _ _ h => h) (Or.inl ⟨by rfl, fun w hSw => by go_simp⟩) hHeld ?_
                  simp only [Act.put, List.setIfInBounds_toArray, List.set_cons_zero, List.set_cons_succ]
                  refine wpAnyH_take (i := 7) (oi := { dst := some 152, op := Op.indexAddr 70 (Operand.tmp 5) (Operand.tmp 151), type := 0, pos := _, after := _, guard := none }) (v := Value.pointer (some ⟨gx, zz, none⟩)) rfl (by kernel_rfl) (by kernel_rfl) (by kernel_rfl) (fun _ _ _ h => h) (Or.inl ⟨by rfl, fun w hSw => by go_simp⟩) hHeld ?_
                  simp only [Act.put, List.setIfInBounds_toArray, List.set_cons_zero, List.set_cons_succ]
                  refine wpAnyH_take (i := 9) (oi := { dst := some 154, op := Op.load 33 (Operand.tmp 6), type := 33, pos := _, after := _, guard := none }) (v := Value.agg #[.int .i64 (F : Nat), .int .i64 (T : Nat), .int .i64 h, .int .i64 (Kl : Nat)]) rfl (by kernel_rfl) (by kernel_rfl) (by kernel_rfl) (fun _ _ _ h => h) (Or.inl ⟨by rfl, fun w hSw => by go_simp⟩) hHeld ?_
                  simp only [Act.put, List.setIfInBounds_toArray, List.set_cons_zero, List.set_cons_succ]
                  refine wpAnyH_ready (rs := [8]) (by kernel_rfl) (by simp) ?_
                  refine AllReadyH.cons (o := { dst := some 153, op := Op.load 3 (Operand.tmp 152), type := 3, pos := _, after := _, guard := none }) rfl (fun K' hK => ?_) AllReadyH.nil
                  rw [if_pos (by rfl)]
                  go_simp
                  refine hK.out _ _ hHeld (fun _ => ?_)
                  clear hK K'
                  refine wpAnyH_ready (rs := [10]) (by kernel_rfl) (by simp) ?_
                  refine AllReadyH.cons (o := { dst := some 155, op := Op.call { callee := Callee.value (Operand.func 150), args := #[Operand.tmp 148, Operand.tmp 153, Operand.tmp 154], argTypes := #[173, 3, 33] }, type := 3, pos := _, after := _, guard := none }) rfl (fun K' hK => ?_) AllReadyH.nil
                  rw [if_pos (by rfl)]
                  go_simp
                  refine HBE.out.mono ?_
                  rintro e7 w7 ⟨h71, _, hf7⟩
                  obtain ⟨yv, rfl, I7⟩ := h71 HFWb.out
                  have fg7 := (hf7.frozen (p := ⟨gx, zz, none⟩) HI6.out.1.lt (fun e => NXP.out e)).trans fg
                  have cg7 := (hf7.cell (p := ⟨gx, zz, none⟩) HI6.out.1.lt (fun e => NXP.out e)).trans cg
                  have hs7 := keep_5 hf7 (fun e => HNS.out.2.2.2.2.1 e) HNS.out.1 hHeld
                  refine hK.out _ _ hs7 (fun _ => ?_)
                  clear hK K'
                  refine wpAnyH_take (i := 11) (oi := { dst := some 156, op := Op.indexAddr 70 (Operand.tmp 5) (Operand.tmp 147), type := 0, pos := _, after := _, guard := none }) (v := Value.pointer (some ⟨gx, zz, none⟩)) rfl (by kernel_rfl) (by kernel_rfl) (by kernel_rfl) (fun _ _ _ h => h) (Or.inl ⟨by rfl, fun w hSw => by go_simp⟩) hs7 ?_
                  simp only [Act.put, List.setIfInBounds_toArray, List.set_cons_zero, List.set_cons_succ]
                  refine wpAnyH_ready (rs := [12]) (by kernel_rfl) (by simp) ?_
                  refine AllReadyH.cons (o := { dst := none, op := Op.store 3 (Operand.tmp 156) (Operand.tmp 155), type := 0, pos := _, after := _, guard := none }) rfl (fun K' hK => ?_) AllReadyH.nil
                  rw [if_pos (by rfl)]
                  go_simp
                  refine hK.out _ _ (set_5 _ (fun e => HNS.out.2.2.2.2.2 e) HNS.out.2.1 hs7) (fun _ => ?_)
                  clear hK K'
                  refine wpAnyH_done (by kernel_rfl) ?_ _
                  have XG7 := (HI6.out.1.keep ((Fr.refl _ w6).drew.trans hf7) (fun e => NXP.out e)).set zz (.int .i64 yv)
                  rw [iv_set] at XG7
                  have I8 := I7.keep (S := fun b => b = gx) (Fr.setCell (S := fun b => b = gx) (Fr.refl _ _) (p := ⟨gx, zz, none⟩) (.inl rfl) (.int .i64 yv)) (fun e => NXP.out e.symm) (fun r hr e => hAw r hr e)
                  have f8 := (HI6.out.2.2.trans (((Fr.refl (fun b => b = p) w6).drew.trans hf7).mono (S' := fun b => b = p ∨ b = gx) (fun b hb => .inl hb))).setCell (p := ⟨gx, zz, none⟩) (.inl (.inr rfl)) (.int .i64 yv)
                  have HNX := Lib.hid (show JzR p gx (.slice A1 n1 c1) A c L F N (Kl : Nat) en RP R w1 (.int .i64 ((qi : Int) + 1)) (w7.setCell ⟨gx, zz, none⟩ (.int .i64 yv)) from
                    ⟨qi + 1, ki + 1, ai, zi, 8, xi.set zz yv, by omega, by omega, by go_num, by rw [List.length_set]; exact HXI.out, XG7, I8, f8, .inr ⟨by decide, HP8b.out⟩⟩)
                  clear XG7 I8 f8 I7 hf7 fg7 cg7 cg fg cz c3 hs7 hHeld
                  go_wp2_with fail
                  go_roundw
                  case rel => exact .inl HNX.out
                  case measure => simp [intOf]; omega
                · have hp8 := HON.out HNZ0.out hfw
                  have HP8b := Lib.hid hp8
                  have HFWb := Lib.hid hfw
                  clear hp8 hfw
                  go_upto_region 32 with fail
                  refine wp_region_held_drew (S := (fun W : World => W.cell? ⟨ob, qi, none⟩ = some (.int .i64 (zz : Nat)) ∧ W.cell? ⟨gb, 0, none⟩ = some (.int .i64 (F : Nat)) ∧ W.cell? ⟨gb, 1, none⟩ = some (.int .i64 (T : Nat)) ∧ W.cell? ⟨gb, 2, none⟩ = some (.int .i64 h) ∧ W.cell? ⟨gb, 3, none⟩ = some (.int .i64 (Kl : Nat)))) (by kernel_rfl) ⟨cz, yb0, y1, yb2, yb3⟩ (fun hHeld => ?_)
                  refine wpAnyH_take (i := 0) (oi := { dst := some 145, op := Op.move (Operand.tmp 10), type := 3, pos := _, after := _, guard := none }) (v := Value.int .i64 (qi : Nat)) rfl (by kernel_rfl) (by kernel_rfl) (by kernel_rfl) (fun _ _ _ h => h) (Or.inl ⟨by rfl, fun w hSw => by go_simp⟩) hHeld ?_
                  simp only [Act.put, List.setIfInBounds_toArray, List.set_cons_zero, List.set_cons_succ]
                  refine wpAnyH_take (i := 1) (oi := { dst := some 146, op := Op.indexAddr 39 (Operand.tmp 9) (Operand.tmp 145), type := 0, pos := _, after := _, guard := none }) (v := Value.pointer (some ⟨ob, qi, none⟩)) rfl (by kernel_rfl) (by kernel_rfl) (by kernel_rfl) (fun _ _ _ h => h) (Or.inl ⟨by rfl, fun w hSw => by go_simp⟩) hHeld ?_
                  simp only [Act.put, List.setIfInBounds_toArray, List.set_cons_zero, List.set_cons_succ]
                  refine wpAnyH_take (i := 2) (oi := { dst := some 147, op := Op.load 3 (Operand.tmp 146), type := 3, pos := _, after := _, guard := none }) (v := Value.int .i64 (zz : Nat)) rfl (by kernel_rfl) (by kernel_rfl) (by kernel_rfl) (fun _ _ _ h => h) (Or.inl ⟨by rfl, fun w hSw => by go_simp⟩) hHeld ?_
                  simp only [Act.put, List.setIfInBounds_toArray, List.set_cons_zero, List.set_cons_succ]
                  refine wpAnyH_take (i := 3) (oi := { dst := some 148, op := Op.move (Operand.tmp 0), type := 173, pos := _, after := _, guard := none }) (v := Value.pointer (some ⟨p, 0, none⟩)) rfl (by kernel_rfl) (by kernel_rfl) (by kernel_rfl) (fun _ _ _ h => h) (Or.inl ⟨by rfl, fun w hSw => by go_simp⟩) hHeld ?_
                  simp only [Act.put, List.setIfInBounds_toArray, List.set_cons_zero, List.set_cons_succ]
                  refine wpAnyH_take (i := 4) (oi := { dst := some 149, op := Op.move (Operand.tmp 10), type := 3, pos := _, after := _, guard := none }) (v := Value.int .i64 (qi : Nat)) rfl (by kernel_rfl) (by kernel_rfl) (by kernel_rfl) (fun _ _ _ h => h) (Or.inl ⟨by rfl, fun w hSw => by go_simp⟩) hHeld ?_
                  simp only [Act.put, List.setIfInBounds_toArray, List.set_cons_zero, List.set_cons_succ]
                  refine wpAnyH_take (i := 5) (oi := { dst := some 150, op := Op.indexAddr 39 (Operand.tmp 9) (Operand.tmp 149), type := 0, pos := _, after := _, guard := none }) (v := Value.pointer (some ⟨ob, qi, none⟩)) rfl (by kernel_rfl) (by kernel_rfl) (by kernel_rfl) (fun _ _ _ h => h) (Or.inl ⟨by rfl, fun w hSw => by go_simp⟩) hHeld ?_
                  simp only [Act.put, List.setIfInBounds_toArray, List.set_cons_zero, List.set_cons_succ]
                  refine wpAnyH_take (i := 6) (oi := { dst := some 151, op := Op.load 3 (Operand.tmp 150), type := 3, pos := _, after := _, guard := none }) (v := Value.int .i64 (zz : Nat)) rfl (by kernel_rfl) (by kernel_rfl) (by kernel_rfl) (fun _ _ _ h => h) (Or.inl ⟨by rfl, fun w hSw => by go_simp⟩) hHeld ?_
                  simp only [Act.put, List.setIfInBounds_toArray, List.set_cons_zero, List.set_cons_succ]
                  refine wpAnyH_take (i := 7) (oi := { dst := some 152, op := Op.indexAddr 70 (Operand.tmp 5) (Operand.tmp 151), type := 0, pos := _, after := _, guard := none }) (v := Value.pointer (some ⟨gx, zz, none⟩)) rfl (by kernel_rfl) (by kernel_rfl) (by kernel_rfl) (fun _ _ _ h => h) (Or.inl ⟨by rfl, fun w hSw => by go_simp⟩) hHeld ?_
                  simp only [Act.put, List.setIfInBounds_toArray, List.set_cons_zero, List.set_cons_succ]
                  refine wpAnyH_take (i := 9) (oi := { dst := some 154, op := Op.load 33 (Operand.tmp 6), type := 33, pos := _, after := _, guard := none }) (v := Value.agg #[.int .i64 (F : Nat), .int .i64 (T : Nat), .int .i64 h, .int .i64 (Kl : Nat)]) rfl (by kernel_rfl) (by kernel_rfl) (by kernel_rfl) (fun _ _ _ h => h) (Or.inl ⟨by rfl, fun w hSw => by go_simp⟩) hHeld ?_
                  simp only [Act.put, List.setIfInBounds_toArray, List.set_cons_zero, List.set_cons_succ]
                  refine wpAnyH_ready (rs := [8]) (by kernel_rfl) (by simp) ?_
                  refine AllReadyH.cons (o := { dst := some 153, op := Op.load 3 (Operand.tmp 152), type := 3, pos := _, after := _, guard := none }) rfl (fun K' hK => ?_) AllReadyH.nil
                  rw [if_pos (by rfl)]
                  go_simp
                  refine hK.out _ _ hHeld (fun _ => ?_)
                  clear hK K'
                  refine wpAnyH_ready (rs := [10]) (by kernel_rfl) (by simp) ?_
                  refine AllReadyH.cons (o := { dst := some 155, op := Op.call { callee := Callee.value (Operand.func 150), args := #[Operand.tmp 148, Operand.tmp 153, Operand.tmp 154], argTypes := #[173, 3, 33] }, type := 3, pos := _, after := _, guard := none }) rfl (fun K' hK => ?_) AllReadyH.nil
                  rw [if_pos (by rfl)]
                  go_simp
                  refine HBE.out.mono ?_
                  rintro e7 w7 ⟨_, h71, hf7⟩
                  obtain ⟨rfl, I7⟩ := h71 HFWb.out
                  have fg7 := (hf7.frozen (p := ⟨gx, zz, none⟩) HI6.out.1.lt (fun e => NXP.out e)).trans fg
                  have cg7 := (hf7.cell (p := ⟨gx, zz, none⟩) HI6.out.1.lt (fun e => NXP.out e)).trans cg
                  have hs7 := keep_5 hf7 (fun e => HNS.out.2.2.2.2.1 e) HNS.out.1 hHeld
                  refine hK.out _ _ hs7 (fun _ => ?_)
                  clear hK K'
                  refine wpAnyH_take (i := 11) (oi := { dst := some 156, op := Op.indexAddr 70 (Operand.tmp 5) (Operand.tmp 147), type := 0, pos := _, after := _, guard := none }) (v := Value.pointer (some ⟨gx, zz, none⟩)) rfl (by kernel_rfl) (by kernel_rfl) (by kernel_rfl) (fun _ _ _ h => h) (Or.inl ⟨by rfl, fun w hSw => by go_simp⟩) hs7 ?_
                  simp only [Act.put, List.setIfInBounds_toArray, List.set_cons_zero, List.set_cons_succ]
                  refine wpAnyH_ready (rs := [12]) (by kernel_rfl) (by simp) ?_
                  refine AllReadyH.cons (o := { dst := none, op := Op.store 3 (Operand.tmp 156) (Operand.tmp 155), type := 0, pos := _, after := _, guard := none }) rfl (fun K' hK => ?_) AllReadyH.nil
                  rw [if_pos (by rfl)]
                  go_simp
                  refine hK.out _ _ (set_5 _ (fun e => HNS.out.2.2.2.2.2 e) HNS.out.2.1 hs7) (fun _ => ?_)
                  clear hK K'
                  refine wpAnyH_done (by kernel_rfl) ?_ _
                  have XG7 := (HI6.out.1.keep ((Fr.refl _ w6).drew.trans hf7) (fun e => NXP.out e)).set zz (.int .i64 (bet vx (L.getD ai 0) (Kl : Nat)))
                  rw [iv_set] at XG7
                  have I8 := I7.keep (S := fun b => b = gx) (Fr.setCell (S := fun b => b = gx) (Fr.refl _ _) (p := ⟨gx, zz, none⟩) (.inl rfl) (.int .i64 (bet vx (L.getD ai 0) (Kl : Nat)))) (fun e => NXP.out e.symm) (fun r hr e => hAw r hr e)
                  have f8 := (HI6.out.2.2.trans (((Fr.refl (fun b => b = p) w6).drew.trans hf7).mono (S' := fun b => b = p ∨ b = gx) (fun b hb => .inl hb))).setCell (p := ⟨gx, zz, none⟩) (.inl (.inr rfl)) (.int .i64 (bet vx (L.getD ai 0) (Kl : Nat)))
                  have HNX := Lib.hid (show JzR p gx (.slice A1 n1 c1) A c L F N (Kl : Nat) en RP R w1 (.int .i64 ((qi : Int) + 1)) (w7.setCell ⟨gx, zz, none⟩ (.int .i64 (bet vx (L.getD ai 0) (Kl : Nat)))) from
                    ⟨qi + 1, ki + 1, ai + 1, zi, 0, xi.set zz (bet vx (L.getD ai 0) (Kl : Nat)), by omega, by omega, by go_num, by rw [List.length_set]; exact HXI.out, XG7, I8, f8, .inl ⟨rfl, by omega, by rw [HVX.out]; exact HP8b.out.symm, HSET.out (bet vx (L.getD ai 0) (Kl : Nat)), HRR.out, HEN.out⟩⟩)
                  clear XG7 I8 f8 I7 hf7 fg7 cg7 cg fg cz c3 hs7 hHeld
                  go_wp2_with fail
                  go_roundw
                  case rel => exact .inl HNX.out
                  case measure => simp [intOf]; omega
            · have db : (bi == 0) = false := by simp; exact hbi
              have hib : IbP p gx (.slice A1 n1 c1) A c L R w1 w6 := ⟨xi, ai, en, HXI.out, XGi, by rw [hRb]; exact Ii, fun h9 => absurd (by rw [hRb] at h9; exact h9) hbi, fi⟩
              have HIB := Lib.hid hib
              clear hib XGi Ii fi XBi hbi hRb
              go_wp2_with fail
              go_meet
              exact HIB.out
          · have dl6 : decide (qi ≤ T) = false := decide_eq_false hlt6
            have hib : IbP p gx (.slice A1 n1 c1) A c L R w1 w6 := by
              rcases hcase with ⟨rfl, hz1, hrp, hbdi, hRR, hen⟩ | ⟨hbi, hRb⟩
              · have hR3 : R = (xi, ai, en.toNat, 0) := by rw [hRR, ← hrp, rdP_out (by omega)]; exact if_neg (by simp)
                rw [hR3]
                exact ⟨xi, ai, en, HXI.out, XGi, Ii, fun _ => ⟨rfl, rfl, by dsimp only; omega⟩, fi⟩
              · exact ⟨xi, ai, en, HXI.out, XGi, by rw [hRb]; exact Ii, fun h9 => absurd (by rw [hRb] at h9; exact h9) hbi, fi⟩
            have HIB := Lib.hid hib
            clear hib XGi Ii fi hcase XBi c3
            go_wp2_with fail
            go_meet
            exact HIB.out
        · have XBi := XB1.keep hf2 (fun e => e.elim HNS.out.1 HNS.out.2.1)
          have y1 := XBi.cell (i := 1) (u := .int .i64 (T : Nat)) rfl
          have c3 := I2.c3
          have dl6 : decide (q ≤ T) = false := decide_eq_false (by omega)
          have db : (bad == 0) = false := by simp; exact hbad
          have hib : IbP p gx (.slice A1 n1 c1) A c L R w1 wr := ⟨x2, a2, en, HX2.out, XG2, by rw [hRb]; exact I2, fun h9 => absurd (by rw [hRb] at h9; exact h9) hbad, hf2⟩
          have HIB := Lib.hid hib
          clear hib XG2 I2 hf2 XBi hbad hRb
          go_wp2_with fail
          go_meet
          exact HIB.out
    case rest =>
      clear XG2 I2 hf2
      obtain ⟨xr, ar, enr, hxl, XR, IR, hRR, hfr⟩ := hcut
      have HXR := Lib.hid hxl
      have HRR := Lib.hid hRR
      clear hRR hxl
      have XE := XE1.keep hfr (fun e => e.elim HNS.out.2.2.1 HNS.out.2.2.2.1)
      have hrx := XR.range 0 (iv xr) (fun j v hv => by rw [Nat.zero_add]; exact hv)
      have hth : wc.there g8 0 (iv xr).toArray.size := by have h := XE.there 64 (by rw [iv_len]; decide); rw [show (iv xr).toArray.size = 64 from (iv_len xr).trans HXR.out]; exact h
      have hone := one_iv xr
      have X9 := Bln.sets (iv xr) 0 XE
      rw [setR_all (by rw [iv_len, iv_len, HXR.out]; rfl)] at X9
      have hf9 := Fr.sets (S := fun b => b = p) (a := w) (p := g8) (.inr (by omega)) (iv xr) 0 (hfe.trans' hfr (fun b hb e => by rcases e with e | e <;> omega))
      have I9 := IR.keep (Fr.sets (S := fun b => b = g8) (.inl rfl) (iv xr) 0 (Fr.refl _ _)) (fun e => HNS.out.2.2.1 e.symm) (fun r hr e => by have := hAK r hr; omega)
      have HX9 := Lib.hid (And.intro X9 (And.intro hf9 I9))
      clear X9 hf9 I9 hfr XR IR
      go_wp2_with (first | ((with_reducible refine bp_id ?_); exact bodyPost_ret (results_cell_row (P := Try.prog) rfl _ _ g8 70 (iv xr).toArray (0, 0) _ rfl HX9.out.1 Try.underlying70 rfl (by rw [show (iv xr).toArray.size = 64 from (iv_len xr).trans HXR.out]; kernel_rfl)) rfl ⟨xr, ar, enr, rfl, HXR.out, HX9.out.2.2, HRR.out, HX9.out.2.1⟩) | refine wpList_load_mid rfl 70 (.tmp 5) rfl _ _ rfl (iv xr) _ hrx Try.underlying70 rfl (by rw [iv_len, HXR.out]; kernel_rfl) ?_ | refine wpList_store_mid rfl 70 (.tmp 8) (.tmp 159) rfl _ _ (iv xr).toArray rfl rfl hth (by rw [show (iv xr).toArray.size = 64 from (iv_len xr).trans HXR.out]; kernel_rfl) (all_oneCell_toArray hone) ?_)
end Go.Proofs.Ytlhappecjjbopaa
