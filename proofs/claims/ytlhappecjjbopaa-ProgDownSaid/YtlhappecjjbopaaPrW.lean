/-
  ProgDown: a dc's first band and all finer ones come to it. No condition.
-/
import Derived.Test.YtlhappecjjbopaaPrR
import Derived.Test.YtlhappecjjbopaaPrU
import Derived.Test.YtlhappecjjbopaaPrV
import Derived.Test.YtlhappecjjbopaaScT
import Derived.Test.YtlhappecjjbopaaScK
import Derived.Test.YtlhappecjjbopaaCbAll
import Derived.Test.YtlhappecjjbopaaFacts
import Derived.Test.YtlhappecjjbopaaArw
namespace Go.Proofs.Ytlhappecjjbopaa
open Go.ChangeShapes Go.WideShapes Go.ChangeAt Go.WideMaps Go.WideElems Go.RowKit Go.Joins
set_option linter.unusedVariables false
set_option maxRecDepth 100000

/-- the lengths of all 256 symbols -/
def AllP (w : World) (e : Ending) (w' : World) : Prop :=
  ∃ c, e = .returned (.slice (some ⟨w.heap.size, 0, none⟩) 256 c) ∧ w'.ownsRow w.heap.size 3 1 (.slice (some ⟨w.heap.size, 0, none⟩) 256 c) 256 (iv (flatL 256 8 0)) ∧ Below w.heap.size w w'
set_option maxHeartbeats 4000000 in
theorem all22_any (w : World) : Calls Try.prog 75 #[] w (AllP w) := by
  have hmk : ∀ W : World, (Instr.makeSlice 24 (.int .i64 256) (.int .i64 256)).run Try.prog W = .ok (.slice (some ⟨W.heap.size, 0, none⟩) 256 256) (W.alloc (.cells (iv (rep0 256)).toArray 3)) := fun W => make_ints 256 (by omega) W
  have ho0 := own_ints w (rep0 256) (by rw [rep0, List.length_replicate]; omega)
  rw [show (rep0 256).length = 256 by rw [rep0, List.length_replicate], show rep0 256 = flatK 256 8 0 0 by rw [flatK_zero]; rfl] at ho0
  have hb0 : Below w.heap.size w (w.alloc (.cells (iv (rep0 256)).toArray 3)) := (Below.refl _ _).alloc (Nat.le_refl _) _
  rw [show rep0 256 = flatK 256 8 0 0 by rw [flatK_zero]; rfl] at hmk hb0
  go_enter Try.func75, Try.ntmps75
  go_wp2_with fail
  generalize w.alloc (.cells (iv (flatK 256 8 0 0)).toArray 3) = w0 at *
  clear hmk
  go_loopw [6] (fun i wr => ∃ k : Nat, k ≤ 256 ∧ i = .int .i64 k ∧ wr.ownsRow w.heap.size 3 1 (.slice (some ⟨w.heap.size, 0, none⟩) 256 256) 256 (iv (flatK 256 8 0 k)) ∧ Below w.heap.size w wr) (fun i _ => 256 - (intOf i).toNat)
  case atStart => exact ⟨0, Nat.zero_le _, rfl, ho0, hb0⟩
  case round =>
    obtain ⟨k, hk, rfl, hown, hb⟩ := hrel
    clear ho0 hb0
    by_cases hlt : k < 256
    · have hlen := flatK_len 256 8 0 k
      have cc : wr.cell? ⟨w.heap.size, k, none⟩ = some (.int .i64 ((flatK 256 8 0 k).getD k 0)) := by
        have h := World.ownsRow.cellAt hown k (by omega)
        rwa [ivs_get (by rw [hlen]; exact hlt)] at h
      have cf : wr.frozen? ⟨w.heap.size, k, none⟩ = false := own_fz hown hlt
      have s1 := own_set hown k 9
      have hks := flatK_set 256 8 0 k
      rw [if_neg (by omega)] at hks
      have hk0' : (0 : Int) ≤ (k : Int) := by omega
      have hk1' : (k : Int) < 256 := by omega
      have S1 := Lib.hid s1
      have HKS := Lib.hid hks
      clear hks hlen s1 hown
      go_wp2_with fail
      go_roundw
      case rel => exact ⟨k + 1, by omega, by go_num, by rw [← HKS.out]; exact S1.out, hb.setCell (p := ⟨w.heap.size, k, none⟩) (Nat.le_refl _) _⟩
      case measure => simp [intOf]; omega
    · have hk : k = 256 := by omega
      go_wp2_with fail
      go_ret
      rw [hk, flatK_all] at hown
      exact ⟨256, rfl, hown, hb⟩

section
variable {ls C : List Int} {O : List Nat} {n a l : Int}
theorem dcP_first (hn : DcB n) (ha : DcB a) (hl : 0 ≤ l ∧ l ≤ 9) : ∃ d, dcP n a 0 l = numP false d 0 ∧ (-2047 ≤ d ∧ d ≤ 2047) ∧ tl a l true + d = tl n l true := by
  have h1 := tl_bd (n := n) l hn.1 hn.2 true
  have h2 := tl_bd (n := a) l ha.1 ha.2 true
  exact ⟨tl n l true - tl a l true, rfl, by omega, by omega⟩
theorem numP_dc (d : Int) : numP false d 0 = (false, ((szN d : Nat) : Int), exZ d, ((szN d : Nat) : Int)) := by
  unfold numP
  simp
theorem dc_okq (hS : Has ls O C 256) (hn : DcB n) (ha : DcB a) (hl : 0 ≤ l ∧ l ≤ 9) (h : Int) (hh : h = 0 ∨ h = l + 1) : OkQ ls [] (dcP n a h l) ∧ Pib (dcP n a h l) := by
  rcases hh with rfl | rfl
  · obtain ⟨d, hd, hb, _⟩ := dcP_first hn ha hl
    rw [hd]
    refine ⟨?_, numP_pib false d 0 (by omega)⟩
    have hs : szN d ≤ 11 := sz_le (by omega)
    have he := ex_bd (n := d) (by omega) (by omega)
    rw [numP_dc]
    unfold OkQ OkP
    simp only [Bool.false_eq_true, if_false]
    refine ⟨by omega, he.1, ?_, .inr (hS.hasL (by omega))⟩
    rw [Int.toNat_natCast]; exact Int.ediv_eq_zero_of_lt he.1 he.2
  · have hd : dcP n a (l + 1) l = (false, -1, tl n l true % 2, 1) := if_pos (by omega)
    have hm := Int.emod_nonneg (tl n l true) (show (2 : Int) ≠ 0 by decide)
    have hm2 := Int.emod_lt_of_pos (tl n l true) (show (0 : Int) < 2 by decide)
    rw [hd]
    unfold OkQ OkP Pib
    simp only [Bool.false_eq_true, if_false]
    generalize tl n l true % 2 = u at *
    refine ⟨⟨by omega, hm, ?_, .inl trivial⟩, by omega⟩
    show u / 2 = 0
    omega
theorem dc_first (hS : Has ls O C 256) (hn : DcB n) (ha : DcB a) (hl : 0 ≤ l ∧ l ≤ 9) (g : Int) {b T : List Int} (hb : B01 b) (he : b = flatQ ls C [] [] [dcP n a 0 l] ++ T) :
    ∃ m, rdD (sy O) (sz ls O) b g a 0 l = (tl n l true * 2 ^ l.toNat, m, 0) := by
  obtain ⟨d, hd, hbd, hsum⟩ := dcP_first hn ha hl
  rw [hd, flatQ_one', numP_dc, bitsQ_dc, List.append_assoc] at he
  have hs : szN d ≤ 11 := sz_le (by omega)
  have h0 : b.drop 0 = co ls C (szN d) ++ (digs true (exZ d) (szN d) ++ T) := he
  obtain ⟨hF, h3⟩ := sym_at hS hb (by omega) h0
  have hlen := sym_len hS (by omega) h0
  rw [List.drop_zero] at hF
  rw [Nat.zero_add] at h3 hlen
  obtain ⟨h4, h6⟩ : (b.drop (co ls C (szN d)).length).take (szN d) = digs true (exZ d) (szN d) ∧ (co ls C (szN d)).length + szN d ≤ b.length := by
    rcases num_at h3 with h | h
    · exact ⟨h.1, h.2.2⟩
    · exact ⟨by rw [h]; rfl, by omega⟩
  have hv : (tl a l true + vaZ (hv ((b.drop (co ls C (szN d)).length).take (szN d))) ((szN d : Nat) : Int)) * 2 ^ l.toNat = tl n l true * 2 ^ l.toNat := by
    rw [h4, num_bits (by omega) (by omega), hsum]
  exact ⟨_, rdD_go (by omega) hF (by omega) (by omega) hv (tl_low2 hn.1 hn.2 true)⟩
theorem tl_dcv (n l : Int) (hl : 0 ≤ l ∧ l ≤ 9) : tl n l true = n / 2 ^ l.toNat := by
  unfold tl
  rw [if_neg (by omega), if_pos (.inl rfl)]
theorem dc_next {u : Int} (hn : DcB n) (k : Nat) (hk : k + 1 ≤ 9) : tl n ((k + 1 : Nat) : Int) true * 2 ^ (k + 1) + tl n (k : Nat) true % 2 * 2 ^ k = tl n (k : Nat) true * 2 ^ k := by
  have h1 : tl n ((k + 1 : Nat) : Int) true = tl n (k : Nat) true / 2 := by
    rw [tl_dcv n _ (by omega), tl_dcv n _ (by omega), Int.toNat_natCast, Int.toNat_natCast, two_succ, Int.mul_comm, ← Int.ediv_ediv_of_nonneg (by have := two_pos k; omega)]
  rw [h1, two_succ]
  generalize tl n (k : Nat) true = v
  have h5 : v = 2 * (v / 2) + v % 2 := by omega
  generalize (2 : Int) ^ k = p
  calc v / 2 * (2 * p) + v % 2 * p = (2 * (v / 2) + v % 2) * p := by rw [Int.add_mul, ← Int.mul_assoc, Int.mul_comm (v / 2) 2]
    _ = v * p := by rw [← h5]
theorem dc_fine {k : Nat} (hn : DcB n) (hk : k + 1 ≤ 9) (b T : List Int) (he : b = flatQ ls C [] [] [dcP n a ((k : Int) + 1) k] ++ T) :
    rdD (sy O) (sz ls O) b (tl n ((k + 1 : Nat) : Int) true * 2 ^ (k + 1)) a ((k : Int) + 1) k = (tl n (k : Nat) true * 2 ^ k, 1, 0) := by
  have hd : dcP n a ((k : Int) + 1) k = (false, -1, tl n k true % 2, 1) := if_pos (by omega)
  have hm := Int.emod_two_eq (tl n k true)
  rw [hd, flatQ_one'] at he
  unfold bitsQ bitsP at he
  simp only [Bool.false_eq_true, if_false, if_true, List.nil_append] at he
  rw [show ((1 : Int).toNat) = 1 from rfl, digs_one true hm] at he
  unfold rdD
  rw [if_pos (by omega), he]
  simp only [List.singleton_append, List.length_cons, List.take_succ_cons, List.take_zero]
  rw [if_neg (by omega), Int.toNat_natCast, show hv [tl n k true % 2] = tl n k true % 2 from by simp [hv], dc_next (u := 0) hn k hk]
end
theorem preadDC_go {ls : List Int} {O : List Nat} {C : List Int} {w : World} {B p1 rp : Nat} {A : Option Addr} {c : Nat} {Bs : List Int} (hK : BkS w B p1 ls O C) (ho : Ordd ls O C) (hBr : B ≤ rp) (x : Re w rp true A c Bs 0) (hm : Bs.length ≤ 68719476736)
    (n a f t h l : Int) (hok : DcOk f t h l n a) (hmod : 0 < h → n % 2 ^ h.toNat = 0) {v : Int} {m : Nat} (hR : rdD (sy O) (sz ls O) (bitsOf true Bs) n a h l = (v, m, 0)) :
    Calls Try.prog 90 #[.pointer (some ⟨p1, 0, none⟩), .pointer (some ⟨rp, 0, none⟩), .int .i64 n, .int .i64 a, .agg #[.int .i64 f, .int .i64 t, .int .i64 h, .int .i64 l]] w fun e w' => e = .returned (.tuple #[.int .i64 v, .nilIface]) ∧ Fp rp w w' := by
  refine (preadDC_any (R := (v, m, 0)) hK ho hBr x hm n a f t h l hok hmod (by rw [List.drop_zero]; exact hR)).mono ?_
  rintro e w' ⟨m', rfl, _, _, hf⟩
  exact ⟨rfl, hf⟩
def DnR (n : Int) (L0 : Nat) (w5 : World) (got lv : Value) (wr : World) : Prop :=
  ∃ (k : Nat) (g l : Int), k ≤ L0 + 1 ∧ l = (k : Int) - 1 ∧ lv = .int .i64 l ∧ got = .int .i64 g ∧ (k = L0 + 1 ∧ g = 0 ∨ k ≤ L0 ∧ g = tl n k true * 2 ^ k) ∧ Below w5.heap.size w5 wr

set_option maxHeartbeats 16000000 in
theorem progDown_any (w : World) (n : Int) (hn : -9223372036854775808 ≤ n ∧ n ≤ 9223372036854775807) (a : Int) (ha : -9223372036854775808 ≤ a ∧ a ≤ 9223372036854775807) (low : Int) (hlow : -9223372036854775808 ≤ low ∧ low ≤ 9223372036854775807) :
    Calls Try.prog 21 #[.int .i64 n, .int .i64 a, .int .i64 low] w (RetT w) := by
  obtain ⟨L0, hk0, hL0⟩ : ∃ k0 : Nat, wrap64 ((IntKind.u64.wrap low).tmod 10) = (k0 : Int) ∧ k0 < 10 := by
    have h1 : 0 ≤ IntKind.u64.wrap low := by simp only [IntKind.wrap, IntKind.signed, IntKind.bits]; exact Int.emod_nonneg _ (by decide)
    rw [Int.tmod_eq_emod_of_nonneg h1]
    have h2 := Int.emod_nonneg (IntKind.u64.wrap low) (show (10 : Int) ≠ 0 by decide)
    have h3 := Int.emod_lt_of_pos (IntKind.u64.wrap low) (show (0 : Int) < 10 by decide)
    generalize IntKind.u64.wrap low % 10 = z at *
    rw [IntWalk.wrap64_in z ⟨by omega, by omega⟩]
    exact ⟨z.toNat, by omega, by omega⟩
  have hfo : ∀ q : Pc, List.foldl (fun (cs : Array Value) (x : Value × Nat) => cs.setIfInBounds x.2 x.1) #[.bool false, .int .i64 0, .int .i64 0, .int .i64 0] (pcV q).zipIdx = (pcV q).toArray := fun _ => rfl
  go_enter Try.func21, Try.ntmps21
  go_wp2_with fail
  refine (alive22_any w).mono ?_; rintro e w1 ⟨rfl, hb1⟩
  have hs1 := hb1.size
  by_cases h1 : DcB n
  · have D1 := Lib.hid (decide_eq_true h1)
    have H1 := Lib.hid h1
    clear h1
    go_wp2_with fail
    refine (rdc_any n w1).mono ?_; rintro e w' ⟨rfl, rfl⟩
    rw [D1.out]
    by_cases h2 : DcB a
    · have D2 := Lib.hid (decide_eq_true h2)
      have H2 := Lib.hid h2
      clear h2
      go_wp2_with fail
      refine (rdc_any a w1).mono ?_; rintro e w' ⟨rfl, rfl⟩
      rw [D2.out]
      go_upto_region 6 with fail
      rw [hk0]
      clear hk0
      go_wp2_with fail
      refine (all22_any w1).mono ?_; rintro e w2 ⟨cf, rfl, ho2, hb2⟩
      obtain ⟨Af, cf', hvf, hncf, hcmf, hRf⟩ := own_sliceN ho2
      cases hvf
      have hb2' := hb1.trans (hb2.mono hs1)
      have hs2 := hb2'.size
      go_wp2_with fail
      refine (newBookL_any _ 256 _ (flatL 256 8 0) w2 (flatL_len 256 8 0) hRf (flat_is (flat_fm.2 0 (by omega)))).mono ?_; rintro e w5 ⟨h2, -, hb5⟩
      obtain ⟨p1, C, rfl, hBk, hCd⟩ := h2 (flat_fm.2 0 (by omega))
      have hb5' := hb2'.trans (hb5.mono hs2)
      have hK := BkS.of hBk.bk
      have HS := Lib.hid (flat_has (flat_fm.2 0 (by omega)) hCd)
      have hs5 := hb5'.size
      clear ho2 hRf h2 hBk hCd hb1 hb2 hb5 hb2' hs1 hs2
      generalize flatL 256 8 0 = ls at *
      go_wp2_with fail
      go_loopw [9, 10] (DnR n L0 w5) (fun _ lv _ => (intOf lv + 1).toNat)
      case atStart => exact ⟨L0 + 1, 0, L0, Nat.le_refl _, by omega, rfl, rfl, .inl ⟨rfl, rfl⟩, Below.refl _ _⟩
      case round =>
        obtain ⟨k, g, l, hkl, hl, rfl, rfl, hg, hb⟩ := hrel
        obtain ⟨wi, rfl⟩ : ∃ wi : World, wi = wr := ⟨_, rfl⟩
        rcases k with _ | k
        · have dl : decide (0 ≤ l) = false := decide_eq_false (by omega)
          have hgn : g = n := by
            rcases hg with hg | hg
            · omega
            · rw [hg.2]; simp [tl]
          rw [hgn]
          have hbe := hb5'.trans (hb.mono hs5)
          clear hl hg hgn hb
          go_wp2_with fail
          go_ret
          exact ⟨ret_bool (by simp), hbe⟩
        · obtain rfl : l = (k : Int) := by omega
          have HG := Lib.hid hg
          have XB := Bln.new wi 107 [.int .i64 0, .int .i64 0, .int .i64 0, .int .i64 (k : Nat)]
          have hba : Below wi.heap.size wi (wi.alloc (.cells #[.int .i64 0, .int .i64 0, .int .i64 0, .int .i64 (k : Nat)] 107)) := (Below.refl _ _).alloc (Nat.le_refl _) _
          have hsi := hb.size
          clear hl hg
          have hkn : k ≤ 9 := by omega
          obtain ⟨hq, hhq⟩ : ∃ hq : Int, hq = if k < L0 then (k : Int) + 1 else 0 := ⟨_, rfl⟩
          have HHQ := Lib.hid hhq
          have hgd : Gd 0 0 hq k := by
            rw [hhq]; unfold Gd
            split <;> omega
          have HGD := Lib.hid hgd
          clear hhq hgd
          go_upto_region 14 with fail
          obtain ⟨bb, hbb⟩ : ∃ bb, bb = wi.heap.size := ⟨_, rfl⟩
          rw [← hbb] at XB
          have hbb1 : bb < (wi.alloc (.cells #[.int .i64 0, .int .i64 0, .int .i64 0, .int .i64 (k : Nat)] 107)).heap.size := XB.lt
          rw [← hbb]
          have HBB := Lib.hid hbb
          clear hbb
          generalize wi.alloc (.cells #[.int .i64 0, .int .i64 0, .int .i64 0, .int .i64 (k : Nat)] 107) = wb at *
          go_upto_if 45 with fail
          go_cut [11] from 45 to 49 (fun v wx => v = .pointer (some ⟨bb, 0, none⟩) ∧ Box4 wx bb (.int .i64 0) (.int .i64 0) (.int .i64 hq) (.int .i64 (k : Nat)) ∧ Below wi.heap.size wi wx)
          case first =>
            have f2 := XB.fz (i := 2) (show 2 < 4 by decide)
            have c2 := XB.cell (i := 2) (u := .int .i64 0) rfl
            by_cases hlt : k < L0
            · have dl : decide (k < L0) = true := decide_eq_true hlt
              have hh := HHQ.out
              rw [if_pos hlt] at hh
              have hba' := hba.setCell (p := ⟨bb, 2, none⟩) (by have := HBB.out; show wi.heap.size ≤ bb; omega) (.int .i64 ((k : Int) + 1))
              have XB' := XB.set 2 (.int .i64 ((k : Int) + 1))
              have HXB := Lib.hid (And.intro XB' (And.intro hba' hh))
              clear XB' hba' hh hlt
              rw [dl]
              go_wp2_with fail
              go_meet
              obtain ⟨XB', hba', hh⟩ := HXB.out
              rw [hh]
              exact ⟨rfl, ⟨by have := XB'.lt; simpa using this, XB'.cell (i := 0) rfl, XB'.cell (i := 1) rfl, XB'.cell (i := 2) rfl, XB'.cell (i := 3) rfl⟩, hba'⟩
            · have dl : decide (k < L0) = false := decide_eq_false hlt
              have hh := HHQ.out
              rw [if_neg hlt] at hh
              have HH := Lib.hid hh
              clear hlt hh
              rw [dl]
              go_wp2_with fail
              go_meet
              rw [HH.out]
              exact ⟨rfl, ⟨XB.lt, XB.cell (i := 0) rfl, XB.cell (i := 1) rfl, XB.cell (i := 2) rfl, XB.cell (i := 3) rfl⟩, hba⟩
          case rest =>
            obtain ⟨rfl, Y, hbc⟩ := hcut
            have hbc' := hb.trans (hbc.mono hsi)
            have hsc := hbc.size
            clear XB hba hbb1 hb hbc
            obtain ⟨_, x0, x1, x2, x3⟩ := id Y
            have hok : DcOk 0 0 hq k n a := ⟨HGD.out, rfl, H1.out, H2.out⟩
            have HOK := Lib.hid hok
            clear hok
            go_wp2_with fail
            refine (pdc_any n a 0 0 hq k hn wc).mono ?_; rintro e w6 ⟨hp1, -, hb6⟩
            obtain rfl := hp1 HOK.out
            have Y6 := Y.below hb6 Y.lt
            have hs6 := hb6.size
            have hb6' := hbc'.trans (hb6.mono (by omega))
            clear hp1 x0 x1 x2 x3 Y hb6 hbc'
            obtain ⟨q0, q1, q2, q3, hqq⟩ : ∃ q0 q1 q2 q3, dcP n a hq k = (q0, q1, q2, q3) := ⟨_, _, _, _, rfl⟩
            have HQ := Lib.hid hqq
            rw [hqq, show (pcV (q0, q1, q2, q3)).toArray = #[.bool q0, .int .i64 q1, .int .i64 q2, .int .i64 q3] from rfl]
            have Z0 := Box4.new w6 27 (.bool q0) (.int .i64 q1) (.int .i64 q2) (.int .i64 q3)
            have hba : Below w6.heap.size w6 (w6.alloc (.cells #[.bool q0, .int .i64 q1, .int .i64 q2, .int .i64 q3] 27)) := (Below.refl _ _).alloc (Nat.le_refl _) _
            have Y7 := Y6.below hba Y6.lt
            have hb7' := hb6'.trans (hba.mono (by omega))
            clear hqq
            go_upto_region 17 with fail
            generalize w6.alloc (.cells #[.bool q0, .int .i64 q1, .int .i64 q2, .int .i64 q3] 27) = w7 at *
            generalize w6.heap.size = zb at *
            have hs7 := hb7'.size
            have hzb := Z0.lt
            have hbb7 := Y7.lt
            clear Y6 hba hb6'
            go_wp2_with fail
            refine (newWriter_any true w7).mono ?_; rintro e w8 ⟨rfl, hW8, hb8⟩
            have Y8 := Y7.below hb8 Y7.lt
            have Z8 := Z0.below hb8 hzb
            have hb8' := hb7'.trans (hb8.mono hs7)
            have hs8 := hb8.size
            have hwp := hW8.blk.lt
            clear Y7 Z0 hb7' hb8
            obtain ⟨_, z0, z1, z2, z3⟩ := id Z8
            have hb9 : Below w8.heap.size w8 (w8.alloc (.cells #[.bool q0, .int .i64 q1, .int .i64 q2, .int .i64 q3] 27)) := (Below.refl _ _).alloc (Nat.le_refl _) _
            have hR9 : Rd (w8.alloc (.cells #[.bool q0, .int .i64 q1, .int .i64 q2, .int .i64 q3] 27)) (w8.alloc (.cells #[.bool q0, .int .i64 q1, .int .i64 q2, .int .i64 q3] 27)).heap.size (some ⟨w8.heap.size, 0, none⟩) (pcRows [(q0, q1, q2, q3)]) := by
              have h := Rd.newN w8 27 (pcV (q0, q1, q2, q3))
              have h2 : pcRows [(q0, q1, q2, q3)] = pcV (q0, q1, q2, q3) := by simp [pcRows]
              rw [h2]
              exact h.more (by simp)
            have Y9 := Y8.below hb9 Y8.lt
            have hW9 := hW8.below hb9
            have hb9' := hb8'.trans (hb9.mono (by omega))
            have hw9 : w8.heap.size < (w8.alloc (.cells #[.bool q0, .int .i64 q1, .int .i64 q2, .int .i64 q3] 27)).heap.size := by simp
            go_wp2_with fail
            generalize w8.alloc (.cells #[.bool q0, .int .i64 q1, .int .i64 q2, .int .i64 q3] 27) = w9 at *
            have hqk : hq = 0 ∨ hq = (k : Int) + 1 := by rw [HHQ.out]; split <;> simp
            have hokq := dc_okq HS.out H1.out H2.out (l := (k : Int)) (by omega) hq hqk
            rw [HQ.out] at hokq
            have hall : ∀ p ∈ [(q0, q1, q2, q3)], OkQ ls [] p := fun p hp => by rw [List.mem_singleton.1 hp]; exact hokq.1
            have hbk1 : BkO w9 w5.heap.size (some p1) ls (ordU ls 16) C := .inr ⟨p1, rfl, hK.keep hb9', HS.out.ord, HS.out.vl⟩
            refine (scanWrite_any hbk1 HS.out.all HS.out.vl (BkO.none_ w9 w5.heap.size) (fun s hs => by simp at hs) (fun x hx => by simp at hx) (by have := hb9'.size; omega) (by omega) (fun k hk => by simp [Value.ownBlock] at hk) hW9 (n := 1) (l := [(q0, q1, q2, q3)]) rfl hR9 (fun a ha => by
              injection ha with ha
              subst ha
              exact ⟨fun e => by simp only at e; omega, fun e => by simp [Value.ownBlock] at e⟩) (fun p hp => by rw [List.mem_singleton.1 hp]; exact hokq.2) (by omega) (by simp)).mono ?_; rintro e w10 ⟨he, v9, hW10, hT10⟩
            rw [goodQ_all hall, List.nil_append] at hW10
            rw [if_pos (goodQ_all hall)] at he
            subst he
            have hb10 := hT10.below (B := w7.heap.size) (Nat.le_refl _) (fun k hk => by simp [Value.ownBlock] at hk) (by omega)
            have Y10 := Y9.below hb10 hbb7
            have hb10' := hb9'.trans (hb10.mono hs7)
            have hbb10 := Y10.lt
            have hs10 := hb10'.size
            have hs10b := hb10.size
            have hLl := flatQ_len (C1 := C) (C2 := []) (ls1 := ls) (ls2 := []) HS.out.vl (fun x hx => by simp at hx) [(q0, q1, q2, q3)] hall
            obtain ⟨L, hLq⟩ : ∃ L, L = flatQ ls C [] [] [(q0, q1, q2, q3)] := ⟨_, rfl⟩
            rw [← hLq] at hW10 hLl
            have hL01 : B01 L := by rw [hLq]; exact flatQ_01 _ _ _ _ _
            simp only [List.length_cons, List.length_nil] at hLl
            have hnb : nby L.length ≤ 68719476736 := by unfold nby; omega
            have hpl : (pack true (full true L)).length = nby L.length := by rw [pack_len, full_len]; unfold nby; omega
            have hbp : bitsOf true (pack true (full true L)) = L ++ List.replicate (pad L.length) (fill1 true) := by
              rw [bitsOf_pack true (nby L.length) _ (full_01 hL01) (full_len true L)]; rfl
            have hbs : Bs (pack true (full true L)) := pack_bs (full_01 hL01)
            obtain ⟨Pk, hPk⟩ : ∃ P, P = pack true (full true L) := ⟨_, rfl⟩
            have hgb : DcB g := by
              rcases HG.out with h | h
              · rw [h.2]; unfold DcB; omega
              · have := tl_low2 (l := ((k + 1 : Nat) : Int)) H1.out.1 H1.out.2 true
                rw [Int.toNat_natCast] at this
                rw [h.2]; exact this
            have hmod : 0 < hq → g % 2 ^ hq.toNat = 0 := fun hp => by
              have hh := HHQ.out
              split at hh
              · rw [hh, show ((k : Int) + 1).toNat = k + 1 by omega]
                rcases HG.out with h | h
                · omega
                · rw [h.2]; exact Int.mul_emod_left _ _
              · omega
            have hrd : ∃ m, rdD (sy (ordU ls 16)) (sz ls (ordU ls 16)) (bitsOf true Pk) g a hq k = (tl n k true * 2 ^ k, m, 0) := by
              have hh := HHQ.out
              have hq2 := HQ.out
              rw [hPk, hbp, hLq, ← hq2]
              have h01 : B01 (flatQ ls C [] [] [dcP n a hq k] ++ List.replicate (pad (flatQ ls C [] [] [dcP n a hq k]).length) (fill1 true)) := by
                rw [hq2, ← hLq, ← hbp]; exact bitsOf_01 _ _
              split at hh
              · rcases HG.out with h | h
                · omega
                · rw [hh, h.2]
                  exact ⟨1, dc_fine H1.out (by omega) _ _ rfl⟩
              · rw [hh] at h01 ⊢
                obtain ⟨m, hm⟩ := dc_first HS.out H1.out H2.out (l := (k : Int)) (by omega) g h01 rfl
                rw [Int.toNat_natCast] at hm
                exact ⟨m, hm⟩
            obtain ⟨m0, hrd⟩ := hrd
            rw [← hPk] at hpl hbs
            have hpm : Pk.length ≤ 68719476736 := by rw [hpl]; exact hnb
            have hok2 : DcOk 0 0 hq k g a := ⟨HGD.out, rfl, hgb, H2.out⟩
            have HPK := Lib.hid hPk
            have HPL := Lib.hid hpl
            have HRD := Lib.hid hrd
            have HMD := Lib.hid hmod
            have HOK2 := Lib.hid hok2
            have HBS := Lib.hid hbs
            obtain ⟨gv, hgv⟩ : ∃ gv, gv = tl n k true * 2 ^ k := ⟨_, rfl⟩
            rw [← hgv] at HRD
            have HGV := Lib.hid hgv
            have hLs : L.length < 549755813888 := by omega
            have hWr : ∀ W : World, (Below w10.heap.size w10 W ∧ W.cell? ⟨bb, 0, none⟩ = some (.int .i64 0) ∧ W.cell? ⟨bb, 1, none⟩ = some (.int .i64 0) ∧ W.cell? ⟨bb, 2, none⟩ = some (.int .i64 hq) ∧ W.cell? ⟨bb, 3, none⟩ = some (.int .i64 (k : Nat))) → Wr W w7.heap.size true v9 L := fun W h => hW10.below h.1
            have hKk : ∀ W : World, (Below w10.heap.size w10 W ∧ W.cell? ⟨bb, 0, none⟩ = some (.int .i64 0) ∧ W.cell? ⟨bb, 1, none⟩ = some (.int .i64 0) ∧ W.cell? ⟨bb, 2, none⟩ = some (.int .i64 hq) ∧ W.cell? ⟨bb, 3, none⟩ = some (.int .i64 (k : Nat))) → BkS W w5.heap.size p1 ls (ordU ls 16) C := fun W h => hK.keep (hb10'.trans (h.1.mono hs10))
            have hQK : ∀ W W' : World, (Below w10.heap.size w10 W ∧ W.cell? ⟨bb, 0, none⟩ = some (.int .i64 0) ∧ W.cell? ⟨bb, 1, none⟩ = some (.int .i64 0) ∧ W.cell? ⟨bb, 2, none⟩ = some (.int .i64 hq) ∧ W.cell? ⟨bb, 3, none⟩ = some (.int .i64 (k : Nat))) → Below w10.heap.size W W' → (Below w10.heap.size w10 W' ∧ W'.cell? ⟨bb, 0, none⟩ = some (.int .i64 0) ∧ W'.cell? ⟨bb, 1, none⟩ = some (.int .i64 0) ∧ W'.cell? ⟨bb, 2, none⟩ = some (.int .i64 hq) ∧ W'.cell? ⟨bb, 3, none⟩ = some (.int .i64 (k : Nat))) := fun W W' h hb => by
              have h2 := h.1.trans hb
              exact ⟨h2, (h2.cell (p := ⟨bb, 0, none⟩) hbb10).trans Y10.c0, (h2.cell (p := ⟨bb, 1, none⟩) hbb10).trans Y10.c1, (h2.cell (p := ⟨bb, 2, none⟩) hbb10).trans Y10.c2, (h2.cell (p := ⟨bb, 3, none⟩) hbb10).trans Y10.c3⟩
            have HWR := Lib.hid hWr
            have HKK := Lib.hid hKk
            have HQK := Lib.hid hQK
            have HBN := Lib.hid (Below.refl w10.heap.size w10)
            obtain ⟨_, x0, x1, x2, x3⟩ := id Y10
            clear hPk hpl hbp hrd hmod hok2 hbs hgv hLq hb9 hb9' hb10 hbk1 hall hokq Y8 Y9 Z8 hW8 hW9 hT10 hR9 z0 z1 z2 z3 hgb
            go_upto_region 20 with fail
            go_cut [9, 13] from 67 to 77 (fun gx ex wx => gx = .int .i64 gv ∧ ex = .nilIface ∧ Below w10.heap.size w10 wx)
            case first =>
              clear hWr hKk hQK hW10 hK Y10 hb10'
              go_region_held3 (fun W => Below w10.heap.size w10 W ∧ W.cell? ⟨bb, 0, none⟩ = some (.int .i64 0) ∧ W.cell? ⟨bb, 1, none⟩ = some (.int .i64 0) ∧ W.cell? ⟨bb, 2, none⟩ = some (.int .i64 hq) ∧ W.cell? ⟨bb, 3, none⟩ = some (.int .i64 (k : Nat)))
                (first | exact ⟨HBN.out, x0, x1, x2, x3⟩ | exact ⟨Below.drew HBN.out, x0, x1, x2, x3⟩ | assumption | go_keep)
                (first | (go_at_call 67; refine (bytes_any w7.heap.size true v9 L _ (HWR.out _ (by assumption)) hLs).mono ?_; rintro e wq ⟨vq, rfl, hoq, hbq⟩; obtain ⟨Aq, cq, hvq, hRq⟩ := own_slice hoq; subst hvq; rw [← HPK.out] at hRq; have hq1 := HQK.out _ _ (by assumption) (hbq.mono (by have h9 := (by assumption : Below w10.heap.size w10 _ ∧ _).1.size; exact h9))) | (go_at_call 61; refine (newReader_any Aq (nby L.length) cq true Pk _ HPL.out hRq HBS.out hnb).mono ?_; rintro e wt ⟨rp, Ar, cr, rfl, hx7, hrp, hAr, hbt⟩; have hq2 := HQK.out _ _ (by assumption) (hbt.mono hq1.1.size)) | (go_at_call 90; refine (preadDC_go (HKK.out _ (by assumption)) HS.out.ord (by have h9 := hq1.1.size; omega) hx7 hpm g a 0 0 hq k HOK2.out HMD.out HRD.out).mono ?_; rintro e wu ⟨rfl, hfu⟩; have hq3 := HQK.out _ _ hq2 (hfu.below (by have h9 := hq1.1.size; omega) (by have h9 := hq2.1.size; omega))))
              all_goals go_wp2_with fail
              all_goals go_meet
              all_goals exact ⟨rfl, rfl, hq3.1⟩
            case rest =>
              obtain ⟨rfl, rfl, hbz⟩ := hcut
              have hbz' := hb10'.trans (hbz.mono hs10)
              have hkL : k ≤ L0 := by omega
              have HBZ := Lib.hid hbz'
              clear hWr hKk hQK hW10 Y10 hb10' x0 x1 x2 x3 hbz hbz'
              go_wp2_with fail
              go_roundw
              case rel => exact ⟨k, gv, (k : Int) - 1, by omega, rfl, rfl, rfl, .inr ⟨hkL, HGV.out⟩, HBZ.out⟩
              case measure => simp [intOf]
    · have D2 := Lib.hid (decide_eq_false h2)
      have H2 := Lib.hid h2
      clear h2
      go_wp2_with fail
      refine (rdc_any a w1).mono ?_; rintro e w' ⟨rfl, rfl⟩
      rw [D2.out]
      go_wp2_with fail
      go_ret
      exact ⟨rfl, hb1⟩
  · have D1 := Lib.hid (decide_eq_false h1)
    have H1 := Lib.hid h1
    clear h1
    go_wp2_with fail
    refine (rdc_any n w1).mono ?_; rintro e w' ⟨rfl, rfl⟩
    rw [D1.out]
    go_wp2_with fail
    go_ret
    exact ⟨rfl, hb1⟩
namespace ProgDown
set_option maxRecDepth 100000 in
theorem contract (H : Type) (enc : TypeId × Value → H) (W : World) (base : Nat) (args : Array Value) (ds gs : List (DataW H)) (before : List MemPlace)
    (hval : ∀ (j : Nat) t v, Try.f21.params[j]? = some t → args[j]? = some v → Value.okWide Try.prog W .any base t v)
    (hW : DataW.Whole enc Try.prog Try.f21.params.toList Rows.progDownSpec.vars false W args.toList ds gs before) :
    Calls Try.prog 21 args W fun e W' => ∃ v, e = .returned v ∧ Rows.progDownSpec.post enc Try.prog Try.f21 false true false false W args v W' := by
  have hW' := hW
  obtain ⟨p, q, hA0, hV, rfl, hfz, hnd⟩ := hW
  have hA : DataW.TrodAll enc Try.prog W 0 (fun _ => true) true Try.f21.params.toList args.toList ds p := hA0
  rw [Try.params21] at hA hval
  clear hA0
  obtain ⟨v0, vs0, d0, ds0, p0, q0, hargs, rfl, rfl, h0, r0⟩ := trodAll_cons hA
  obtain ⟨v1, vs1, d1, ds1, p1, q1, rfl, rfl, rfl, h1, r1⟩ := trodAll_cons r0
  obtain ⟨v2, vs2, d2, ds2, p2, q2, rfl, rfl, rfl, h2, r2⟩ := trodAll_cons r1
  obtain ⟨rfl, rfl, rfl⟩ := trodAll_nil r2
  obtain rfl : args = #[v0, v1, v2] := by cases args; simp_all
  obtain ⟨rfl, rfl⟩ := trodVars_none hV
  obtain ⟨x0, rfl, rfl, rfl, wx0⟩ := open_int Try.underlying3 (hval 0 _ _ rfl rfl) h0
  obtain ⟨x1, rfl, rfl, rfl, wx1⟩ := open_int Try.underlying3 (hval 1 _ _ rfl rfl) h1
  obtain ⟨x2, rfl, rfl, rfl, wx2⟩ := open_int Try.underlying3 (hval 2 _ _ rfl rfl) h2
  refine (progDown_any W x0 (wf_i wx0) x1 (wf_i wx1) x2 (wf_i wx2)).mono fun e W' ⟨he, hb⟩ => ?_
  subst he
  exact ⟨_, rfl, post_true Facts.laid hW' rfl rfl Try.underlying4 (by kernel_rfl) rfl hb⟩

set_option maxRecDepth 100000 in
theorem lifted (os : Os) (started : os.Started) (H : Type) (enc : TypeId × Value → H) :
    ReturnsInHanded {} Try.checked os 21 .any (Rows.progDownSpec.pre6 enc Try.prog Try.f21 Rows.progDownRow.domain false) (Rows.progDownSpec.post enc Try.prog Try.f21 false true false false) := by
  refine returnsInHanded_of_change (C := Try.checked) Facts.own started (by kernel_rfl) Try.func21
    (ChangeSpec.witness6 (enc := enc) (C := Try.checked) (os := os) false ⟨#[], #[.int .i64 0, .int .i64 0, .int .i64 0], []⟩ 8 (by kernel_rfl) (by kernel_rfl) (by kernel_rfl) (by kernel_rfl)) ?_
  intro W base args ds gs before hval hW _ _
  exact contract H enc W base args ds gs before hval hW

theorem k_wf : Rows.progDownRow.wf (OpenSpec.ofChange Rows.progDownSpec) = true := by kernel_rfl
theorem k_inp : (Rows.progDownRow.inPlace == Try.prog.inPlace 21) = true := by kernel_rfl
theorem k_unf : (Rows.progDownRow.unfollowed == Try.prog.unfollowed 21) = true := by kernel_rfl
theorem k_rec : (Rows.progDownRow.recurses == Try.prog.recurses 21) = true := by kernel_rfl
theorem k_nam : (Rows.progDownRow.named == Try.prog.varsNamed 21) = true := by kernel_rfl
theorem k_pk : (Rows.progDownRow.plainKeys == Try.prog.plainKeys) = true := (congrArg (fun x => Rows.progDownRow.plainKeys == x) Facts.plainKeys).trans (by kernel_rfl)
theorem k_lf : (Rows.progDownRow.lifted == Try.prog.liftsFinal) = true := (congrArg (fun x => Rows.progDownRow.lifted == x) Facts.liftsFinal).trans (by kernel_rfl)
theorem k_mk : (Try.prog.make == some Rows.progDownRow.make) = true := (congrArg (fun x => x == some Rows.progDownRow.make) Facts.make).trans (by kernel_rfl)
theorem k_par : (Try.f21.params.all (Try.prog.readableRec ·)) = true := by kernel_rfl
theorem k_maps : (Rows.progDownRow.maps == (Try.f21.params.toList ++ Rows.progDownSpec.plain.varTypes Try.prog).any (Try.prog.mapsRec ·)) = true := by kernel_rfl
theorem k_ifs : (Rows.progDownRow.ifaces == (Try.f21.params.toList ++ Rows.progDownSpec.plain.varTypes Try.prog).any (Try.prog.ifacesRec ·)) = true := by kernel_rfl
theorem k_lps : (Rows.progDownRow.loops == (Try.f21.params.toList ++ Rows.progDownSpec.plain.varTypes Try.prog).any (Try.prog.loopsFrom ·)) = true := by kernel_rfl
theorem k_wk : (Rows.progDownRow.wideKeys == (Try.f21.params.toList ++ Rows.progDownSpec.plain.varTypes Try.prog ++ Try.f21.resultTypes.toList).any (Try.prog.wideKeysFrom ·)) = true := by kernel_rfl
theorem k_vl : (Rows.progDownRow.veiled == (Try.f21.params.toList ++ Rows.progDownSpec.plain.varTypes Try.prog ++ Try.f21.resultTypes.toList).any (Try.prog.veiledRec ·)) = true := by kernel_rfl
theorem closed : joinedFacts Try.prog 21 Try.f21 Rows.progDownSpec Rows.progDownRow = true :=
  Facts.and_i (Facts.and_i (Facts.and_i (Facts.and_i (Facts.and_i (Facts.and_i (Facts.and_i (Facts.and_i (Facts.and_i (Facts.and_i (Facts.and_i (Facts.and_i (Facts.and_i (Facts.and_i (Facts.and_i (Facts.and_i (Facts.and_i (Facts.and_i (Facts.and_i (Facts.and_i (Facts.and_i (Facts.and_i (Facts.and_i (Facts.and_i (Facts.and_i (Facts.and_i (Facts.and_i (Facts.and_i (Facts.and_i (Facts.and_i (Facts.and_i
    k_wf Facts.laid) Facts.mapsRowed_) k_par) rfl) rfl) Facts.stops) rfl) Facts.stopKnobs) k_inp) k_unf) k_rec) k_nam) k_maps) k_ifs) (by kernel_rfl)) k_lps) k_wk) rfl) (by kernel_rfl)) (by kernel_rfl)) (by kernel_rfl)) k_pk) rfl) Facts.stopsHeard) Facts.mayEnter) k_lf) k_mk) (by kernel_rfl)) (by kernel_rfl)) k_vl) (by kernel_rfl)
theorem named : Try.prog.funcNamed Rows.progDownRow.func = some 21 := by kernel_rfl

theorem proved : Rows.ProgDownSaid :=
  OpenClaim.holds_of_wide 21 Try.f21 rfl rfl rfl rfl rfl rfl rfl ⟨rfl, rfl, rfl, rfl, rfl⟩ rfl rfl rfl rfl rfl named Try.func21 closed
    (of_decide_eq_true (by kernel_rfl)) (by unfold Func.isWrapper; first | (rw [if_pos (by decide +kernel)]; kernel_rfl) | (rw [if_neg (by decide +kernel)]; exact ⟨rfl, rfl⟩))
    (fun os started H enc _ => lifted os started H enc)
end ProgDown
#print axioms ProgDown.proved
end Go.Proofs.Ytlhappecjjbopaa
