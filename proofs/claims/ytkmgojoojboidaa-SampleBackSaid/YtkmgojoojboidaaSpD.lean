/-
  SamplePacks: which row any numbers have. No condition.
-/
import Derived.Test.YtkmgojoojboidaaSpC
import Derived.Test.YtkmgojoojboidaaSpA
import Derived.Test.YtkmgojoojboidaaBiS
import Derived.Test.YtkmgojoojboidaaFacts
namespace Go.Proofs.Ytkmgojoojboidaa
open Go.ChangeShapes Go.WideShapes Go.ChangeAt Go.WideMaps Go.WideElems Go.RowKit Go.Joins
set_option linter.unusedVariables false
set_option maxRecDepth 100000

theorem topD_is {D : Nat} (h : Dp D) : topD D = 2 ^ D - 1 := by
  have h1 := h
  unfold Dp at h1
  have h2 : D = 1 ∨ D = 2 ∨ D = 4 ∨ D = 8 ∨ D = 16 := by omega
  rcases h2 with rfl | rfl | rfl | rfl | rfl <;> decide
theorem Gx_iff {D : Nat} {x : Int} (h : Dp D) (hx : 0 ≤ x) : Gx D x ↔ x ≤ topD D := by
  rw [topD_is h]
  have h2 := two_pos D
  constructor
  · intro hg; have := hg.lt; omega
  · intro hl; exact ⟨hx, Int.ediv_eq_zero_of_lt hx (by omega)⟩

set_option maxHeartbeats 1000000 in
theorem rpack_form (A : Option Addr) (n c : Nat) (d : Int) (w : World) (hb : ¬ (Dp d ∧ n ≤ 1048576)) : 
    Calls Try.prog 52 #[.slice A n c, .int .i64 d] w fun e w' => e = .returned (.tuple #[.slice none 0 0, .int .i64 6]) ∧ w = w' := by
  by_cases h1 : Dp d
  · have h2 : 1048576 < n := by
      rcases Nat.lt_or_ge 1048576 n with h | h
      · exact h
      · exact absurd ⟨h1, h⟩ hb
    clear hb
    go_enter Try.func52, Try.ntmps52
    go_wp2_with (go_at_call 23; refine (rdeep_is d true (decide_eq_true h1) _).mono ?_; rintro e w1 ⟨rfl, rfl⟩)
    go_ret2
    exact ⟨rfl, rfl⟩
  · clear hb
    go_enter Try.func52, Try.ntmps52
    go_wp2_with (go_at_call 23; refine (rdeep_is d false (decide_eq_false h1) _).mono ?_; rintro e w1 ⟨rfl, rfl⟩)
    go_ret2
    exact ⟨rfl, rfl⟩

def RPacked (B : Nat) (n D : Nat) (l : List Int) (w : World) (e : Ending) (w' : World) : Prop :=
  ((∀ x ∈ l, Gx D x) → ∃ v, e = .returned (.tuple #[v, .int .i64 0]) ∧ w'.ownsRow B 5 1 v (nby (n * D)) (bv (pack true (fz (flt D l))))) ∧
  (¬ (∀ x ∈ l, Gx D x) → e = .returned (.tuple #[.slice none 0 0, .int .i64 7])) ∧ Below B w w'

set_option maxHeartbeats 4000000 in
theorem rpack_any (A : Option Addr) (n c D : Nat) (l : List Int) (w : World) (hn : l.length = n) (hR : Rd w w.heap.size A (iv l)) (hI : Is l) (hg : Dp D ∧ n ≤ 1048576) :
    Calls Try.prog 52 #[.slice A n c, .int .i64 D] w (RPacked w.heap.size n D l w) := by
  obtain ⟨i0, hi, hz0, hz1, hz2⟩ := info_parts Try.info_int
  obtain ⟨h1, h2⟩ := hg
  have hd := h1.bd'
  have HN := Lib.hid hn
  have hGI := fun x hx => @Gx_iff D x h1 hx
  have HGI := Lib.hid hGI
  clear hn hGI
  go_enter Try.func52, Try.ntmps52
  go_wp2_with (go_at_call 23; refine (rdeep_is D true (decide_eq_true h1) _).mono ?_; rintro e w1 ⟨rfl, rfl⟩)
  go_loopw [6, 7] (fun v i wr => ∃ k : Nat, k ≤ n ∧ i = .int .i64 k ∧ Hid (∀ x ∈ l.take k, Gx D x) ∧ wr.ownsRow w.heap.size 3 1 v (flt D (l.take k)).length (iv (flt D (l.take k))) ∧ Below w.heap.size w wr) (fun _ i _ => n - (intOf i).toNat)
  case atStart => exact ⟨0, Nat.zero_le _, rfl, Lib.hid (by simp), World.ownsRow_nil _ _ _ _, Below.refl _ _⟩
  case round =>
    obtain ⟨k, hk, rfl, HG, hown, hb⟩ := hrel
    by_cases hlt : k < n
    · obtain ⟨b, off, rfl, _, hcell⟩ := (hR.below hb).at_ (k := k) (by rw [iv_len, HN.out]; exact hlt)
      have hc := hcell k _ (ivs_get (by rw [HN.out]; exact hlt))
      have hin : l.getD k 0 ∈ l := by rw [List.getD_eq_getElem?_getD, List.getElem?_eq_getElem (by rw [HN.out]; exact hlt)]; exact List.getElem_mem _
      have hxb := hI _ hin
      have hft := flt_take D l k (by rw [HN.out]; exact hlt)
      have htk : l.take (k + 1) = l.take k ++ [l.getD k 0] := by
        rw [List.take_add_one, List.getElem?_eq_getElem (by rw [HN.out]; exact hlt), List.getD_eq_getElem?_getD, List.getElem?_eq_getElem (by rw [HN.out]; exact hlt)]; rfl
      have HFT := Lib.hid hft
      have HTK := Lib.hid htk
      have HIN := Lib.hid hin
      have hlk : (flt D (l.take k)).length ≤ 16777216 := by
        rw [flt_len, List.length_take, HN.out]
        calc min k n * D ≤ 1048576 * 16 := Nat.mul_le_mul (by omega) (by omega)
          _ = 16777216 := rfl
      clear hcell hft htk hin
      generalize l.getD k 0 = x at *
      have hsz := hb.size
      have hk0 : (0 : Int) ≤ (k : Int) := by omega
      have hk1 : (k : Int) < (n : Int) := by omega
      by_cases hx0 : x < 0
      · have hnall : ¬ (∀ x ∈ l, Gx D x) := fun h => by have := (h x HIN.out).1; omega
        have HNA := Lib.hid hnall
        have hdx : decide (x < 0) = true := by simpa using hx0
        clear hnall
        go_wp2
        go_quiet (fail)
        go_wp2
        go_ret2
        exact ⟨fun h => absurd h HNA.out, fun _ => rfl, below_drewN hb _⟩
      · have hdx : decide (x < 0) = false := by simpa using hx0
        by_cases hg : Gx D x
        · have hle : x ≤ topD D := (HGI.out x (by omega)).1 hg
          have hdt : decide (topD (D : Int) < x) = false := by simp; omega
          have hx2 := hg.lt
          have hx3 : x ≤ 65536 := by
            have : (2 : Int) ^ D ≤ 2 ^ 16 := by
              have := Nat.pow_le_pow_right (show 0 < 2 by omega) (show D ≤ 16 by omega)
              rw [← two_cast, ← two_cast]; omega
            omega
          have HGX := Lib.hid hg
          have hdl : (iv (digs true x D)).length = D := by rw [iv_len, digs_len]
          have HD := Lib.hid hdl
          have hfl2 : (flt D (l.take (k + 1))).length = (flt D (l.take k)).length + D := by rw [HFT.out, List.length_append, digs_len]
          have HF2 := Lib.hid hfl2
          clear hg hdl hx2 hfl2
          go_wp2
          go_quiet ((go_at_call 25; exact quiet_l (top_any D h1 _)))
          clear hle hdt
          have hownd := own_keep hown (below_drewN (Below.refl wr.heap.size wr) nq)
          have hbd := below_drewN hb nq
          have hcd : (wr.drewN nq).cell? ⟨b, off + k, none⟩ = some (.int .i64 x) := hc
          have hszd := hbd.size
          generalize wr.drewN nq = wd at *
          clear hown hb hc hsz
          go_wp2_with (first
            | (go_at_call 35; refine (digits_any x D true (by omega) (by omega) _).mono ?_; rintro e w3 ⟨v3, rfl, ho3, hb3⟩; have hown3 := own_keep hownd hb3; have hb3' := hbd.trans (hb3.mono hszd); obtain ⟨A3, c3, rfl, hR3⟩ := own_slice ho3)
            | (at_builtin; refine wpList_app2 _ rfl (.tmp 36) (.tmp 42) 43 rfl Try.underlying43 hi hz0 hz1 hz2 rfl hown3 rfl rfl hR3 HD.out (one_iv _) (by omega) (by omega) hb3'.size ?_; intro v4 w4 hown4 hg4; have hb4 : Below w.heap.size w w4 := below_app2 hb3' hown3 hg4 (Nat.le_refl _) hb3'.size))
          go_roundw
          case rel => exact ⟨k + 1, by omega, by go_num, Lib.hid (by
            rw [HTK.out]; intro y hy
            rcases List.mem_append.1 hy with hy | hy
            · exact HG.out y hy
            · simp at hy; rw [hy]; exact HGX.out), by rw [HF2.out, HFT.out, iv_app]; exact hown4, hb4⟩
          case measure => simp [intOf]; omega
        · have hle : ¬ x ≤ topD D := fun h => hg ((HGI.out x (by omega)).2 h)
          have hdt : decide (topD (D : Int) < x) = true := by simp; omega
          have hnall : ¬ (∀ x ∈ l, Gx D x) := fun h => hg (h x HIN.out)
          have HNA := Lib.hid hnall
          clear hnall hg
          go_wp2
          go_quiet ((go_at_call 25; exact quiet_l (top_any D h1 _)))
          go_wp2
          go_ret2
          exact ⟨fun h => absurd h HNA.out, fun _ => rfl, below_drewN hb _⟩
    · have hall : ∀ x ∈ l, Gx D x := by
        have h := HG.out
        rwa [List.take_of_length_le (by rw [HN.out]; omega)] at h
      rw [List.take_of_length_le (by rw [HN.out]; omega)] at hown
      have HA := Lib.hid hall
      have hLl : (flt D l).length = n * D := by rw [flt_len, HN.out]
      have hll : (flt D l).length ≤ 16777216 := by
        rw [hLl]
        calc n * D ≤ 1048576 * 16 := Nat.mul_le_mul (by omega) (by omega)
          _ = 16777216 := rfl
      have hL01 := flt_01 D l
      have HLL := Lib.hid hLl
      have hnbl : nby (flt D l).length ≤ 2097153 := by unfold nby; omega
      clear hall hLl HG
      generalize hLe : flt D l = L at *
      have HLE := Lib.hid hLe
      clear hLe
      go_wp2
      go_loopg [6] (pad L.length) (fun g v wr => ∃ j, j + g = pad L.length ∧ wr.ownsRow w.heap.size 3 1 v (L ++ List.replicate j 0).length (iv (L ++ List.replicate j 0)) ∧ Below w.heap.size w wr)
      case atStart => exact ⟨0, by omega, by simpa using hown, hb⟩
      case round =>
        obtain ⟨j, hj, hown', hb'⟩ := hrel
        clear hown hb
        obtain ⟨m, hm⟩ : ∃ m, m = (L ++ List.replicate j 0).length := ⟨_, rfl⟩
        rw [← hm] at hown'
        have hm2 : m = L.length + j := by rw [hm]; simp
        have hjp : j ≤ pad L.length ∧ pad L.length ≤ 7 ∧ (L.length + pad L.length) % 8 = 0 := by unfold pad at *; omega
        have hj1 : j + gk ≤ pad L.length ∧ pad L.length ≤ j + gk := by omega
        have hm3 : m ≤ L.length + j ∧ L.length + j ≤ m := by omega
        have HM := Lib.hid hm
        clear hm hm2 hj
        have hsz := hb'.size
        obtain ⟨Aw, cw, rfl, hRw⟩ := own_slice hown'
        by_cases hg0 : gk = 0
        · have h8 : ((m : Int) % 8 != 0) = false := by simp; omega
          have hjl : j = pad L.length := by omega
          have hfz : L ++ List.replicate j 0 = fz L := by rw [hjl]; rfl
          rw [hfz] at hRw
          have hfl := fz_len L
          have HMF : Hid ((fz L).length = m) := Lib.hid (by rw [HM.out, hfz])
          have hnb : nby m = nby (n * D) := by rw [← HMF.out, hfl, nby_nby, HLL.out]
          have HNB := Lib.hid hnb
          have hml : m ≤ 1073741824 := by omega
          clear hjl hfz hfl hnb hg0
          go_wp2_with (go_at_call 37; refine (rbytes_any Aw m cw (fz L) true _ HMF.out hRw (fz_01 hL01) hml).mono ?_; rintro e w5 ⟨v5, rfl, ho5, hb5⟩)
          go_ret2
          refine ⟨fun _ => ⟨v5, rfl, ?_⟩, fun h => absurd HA.out h, hb'.trans (hb5.mono hsz)⟩
          rw [HNB.out, fz_full] at ho5
          rw [HLE.out]
          exact own_base ho5 (fun i hi => Nat.le_trans hsz (ho5.lt i hi).1)
        · have h8 : ((m : Int) % 8 != 0) = true := by simp; unfold pad at *; omega
          have hsn : L ++ List.replicate (j + 1) 0 = L ++ List.replicate j 0 ++ [0] := by
            rw [List.append_assoc, List.replicate_succ']
          have hsnl : (L ++ List.replicate (j + 1) 0).length = m + 1 := by rw [hsn, List.length_append, ← HM.out]; rfl
          have HS := Lib.hid hsn
          have HSL := Lib.hid hsnl
          have hown6 := hown'.alloc (.cells #[Value.int .i64 0] 3)
          have hb6 := hb'.alloc hsz (.cells #[Value.int .i64 0] 3)
          have hsz6 := hb6.size
          clear hsn hsnl
          go_wp2_with (at_builtin; refine wpList_app2 _ rfl (.tmp 48) (.tmp 49) 43 rfl Try.underlying43 hi hz0 hz1 hz2 rfl hown6 rfl rfl (Rd.new1 _ _ _) rfl (by simp [Value.oneCell']) (by omega) (by omega) hsz6 ?_; intro v7 w7 hown7 hg7)
          go_roundg (gk - 1)
          case measure => omega
          case rel => exact ⟨j + 1, by omega, by rw [HSL.out, HS.out, iv_app]; exact hown7, below_app2 hb6 hown6 hg7 (Nat.le_refl _) hsz6⟩
end Go.Proofs.Ytkmgojoojboidaa
