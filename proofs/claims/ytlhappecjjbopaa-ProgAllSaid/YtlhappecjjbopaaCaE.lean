/-
  The document's answer for codes: plain laws of their bits; Free, plus, number, by contracts. No condition beyond the range that each names.
  The document's codes: List, Codes, by contracts. Conditions: at most 600 symbols.
  The document's codes: Codes, by a contract; they are the codes of the lengths. No condition.
-/
import Derived.Test.YtlhappecjjbopaaCaB
import Derived.Test.YtlhappecjjbopaaLib
import Derived.Test.YtlhappecjjbopaaBiS
import Derived.Deep.CutRange
namespace Go.Proofs.Ytlhappecjjbopaa
open Go.RowKit
set_option linter.unusedVariables false
set_option maxRecDepth 100000

theorem hv_app (a b : List Int) : hv (a ++ b) = hv a * 2 ^ b.length + hv b := by
  induction a with
  | nil => simp [hv]
  | cons x a ih =>
    show x * 2 ^ (a ++ b).length + hv (a ++ b) = (x * 2 ^ a.length + hv a) * 2 ^ b.length + hv b
    rw [ih, List.length_append, Int.pow_add, Int.add_mul, ← Int.mul_assoc]; omega
theorem hv_ones (k : Nat) : hv (List.replicate k 1) = 2 ^ k - 1 := by
  induction k with
  | zero => rfl
  | succ k ih => rw [List.replicate_succ', hv_snoc, ih, two_succ]; omega
theorem hv_zero (k : Nat) : hv (List.replicate k 0) = 0 := by
  induction k with
  | zero => rfl
  | succ k ih => rw [List.replicate_succ', hv_snoc, ih]; rfl
theorem hv_plus (a : List Int) (k : Nat) : hv (a ++ 1 :: List.replicate k 0) = hv (a ++ 0 :: List.replicate k 1) + 1 := by
  rw [hv_app, hv_app]
  show _ + (1 * 2 ^ (List.replicate k (0 : Int)).length + hv (List.replicate k 0)) = _ + (0 * 2 ^ (List.replicate k (1 : Int)).length + hv (List.replicate k 1)) + 1
  rw [hv_zero, hv_ones]
  simp only [List.length_cons, List.length_replicate]; omega
/-- a list of bits is its number's bits -/
theorem digs_hv {l : List Int} (h : B01 l) : digs true (hv l) l.length = l := by
  have := digs_part true l.length l h rfl
  unfold part at this
  simpa using this
theorem hv_digs (c : Int) (n : Nat) (h : 0 ≤ c ∧ c < 2 ^ n) : hv (digs true c n) = c := by
  have := digs_val true n c h.1 h.2
  unfold part at this
  simpa [digs_len] using this
theorem digs_pad (x : Int) (l d : Nat) (h : 0 ≤ x ∧ x < 2 ^ l) : digs true (x * 2 ^ d) (l + d) = digs true x l ++ List.replicate d 0 := by
  have h1 : B01 (digs true x l ++ List.replicate d 0) := (digs_01 true x l).app (B01.rep d (.inl rfl))
  have h2 := digs_hv h1
  rw [hv_app, hv_zero, hv_digs x l h, List.length_append, digs_len, List.length_replicate, Int.add_zero] at h2
  exact h2

/-! codes of sizes in an order -/
def acc (Z : List Int) (i : Nat) : Int := su ((Z.take i).map wt)
def cb (Z : List Int) (i : Nat) : List Int := digs true (acc Z i / wt (Z.getD i 0)) (Z.getD i 0).toNat
structure Zs (Z : List Int) : Prop where
  rng : ∀ z ∈ Z, 1 ≤ z ∧ z ≤ 16
  srt : Z.Pairwise fun a b => a ≤ b
  sum : su (Z.map wt) ≤ 65536
theorem acc_succ (Z : List Int) (i : Nat) (h : i < Z.length) : acc Z (i + 1) = acc Z i + wt (Z.getD i 0) := by
  unfold acc
  rw [take_add h, List.map_append, su_app]; simp [su]
theorem acc_mono {Z : List Int} (hz : Zs Z) {i j : Nat} (h : i ≤ j) : acc Z i ≤ acc Z j := by
  unfold acc
  have h1 : Z.take j = Z.take i ++ (Z.take j).drop i := by
    have := List.take_append_drop i (Z.take j)
    rw [List.take_take, Nat.min_eq_left h] at this
    exact this.symm
  rw [h1, List.map_append, su_app]
  have : 0 ≤ su (((Z.take j).drop i).map wt) := su_nn (fun x hx => by
    obtain ⟨s, hs, rfl⟩ := List.mem_map.1 hx
    exact wt_nn (hz.rng s (List.mem_of_mem_take (List.mem_of_mem_drop hs))).2)
  omega
theorem acc_le {Z : List Int} (hz : Zs Z) (i : Nat) : 0 ≤ acc Z i ∧ acc Z i ≤ 65536 := by
  have h1 := acc_mono hz (Nat.zero_le i)
  have h2 := acc_mono hz (Nat.le_add_right i Z.length)
  have h3 : acc Z (i + Z.length) = su (Z.map wt) := by unfold acc; rw [List.take_of_length_le (by omega)]
  have h4 : acc Z 0 = 0 := rfl
  have := hz.sum
  omega
theorem wt_mul {a b : Int} (ha : 1 ≤ a ∧ a ≤ b) (hb : b ≤ 16) : wt a = 2 ^ (b - a).toNat * wt b := by
  rw [wt_pos (by omega), wt_pos (by omega), ← Int.pow_add]; congr 1; omega
theorem acc_dvd {Z : List Int} (hz : Zs Z) (i : Nat) (h : i < Z.length) : acc Z i / wt (Z.getD i 0) * wt (Z.getD i 0) = acc Z i := by
  have hzi := hz.rng _ (getD_in h)
  have hall : ∀ z ∈ Z.take i, 1 ≤ z ∧ z ≤ Z.getD i 0 := fun z hm => by
    obtain ⟨j, hj, he⟩ := List.getElem_of_mem hm
    rw [List.length_take] at hj
    have := (List.pairwise_iff_getElem.1 hz.srt) j i (by omega) h (by omega)
    rw [List.getElem_take] at he
    rw [he] at this
    refine ⟨(hz.rng z (List.mem_of_mem_take hm)).1, ?_⟩
    rw [List.getD_eq_getElem?_getD, List.getElem?_eq_getElem h]; exact this
  have hd : ∃ q, acc Z i = q * wt (Z.getD i 0) := by
    unfold acc
    generalize Z.take i = T at *
    clear h
    induction T with
    | nil => exact ⟨0, by simp [su]⟩
    | cons z T ih =>
      obtain ⟨q, hq⟩ := ih (fun y hy => hall y (by simp [hy]))
      refine ⟨2 ^ (Z.getD i 0 - z).toNat + q, ?_⟩
      show wt z + su (T.map wt) = _
      rw [hq, wt_mul (hall z (by simp)) hzi.2, Int.add_mul]
  obtain ⟨q, hq⟩ := hd
  have hw : 1 ≤ wt (Z.getD i 0) := by rw [wt_pos (by omega)]; exact two_pos _
  rw [hq, Int.mul_ediv_cancel _ (by omega)]
theorem cb_len (Z : List Int) (i : Nat) : (cb Z i).length = (Z.getD i 0).toNat := digs_len _ _ _
theorem cb_01 (Z : List Int) (i : Nat) : B01 (cb Z i) := digs_01 _ _ _
theorem wt_two {z : Int} (hz : 1 ≤ z ∧ z ≤ 16) : 2 ^ z.toNat * wt z = 65536 := by
  rw [wt_pos (by omega), ← Int.pow_add, show z.toNat + (16 - z.toNat) = 16 by omega]; rfl
theorem cb_hv {Z : List Int} (hz : Zs Z) (i : Nat) (h : i < Z.length) : hv (cb Z i) = acc Z i / wt (Z.getD i 0) ∧ 0 ≤ acc Z i / wt (Z.getD i 0) ∧ acc Z i / wt (Z.getD i 0) + 1 ≤ 2 ^ (Z.getD i 0).toNat := by
  have hzi := hz.rng _ (getD_in h)
  have hd := acc_dvd hz i h
  have h1 := acc_le hz i
  have h2 := acc_le hz (i + 1)
  rw [acc_succ Z i h] at h2
  have hw : 1 ≤ wt (Z.getD i 0) := by rw [wt_pos (by omega)]; exact two_pos _
  have ht := wt_two hzi
  unfold cb
  generalize wt (Z.getD i 0) = W at *
  have hq0 : 0 ≤ acc Z i / W := Int.ediv_nonneg h1.1 (by omega)
  have hq1 : acc Z i / W + 1 ≤ 2 ^ (Z.getD i 0).toNat := by
    rcases Int.lt_or_le (2 ^ (Z.getD i 0).toNat) (acc Z i / W + 1) with h | h
    · have h3 : (2 ^ (Z.getD i 0).toNat + 1) * W ≤ (acc Z i / W + 1) * W := Int.mul_le_mul_of_nonneg_right (by omega) (by omega)
      rw [Int.add_mul, Int.add_mul, ht, hd, Int.one_mul] at h3
      omega
    · exact h
  exact ⟨hv_digs _ _ ⟨hq0, by omega⟩, hq0, hq1⟩
/-- the next code: one more, and noughts behind it -/
theorem cb_step {Z : List Int} (hz : Zs Z) (i : Nat) (h : i + 1 < Z.length) : hv (cb Z i) + 1 < 2 ^ (Z.getD i 0).toNat ∧ Z.getD i 0 ≤ Z.getD (i + 1) 0 ∧
    cb Z (i + 1) = digs true (hv (cb Z i) + 1) (Z.getD i 0).toNat ++ List.replicate ((Z.getD (i + 1) 0).toNat - (Z.getD i 0).toNat) 0 := by
  have hzi := hz.rng _ (getD_in (show i < Z.length by omega))
  have hzj := hz.rng _ (getD_in h)
  obtain ⟨e1, e2, e3⟩ := cb_hv hz i (by omega)
  obtain ⟨f1, f2, f3⟩ := cb_hv hz (i + 1) h
  have hd := acc_dvd hz i (by omega)
  have hd2 := acc_dvd hz (i + 1) h
  have hs := acc_succ Z i (by omega)
  have hle : Z.getD i 0 ≤ Z.getD (i + 1) 0 := by
    have := (List.pairwise_iff_getElem.1 hz.srt) i (i + 1) (by omega) h (by omega)
    rw [List.getD_eq_getElem?_getD, List.getElem?_eq_getElem (show i < Z.length by omega), List.getD_eq_getElem?_getD, List.getElem?_eq_getElem h]; exact this
  have hw := wt_mul (a := Z.getD i 0) (b := Z.getD (i + 1) 0) ⟨hzi.1, hle⟩ hzj.2
  have hwj : 1 ≤ wt (Z.getD (i + 1) 0) := by rw [wt_pos (by omega)]; exact two_pos _
  have htj := wt_two hzj
  have hti := wt_two hzi
  obtain ⟨x, hx⟩ : ∃ x, x = acc Z i / wt (Z.getD i 0) + 1 := ⟨_, rfl⟩
  have hxw : x * wt (Z.getD i 0) = acc Z (i + 1) := by rw [hx, Int.add_mul, hd, hs, Int.one_mul]
  have hlt : acc Z (i + 1) < 65536 := by
    have := acc_le hz (i + 1 + 1)
    rw [acc_succ Z (i + 1) h] at this; omega
  have hx2 : x < 2 ^ (Z.getD i 0).toNat := by
    rcases Int.lt_or_le x (2 ^ (Z.getD i 0).toNat) with h | h
    · exact h
    · have hwi : 0 ≤ wt (Z.getD i 0) := wt_nn hzi.2
      have := Int.mul_le_mul_of_nonneg_right h hwi
      rw [hti, hxw] at this; omega
  have hc2 : acc Z (i + 1) / wt (Z.getD (i + 1) 0) = x * 2 ^ (Z.getD (i + 1) 0 - Z.getD i 0).toNat := by
    rw [← hxw, hw, ← Int.mul_assoc, Int.mul_ediv_cancel _ (by omega)]
  rw [e1, ← hx]
  refine ⟨hx2, hle, ?_⟩
  unfold cb
  rw [hc2]
  have hn : (Z.getD (i + 1) 0).toNat = (Z.getD i 0).toNat + (Z.getD (i + 1) 0 - Z.getD i 0).toNat := by omega
  rw [hn, digs_pad x _ _ ⟨by omega, hx2⟩]
  congr 2; omega
theorem cb_zero {Z : List Int} : cb Z 0 = List.replicate (Z.getD 0 0).toNat 0 := by
  unfold cb
  have h0 : acc Z 0 = 0 := rfl
  rw [h0, Int.zero_ediv]
  have := digs_pad 0 0 (Z.getD 0 0).toNat (by decide)
  rw [Int.zero_mul, Nat.zero_add] at this
  rw [this]; rfl

/-! contracts -/
set_option maxHeartbeats 1000000 in
theorem number04_any (A : Option Addr) (n c : Nat) (l : List Int) (B : Nat) (w : World) (hn : l.length = n) (hR : Rd w B A (iv l)) (hB : B01 l) (hm : n ≤ 60) :
    Calls Try.prog 37 #[.slice A n c] w fun e w' => e = .returned (.int .i64 (hv l)) ∧ w' = w := by
  have HN := Lib.hid hn
  clear hn
  have hp2 : ∀ l' : List Int, l'.length ≤ n → (2 : Int) ^ l'.length ≤ 1152921504606846976 := fun l' hl => by
    have := Nat.pow_le_pow_right (show 0 < 2 by omega) (show l'.length ≤ 60 by omega)
    rw [show (1152921504606846976 : Int) = 2 ^ 60 from rfl, ← two_cast, ← two_cast]; omega
  have HP := Lib.hid hp2
  clear hp2
  go_enter Try.func37, Try.ntmps37
  go_wp2
  go_loop [3, 8] (fun v i => ∃ k : Nat, k ≤ n ∧ i = .int .i64 k ∧ v = .int .i64 (hv (l.take k))) (fun _ i => n - (intOf i).toNat)
  case atStart => exact ⟨0, Nat.zero_le _, rfl, rfl⟩
  case round =>
    obtain ⟨k, hk, rfl, rfl⟩ := hrel
    by_cases hlt : k < n
    · obtain ⟨b, off, rfl, hbl, hcell⟩ := hR.at_ (k := k) (by rw [iv_len, HN.out]; omega)
      have hcl := hcell k _ (iv_get (by rw [HN.out]; omega))
      have h01 := getD_01 hB k
      have hbd := hv_bd (hB.take k)
      have hp := HP.out (l.take k) (by rw [List.length_take]; omega)
      have hst : hv (l.take (k + 1)) = 2 * hv (l.take k) + l.getD k 0 := by
        rw [take_get l k (by rw [HN.out]; omega), hv_snoc]
      have HS := Lib.hid hst
      clear hst hcell
      generalize hx : l.getD k 0 = x at *
      generalize hv (l.take k) = y at *
      generalize (2 : Int) ^ (l.take k).length = z at *
      clear hx
      go_wp2
      go_round
      case rel => exact ⟨k + 1, by omega, by go_num, by rw [HS.out]⟩
      case measure => simp [intOf]; omega
    · go_wp2
      go_ret
      obtain rfl : k = n := by omega
      exact ⟨ret_int (by rw [List.take_of_length_le (by rw [HN.out]; omega)]), rfl⟩

set_option maxHeartbeats 2000000 in
theorem plus_any (A : Option Addr) (n c : Nat) (l : List Int) (w : World) (hn : l.length = n) (hR : Rd w w.heap.size A (iv l)) (hB : B01 l) (hm : n ≤ 60) (hlt : hv l + 1 < 2 ^ n) :
    Calls Try.prog 137 #[.slice A n c] w fun e w' => ∃ v, e = .returned v ∧ w'.ownsRow w.heap.size 3 1 v n (iv (digs true (hv l + 1) n)) ∧ Below w.heap.size w w' := by
  obtain ⟨i0, hi, hz0, hz1, hz2⟩ := info_parts Try.info_int
  have HN := Lib.hid hn
  have HLT := Lib.hid hlt
  have hn0 : 0 < n := by
    rcases Nat.eq_zero_or_pos n with h | h
    · subst h
      have := hv_bd hB
      simp at hlt; omega
    · exact h
  clear hn hlt
  have hb0 : Below w.heap.size w (w.alloc (.cells #[] 3)) := (Below.refl _ _).alloc (Nat.le_refl _) _
  have hown0 : (w.alloc (.cells #[] 3)).ownsRow w.heap.size 3 1 (.slice (some ⟨w.heap.size, 0, none⟩) 0 0) 0 [] :=
    World.ownsRow_made w #[] 0 (Nat.le_refl _) (by unfold maxLen; omega) (by simp)
  have hR0 := hR.below hb0
  go_enter Try.func137, Try.ntmps137
  go_wp2_with (at_builtin; refine wpList_app2 _ rfl (.tmp 5) (.tmp 6) 24 rfl Try.underlying24 hi hz0 hz1 hz2 rfl hown0 rfl rfl hR0 (by rw [iv_len, HN.out]) (one_iv l) (by omega) (by omega) hb0.size ?_; intro v1 w1 hown1 hg1; have hb1 : Below w.heap.size w w1 := below_app2 hb0 hown0 hg1 (Nat.le_refl _) hb0.size; simp only [Nat.zero_add, List.nil_append] at hown1; obtain ⟨g, d, rfl, hcap, hdm, hgb, _⟩ := own_pos hown1 hn0)
  go_loopw [4] (fun i wr => ∃ j : Nat, j ≤ n ∧ i = .int .i64 ((j : Int) - 1) ∧ wr.ownsRow w.heap.size 3 1 (.slice (some ⟨g, 0, none⟩) n d) n (iv (l.take j ++ List.replicate (n - j) 0)) ∧ Hid (l = l.take j ++ List.replicate (n - j) 1) ∧ Below w.heap.size w wr) (fun i _ => (intOf i + 1).toNat)
  case atStart => exact ⟨n, Nat.le_refl _, rfl, by rw [List.take_of_length_le (by rw [HN.out]; omega), Nat.sub_self]; simpa using hown1, Lib.hid (by rw [List.take_of_length_le (by rw [HN.out]; omega), Nat.sub_self]; simp), hb1⟩
  case round =>
    obtain ⟨j, hj, rfl, hown, HL, hb⟩ := hrel
    clear hown1 hb1 hg1
    by_cases hj0 : 0 < j
    · obtain ⟨q, hq⟩ : ∃ q, j = q + 1 := ⟨j - 1, by omega⟩
      subst hq
      have hqn : q < n := by omega
      have htk := take_get l q (by rw [HN.out]; exact hqn)
      have hx01 := getD_01 hB q
      have hcl := hown.cellAt q (by omega)
      rw [htk, List.append_assoc, iv_app, List.getElem?_append_right (by rw [iv_len, List.length_take]; omega), iv_len, List.length_take, HN.out, Nat.min_eq_left (by omega), Nat.sub_self] at hcl
      have hcl' : wr.cell? ⟨g, q, none⟩ = some (.int .i64 (l.getD q 0)) := by rw [hcl]; simp [iv]
      have hfz := hown.frozenAt q
      have hst : ∀ z : Int, (wr.setCell ⟨g, q, none⟩ (.int .i64 z)).ownsRow w.heap.size 3 1 (.slice (some ⟨g, 0, none⟩) n d) n (iv (l.take q ++ z :: List.replicate (n - (q + 1)) 0)) := fun z => by
        have h := (hown.stored q (.int .i64 z)).1
        have e : (iv (l.take (q + 1) ++ List.replicate (n - (q + 1)) 0)).set q (.int .i64 z) = iv (l.take q ++ z :: List.replicate (n - (q + 1)) 0) := by
          rw [htk, List.append_assoc, iv_app, List.set_append_right _ _ (by rw [iv_len, List.length_take]; omega), iv_len, List.length_take, HN.out, Nat.min_eq_left (by omega), Nat.sub_self, iv_app]
          simp [iv]
        rwa [e] at h
      have hL := HL.out
      rw [htk, List.append_assoc] at hL
      have HLQ := Lib.hid hL
      have HST := Lib.hid hst
      clear hcl htk hown hst hL
      have hqi : ((q + 1 : Nat) : Int) - 1 = (q : Int) := by omega
      rw [hqi]
      clear hqi
      rcases hx01 with hx0 | hx1
      · rw [hx0] at hcl'
        have hl0 : l = l.take q ++ 0 :: List.replicate (n - (q + 1)) 1 := by have h := HLQ.out; rw [hx0] at h; exact h
        have hval := hv_plus (l.take q) (n - (q + 1))
        rw [← hl0] at hval
        have hR01 : B01 (l.take q ++ 1 :: List.replicate (n - (q + 1)) 0) := (hB.take q).app ((B01.one (.inr rfl)).app (B01.rep _ (.inl rfl)))
        have hlen : (l.take q ++ (1 : Int) :: List.replicate (n - (q + 1)) 0).length = n := by simp [HN.out]; omega
        have hdg := digs_hv hR01
        rw [hval, hlen] at hdg
        have HD := Lib.hid hdg
        clear hx0 hl0 hval hR01 hlen hdg
        go_wp2
        go_ret
        exact ⟨_, rfl, by rw [HD.out]; exact HST.out 1, hb.setCell hgb _⟩
      · rw [hx1] at hcl'
        have hl1 : l = l.take q ++ List.replicate (n - q) 1 := by
          have h := HLQ.out
          rw [hx1] at h
          rw [show n - q = (n - (q + 1)) + 1 by omega, List.replicate_succ]; exact h
        have HL1 := Lib.hid hl1
        clear hx1 hl1
        go_wp2
        go_roundw
        case rel => exact ⟨q, by omega, by go_num, by rw [show n - q = (n - (q + 1)) + 1 by omega, List.replicate_succ]; exact HST.out 0, Lib.hid HL1.out, hb.setCell hgb _⟩
        case measure => (simp [intOf] <;> omega)
    · exfalso
      have h := HL.out
      rw [show j = 0 by omega, Nat.sub_zero, List.take_zero, List.nil_append] at h
      have h2 := HLT.out
      rw [h, hv_ones] at h2; omega

def RFreed (ls : List Int) (w : World) (e : Ending) (w' : World) : Prop :=
  (Fm ls → e = .returned (.tuple #[.int .i64 (65536 - kr ls), .bool true])) ∧ (¬ Fm ls → ∃ x : Int, e = .returned (.tuple #[.int .i64 x, .bool false])) ∧ w = w'

set_option maxHeartbeats 2000000 in
theorem rfree_any (A : Option Addr) (n c : Nat) (ls : List Int) (B : Nat) (w : World) (hn : ls.length = n) (hR : Rd w B A (iv ls)) (hI : Is ls) :
    Calls Try.prog 33 #[.slice A n c] w (RFreed ls w) := by
  have HN := Lib.hid hn
  by_cases hl : 512 < n
  · have hnf : ¬ Fm ls := fun h => by have := h.1; omega
    have HNF := Lib.hid hnf
    clear hn hnf
    go_enter Try.func33, Try.ntmps33
    go_wp2
    go_ret2
    exact ⟨fun h => absurd h HNF.out, fun _ => ⟨_, rfl⟩, rfl⟩
  clear hn
  go_enter Try.func33, Try.ntmps33
  go_wp2
  go_loop [4, 5] (fun v i => ∃ k : Nat, k ≤ n ∧ i = .int .i64 k ∧ v = .int .i64 (kr (ls.take k)) ∧ Vl (ls.take k)) (fun _ i => n - (intOf i).toNat)
  case atStart => exact ⟨0, Nat.zero_le _, rfl, rfl, by intro x hx; simp at hx⟩
  case round =>
    obtain ⟨k, hk, rfl, rfl, hv⟩ := hrel
    have hkb := kr_bd hv
    have hkl : (ls.take k).length ≤ 512 := by rw [List.length_take]; omega
    have HV := Lib.hid hv
    clear hv
    by_cases hlt : k < n
    · obtain ⟨b, off, rfl, _, hcell⟩ := hR.at_ (k := k) (by rw [iv_len, HN.out]; exact hlt)
      have hc := hcell k _ (ivs_get (by rw [HN.out]; exact hlt))
      have hin := getD_in (l := ls) (k := k) (by rw [HN.out]; exact hlt)
      have hxb := hI _ hin
      have hkt := kr_take ls k (by rw [HN.out]; exact hlt)
      have htk := take_add (l := ls) (k := k) (by rw [HN.out]; exact hlt)
      have HIN := Lib.hid hin
      have HKT := Lib.hid hkt
      have HTK := Lib.hid htk
      clear hcell hin hkt htk
      generalize ls.getD k 0 = x at *
      by_cases hx : 0 ≤ x ∧ x ≤ 16
      · have HVN : Hid (Vl (ls.take (k + 1))) := Lib.hid (by
          rw [HTK.out]; intro y hy
          rcases List.mem_append.1 hy with hy | hy
          · exact HV.out y hy
          · simp at hy; rw [hy]; exact hx)
        by_cases hx0 : 0 < x
        · obtain ⟨X, rfl⟩ := Int.eq_ofNat_of_zero_le hx.1
          have hwx : (65536 : Int) / 2 ^ X = wt X := by unfold wt; rw [if_pos hx0, Int.toNat_natCast]
          have hw1 := wt_le (X : Int)
          have hw2 := wt_nn hx.2
          have HW := Lib.hid hwx
          clear hwx
          generalize kr (ls.take k) = K at *
          go_wp2
          go_loop [6, 7] (fun v i => ∃ j : Nat, j ≤ X ∧ i = .int .i64 j ∧ ∃ z : Int, v = .int .i64 z ∧ (0 ≤ z ∧ z ≤ 65536) ∧ Hid (z = 65536 / 2 ^ j)) (fun _ i => X - (intOf i).toNat)
          case atStart => exact ⟨0, Nat.zero_le _, rfl, 65536, rfl, by omega, Lib.hid rfl⟩
          case round =>
            obtain ⟨j, hj, rfl, z, rfl, hz, HZ⟩ := hrel
            by_cases hjx : j < X
            · go_wp2
              go_round
              case rel => exact ⟨j + 1, by omega, by go_num, z / 2, rfl, ⟨by omega, by omega⟩, Lib.hid (by rw [HZ.out, two_succ, Int.mul_comm, Int.ediv_ediv_of_nonneg (by have := two_pos j; omega)])⟩
              case measure => simp [intOf]; omega
            · have hzw : z = wt X := by
                have h := HZ.out
                rw [show j = X by omega, HW.out] at h; exact h
              have hzb : 0 ≤ z ∧ z ≤ 32768 := by rw [hzw]; exact ⟨hw2, hw1⟩
              have HZW := Lib.hid hzw
              clear hzw
              go_wp2
              go_round
              case rel => exact ⟨k + 1, by omega, by go_num, by rw [HKT.out, HZW.out], HVN.out⟩
              case measure => simp [intOf]; omega
        · have hw0 : wt x = 0 := by unfold wt; rw [if_neg hx0]
          have HW := Lib.hid hw0
          clear hw0
          generalize kr (ls.take k) = K at *
          go_wp2
          go_round
          case rel => exact ⟨k + 1, by omega, by go_num, by rw [HKT.out, HW.out, Int.add_zero], HVN.out⟩
          case measure => simp [intOf]; omega
      · have hnf : ¬ Fm ls := fun h => hx (h.2.1 x HIN.out)
        have HNF := Lib.hid hnf
        clear hnf
        by_cases hx0 : x < 0
        · go_wp2
          go_ret2
          exact ⟨fun h => absurd h HNF.out, fun _ => ⟨_, rfl⟩, rfl⟩
        · go_wp2
          go_ret2
          exact ⟨fun h => absurd h HNF.out, fun _ => ⟨_, rfl⟩, rfl⟩
    · have htk : ls.take k = ls := List.take_of_length_le (by rw [HN.out]; omega)
      rw [htk] at hkb ⊢
      have hv := HV.out
      rw [htk] at hv
      by_cases hneg : kr ls ≤ 65536
      · have hf : Fm ls := ⟨by rw [HN.out]; omega, hv, hneg⟩
        have hdk : decide (kr ls ≤ 65536) = true := by simpa using hneg
        have HF := Lib.hid hf
        clear hf htk hv
        go_wp2
        go_ret2
        exact ⟨fun _ => by first | rfl | (simp; omega), fun h => absurd HF.out h, rfl⟩
      · have hnf : ¬ Fm ls := fun h => hneg h.2.2
        have hdk : decide (kr ls ≤ 65536) = false := by simpa using hneg
        have HNF := Lib.hid hnf
        clear hnf htk hv
        go_wp2
        go_ret2
        exact ⟨fun h => absurd h HNF.out, fun _ => ⟨_, by first | rfl | (simp; omega)⟩, rfl⟩
end Go.Proofs.Ytlhappecjjbopaa
namespace Go.Proofs.Ytlhappecjjbopaa
open Go.RowKit
set_option linter.unusedVariables false
set_option maxRecDepth 100000

theorem Try.info_code : (Try.prog.info? 57).map (fun i => (i.zero, i.size, i.bytes)) = some (some (.agg #[.int .i64 0, .slice none 0 0]), 2, 32) := by kernel_rfl

/-- rows of a list of codes: each one's bits are readable, and lie in no block of X -/
structure Cl (w : World) (B : Nat) (X : Option Nat) (rows : List (List Value)) (codes : List (Int × List Int)) : Prop where
  len : rows.length = codes.length
  two : ∀ r ∈ rows, r.length = 2
  at_ : ∀ (i : Nat) (s : Int) (bits : List Int), codes[i]? = some (s, bits) → ∃ (a : Addr) (c : Nat), rows[i]? = some [.int .i64 s, .slice (some a) bits.length c] ∧ Rd w w.heap.size (some a) (iv bits) ∧ a.block < w.heap.size ∧ X ≠ some a.block ∧ B ≤ a.block
theorem Cl.keep {S : Nat → Prop} {w w' : World} {B : Nat} {X : Option Nat} {rows : List (List Value)} {codes : List (Int × List Int)} (h : Cl w B X rows codes) (hf : Fr S w w') (hS : ∀ b, b < w.heap.size → S b → X = some b) : Cl w' B X rows codes :=
  ⟨h.len, h.two, fun i s bits hc => by
    obtain ⟨a, c, h1, h2, h3, h4, h5⟩ := h.at_ i s bits hc
    refine ⟨a, c, h1, (hf.rd h2 (Nat.le_refl _) (fun p hp hs => ?_)).more hf.size, Nat.lt_of_lt_of_le h3 hf.size, h4, h5⟩
    injection hp with hp
    subst hp
    exact h4 (hS _ h3 hs)⟩
theorem Cl.below {w w' : World} {B : Nat} {X : Option Nat} {rows : List (List Value)} {codes : List (Int × List Int)} (h : Cl w B X rows codes) (hb : Below w.heap.size w w') : Cl w' B X rows codes :=
  h.keep (S := fun _ => False) (Fr.of_below hb) (fun _ _ f => f.elim)
theorem Cl.x {w : World} {B : Nat} {X X' : Option Nat} {rows : List (List Value)} {codes : List (Int × List Int)} (h : Cl w B X rows codes) (hX : ∀ b, X' = some b → X = some b ∨ w.heap.size ≤ b) : Cl w B X' rows codes :=
  ⟨h.len, h.two, fun i s bits hc => by
    obtain ⟨a, c, h1, h2, h3, h4, h5⟩ := h.at_ i s bits hc
    refine ⟨a, c, h1, h2, h3, fun e => ?_, h5⟩
    rcases hX _ e with h | h
    · exact h4 h
    · omega⟩
theorem Cl.snoc {w : World} {B : Nat} {X : Option Nat} {rows : List (List Value)} {codes : List (Int × List Int)} (h : Cl w B X rows codes) {s : Int} {bits : List Int} {a : Addr} {c : Nat} (hR : Rd w w.heap.size (some a) (iv bits)) (hlt : a.block < w.heap.size) (hX : X ≠ some a.block) (hB : B ≤ a.block) :
    Cl w B X (rows ++ [[.int .i64 s, .slice (some a) bits.length c]]) (codes ++ [(s, bits)]) :=
  ⟨by simp [h.len], fun r hr => by
    rcases List.mem_append.1 hr with hr | hr
    · exact h.two r hr
    · simp at hr; subst hr; rfl, fun i s' bits' hc => by
    by_cases hi : i < codes.length
    · rw [List.getElem?_append_left hi] at hc
      obtain ⟨a', c', h1, h2⟩ := h.at_ i s' bits' hc
      exact ⟨a', c', by rw [List.getElem?_append_left (by rw [h.len]; exact hi)]; exact h1, h2⟩
    · have hl := (List.getElem?_eq_some_iff.1 hc).1
      have he : i = codes.length := by simp at hl; omega
      subst he
      simp at hc
      obtain ⟨rfl, rfl⟩ := hc
      exact ⟨a, c, by rw [← h.len]; simp, hR, hlt, hX, hB⟩⟩
theorem Cl.ap {w w' : World} {B : Nat} {v v' : Value} {rows : List (List Value)} {codes : List (Int × List Int)} (h : Cl w B v.ownBlock rows codes) (hp : Ap w w' v v') : Cl w' B v'.ownBlock rows codes :=
  ⟨h.len, h.two, fun i s bits hc => by
    obtain ⟨a, c, h1, h2, h3, h4, h5⟩ := h.at_ i s bits hc
    refine ⟨a, c, h1, (hp.fr.rd h2 (Nat.le_refl _) (fun p hq hs => ?_)).more hp.fr.size, Nat.lt_of_lt_of_le h3 hp.fr.size, fun e => ?_, h5⟩
    · injection hq with hq
      subst hq
      exact h4 hs
    · rcases hp.row _ e with h | h
      · exact h4 h
      · omega⟩
theorem Cl.base {w : World} {B B' : Nat} {X : Option Nat} {rows : List (List Value)} {codes : List (Int × List Int)} (h : Cl w B X rows codes) (hB : B' ≤ B) : Cl w B' X rows codes :=
  ⟨h.len, h.two, fun i s bits hc => by
    obtain ⟨a, c, h1, h2, h3, h4, h5⟩ := h.at_ i s bits hc
    exact ⟨a, c, h1, h2, h3, h4, Nat.le_trans hB h5⟩⟩
theorem Cl.nil (w : World) (B : Nat) (X : Option Nat) : Cl w B X [] [] := ⟨rfl, by simp, by simp⟩

def codesOf (syms Z : List Int) : List (Int × List Int) := (List.range Z.length).map fun i => (syms.getD i 0, cb Z i)
theorem codesOf_len (syms Z : List Int) : (codesOf syms Z).length = Z.length := by simp [codesOf]
theorem codesOf_at (syms Z : List Int) (i : Nat) (h : i < Z.length) : (codesOf syms Z)[i]? = some (syms.getD i 0, cb Z i) := by
  unfold codesOf
  rw [List.getElem?_map, List.getElem?_range h]; rfl
theorem codesOf_take (syms Z : List Int) (k : Nat) (h : k < Z.length) : (codesOf syms Z).take (k + 1) = (codesOf syms Z).take k ++ [(syms.getD k 0, cb Z k)] := by
  rw [List.take_add_one, codesOf_at syms Z k h]; rfl

set_option maxHeartbeats 4000000 in
theorem list_any (A A2 : Option Addr) (n c n2 c2 : Nat) (syms Z : List Int) (w : World) (hn : syms.length = n) (hn2 : Z.length = n2) (hnn : n2 = n) (hR : Rd w w.heap.size A (iv syms)) (hR2 : Rd w w.heap.size A2 (iv Z)) (hI : Is syms) (hz : Zs Z) (hm : n ≤ 100000) :
    Calls Try.prog 100 #[.slice A n c, .slice A2 n2 c2] w fun e w' => ∃ v rows, e = .returned v ∧ w'.ownsRow w.heap.size 57 2 v n rows.flatten ∧ Cl w' w.heap.size v.ownBlock rows (codesOf syms Z) ∧ Below w.heap.size w w' := by
  subst hnn
  obtain ⟨i0, hi, hz0, hz1, hz2⟩ := info_parts Try.info_code
  obtain ⟨i1, hi1, hy0, hy1, hy2⟩ := info_parts Try.info_int
  have HN := Lib.hid hn
  have HN2 := Lib.hid hn2
  have HZ := Lib.hid hz
  clear hn hn2 hz
  go_enter Try.func100, Try.ntmps100
  go_wp2
  go_loopw [5, 6] (fun v i wr => ∃ k : Nat, k ≤ n2 ∧ i = .int .i64 k ∧ ∃ rows, wr.ownsRow w.heap.size 57 2 v k rows.flatten ∧ Cl wr w.heap.size v.ownBlock rows ((codesOf syms Z).take k) ∧ Below w.heap.size w wr) (fun _ i _ => n2 - (intOf i).toNat)
  case atStart => exact ⟨0, Nat.zero_le _, rfl, [], World.ownsRow_nil _ _ _ _, Cl.nil _ _ _, Below.refl _ _⟩
  case round =>
    obtain ⟨k, hk, rfl, rows, hown, hcl, hb⟩ := hrel
    obtain ⟨wo, rfl⟩ : ∃ wo : World, wo = wr := ⟨_, rfl⟩
    obtain ⟨Av, cv, rfl, hcv1, hcv2, hRv⟩ := own_sliceN hown
    by_cases hlt : k < n2
    · have hsz := hb.size
      have hzk := HZ.out.rng _ (getD_in (l := Z) (k := k) (by rw [HN2.out]; exact hlt))
      obtain ⟨lk, hlk⟩ := Int.eq_ofNat_of_zero_le (show 0 ≤ Z.getD k 0 by omega)
      have hlk16 : 1 ≤ lk ∧ lk ≤ 16 := by omega
      have hcbl : (cb Z k).length = lk := by rw [cb_len, hlk, Int.toNat_natCast]
      have HLK := Lib.hid hlk
      have HCBL := Lib.hid hcbl
      clear hzk hlk hcbl
      go_upto_if 15 with fail
      go_cut [7] from 8 to 41 (fun v wx => ∃ (l0 : Nat) (st : List Int), l0 ≤ lk ∧ wx.ownsRow wo.heap.size 3 1 v l0 (iv st) ∧ Hid (cb Z k = st ++ List.replicate (lk - l0) 0) ∧ Below wo.heap.size wo wx)
      case first =>
        by_cases hk0 : 0 < k
        · obtain ⟨q, hq⟩ : ∃ q, k = q + 1 := ⟨k - 1, by omega⟩
          subst hq
          have hql : q < Z.length := by rw [HN2.out]; omega
          have hct : ((codesOf syms Z).take (q + 1))[q]? = some (syms.getD q 0, cb Z q) := by rw [List.getElem?_take, if_pos (by omega), codesOf_at syms Z q hql]
          obtain ⟨a, ca, hrow, hRa, hal, hax, _⟩ := hcl.at_ q _ _ hct
          have hfl := flatten_get rows hcl.two q 1 _ _ hrow rfl
          obtain ⟨bb, off, rfl, _, hcell⟩ := hRv.at_ (k := q * 2 + 1) (List.getElem?_eq_some_iff.1 hfl).1
          have hc1 := hcell _ _ hfl
          rw [← Nat.add_assoc] at hc1
          obtain ⟨hs1, hs2, hs3⟩ := cb_step HZ.out q (by rw [HN2.out]; exact hlt)
          rw [HLK.out, Int.toNat_natCast] at hs3
          rw [HLK.out] at hs2
          have hl0 := HZ.out.rng _ (getD_in (l := Z) (k := q) hql)
          obtain ⟨lq, hlq⟩ := Int.eq_ofNat_of_zero_le (show 0 ≤ Z.getD q 0 by omega)
          have hcql : (cb Z q).length = lq := by rw [cb_len, hlq, Int.toNat_natCast]
          rw [hlq, Int.toNat_natCast] at hs1 hs3
          rw [hlq] at hs2 hl0
          rw [hcql] at hc1
          have hqi : ((q + 1 : Nat) : Int) - 1 = (q : Int) := by omega
          have h01 := cb_01 Z q
          have HS3 := Lib.hid hs3
          have HS1 := Lib.hid hs1
          have HQL := Lib.hid hcql
          clear hct hrow hcell hfl hs1 hs3 hlq hcql
          go_wp2_with (go_at_call 137; refine (plus_any (some a) lq ca (cb Z q) _ HQL.out hRa h01 (by omega) HS1.out).mono ?_; rintro e w1 ⟨v1, rfl, ho1, hb1⟩)
          go_meet
          exact ⟨lq, _, by omega, ho1, Lib.hid HS3.out, hb1⟩
        · have hk1 : k = 0 := by omega
          have hcz : cb Z k = [] ++ List.replicate (lk - 0) 0 := by
            have h := HLK.out
            rw [hk1] at h ⊢
            rw [cb_zero, h, Int.toNat_natCast]; rfl
          have HCZ := Lib.hid hcz
          clear hk1 hcz
          go_wp2
          go_meet
          exact ⟨0, [], by omega, World.ownsRow_nil _ _ _ _, HCZ, Below.refl _ _⟩
      case rest =>
        obtain ⟨l0, st, hl0, ho, HST, hbc⟩ := hcut
        obtain ⟨b2, o2, rfl, _, hcell2⟩ := hR2.at_ (k := k) (by rw [iv_len, HN2.out]; exact hlt)
        have hcz := hcell2 k _ (ivs_get (by rw [HN2.out]; exact hlt))
        obtain ⟨b1, o1, rfl, _, hcell1⟩ := hR.at_ (k := k) (by rw [iv_len, HN.out]; exact hlt)
        have hcs := hcell1 k _ (ivs_get (by rw [HN.out]; exact hlt))
        rw [HLK.out] at hcz
        have hkz : ∀ W : World, Below w.heap.size w W → W.cell? ⟨b2, o2 + k, none⟩ = some (.int .i64 (lk : Int)) := fun W hW => (hW.cell (p := ⟨b2, o2 + k, none⟩) (World.block_lt_of_cell? w _ hcz)).trans hcz
        have hks : ∀ W : World, Below w.heap.size w W → W.cell? ⟨b1, o1 + k, none⟩ = some (.int .i64 (syms.getD k 0)) := fun W hW => (hW.cell (p := ⟨b1, o1 + k, none⟩) (World.block_lt_of_cell? w _ hcs)).trans hcs
        have HKZ := Lib.hid hkz
        have HKS := Lib.hid hks
        have hstl : st.length = l0 := by have := ho.1; rw [iv_len] at this; omega
        have HSTL := Lib.hid hstl
        clear hcell1 hcell2 hcz hcs hkz hks hstl
        go_wp2
        go_loopw [7] (fun v wr => ∃ j : Nat, l0 ≤ j ∧ j ≤ lk ∧ wr.ownsRow wo.heap.size 3 1 v j (iv (st ++ List.replicate (j - l0) 0)) ∧ Below wo.heap.size wo wr) (fun v _ => lk - (match v with | .slice _ m _ => m | _ => 0))
        case atStart => exact ⟨l0, Nat.le_refl _, hl0, by rw [Nat.sub_self]; simpa using ho, hbc⟩
        case round =>
          obtain ⟨j, hj1, hj2, hoj, hbj⟩ := hrel
          clear ho hbc
          obtain ⟨Aj, cj, rfl, hRj⟩ := own_slice hoj
          have hbw := hb.trans (hbj.mono hsz)
          have hcz := HKZ.out wr hbw
          by_cases hjl : j < lk
          · have hown' := hoj.alloc (.cells #[Value.int .i64 0] 3)
            have hszj := hbj.size
            go_wp2_with (at_builtin; refine wpList_app2 _ rfl (.tmp 30) (.tmp 31) 24 rfl Try.underlying24 hi1 hy0 hy1 hy2 rfl hown' rfl rfl (Rd.new1 _ _ _) rfl (by simp [Value.oneCell']) (by omega) (by omega) (by simp; omega) ?_; intro v1 w1 hown1 hg1; have hb1 : Below wo.heap.size wo w1 := below_app2 (hbj.alloc hszj _) hown' hg1 (Nat.le_refl _) (by simp; omega); obtain ⟨A1, d1, rfl, _⟩ := own_slice hown1)
            go_roundw
            case rel => exact ⟨j + 1, by omega, by omega, by rw [show j + 1 - l0 = (j - l0) + 1 by omega, List.replicate_succ', ← List.append_assoc, iv_app]; exact hown1, hb1⟩
            case measure => simp; omega
          · have hjk : j = lk := by omega
            have hbits : st ++ List.replicate (j - l0) 0 = cb Z k := by rw [hjk]; exact HST.out.symm
            rw [hbits] at hoj
            have hjb : lk ≤ j ∧ j ≤ lk := by omega
            have hcbj : (cb Z k).length = j := by rw [HCBL.out, hjk]
            have HCJ := Lib.hid hcbj
            obtain ⟨gb, gd, hv, hcap, hdm, hgb1, hgb2⟩ := own_pos hoj (by omega)
            injection hv with hv hv2 hv3
            subst hv hv3
            have hRb := Rd.of_own hoj
            have hownj := own_keepN hown hbj
            have hclj := hcl.below hbj
            have hcs := HKS.out wr hbw
            have hct := codesOf_take syms Z k (by rw [HN2.out]; exact hlt)
            have HCT := Lib.hid hct
            clear hjk hbits hcbj hct
            generalize syms.getD k 0 = sy at *
            have hba : Below wr.heap.size wr (wr.alloc (.cells #[.int .i64 sy, .slice (some ⟨gb, 0, none⟩) j cj] 57)) := (Below.refl _ _).alloc (Nat.le_refl _) _
            have howna := own_keepN hownj hba
            have hcla := hclj.below hba
            have hRba := (hRb.below hba).more hba.size
            have hbwa := hbw.trans (hba.mono hbw.size)
            have hgba : gb < (wr.alloc (.cells #[.int .i64 sy, .slice (some ⟨gb, 0, none⟩) j cj] 57)).heap.size := Nat.lt_of_lt_of_le hgb2 hba.size
            have hXg : ∀ b, (Value.slice Av k cv).ownBlock = some b → b < wo.heap.size := fun b hb => (hown.lt b hb).2
            have hszw := hbwa.size
            go_wp2_with (at_builtin; refine wpList_appN _ rfl (.tmp 33) (.tmp 40) 54 rfl Try.underlying54 hi hz0 hz1 hz2 rfl (by omega) howna rfl rfl (Rd.newN wr 57 [.int .i64 sy, .slice (some ⟨gb, 0, none⟩) j cj]) rfl (by simp [Value.oneCell']) (by omega) (by omega) hszw ?_; intro v7 w7 hown7 hap7)
            go_roundw
            case rel =>
              have hcl7 := hcla.ap hap7
              have hR7 : Rd w7 w7.heap.size (some ⟨gb, 0, none⟩) (iv (cb Z k)) := (hap7.fr.rd hRba (Nat.le_refl _) (fun p hq hs => by
                injection hq with hq
                subst hq
                have := hXg _ hs
                simp only at this
                omega)).more hap7.fr.size
              have hX7 : v7.ownBlock ≠ some gb := fun e => by
                rcases hap7.row _ e with h | h
                · have := hXg _ h
                  omega
                · omega
              have hs := hcl7.snoc (s := sy) (bits := cb Z k) (c := cj) hR7 (Nat.lt_of_lt_of_le hgba hap7.fr.size) hX7 (show w.heap.size ≤ gb by omega)
              rw [HCJ.out] at hs
              refine ⟨k + 1, by omega, by go_num, rows ++ [[.int .i64 sy, .slice (some ⟨gb, 0, none⟩) j cj]], ?_, ?_, hbwa.trans (hap7.below (fun b hb => (hown.lt b hb).1) hszw)⟩
              · rw [List.flatten_append]
                simpa using hown7
              · rw [HCT.out]; exact hs
            case measure => simp [intOf]; omega
    · have hkn : k = n2 := by omega
      have htk : (codesOf syms Z).take k = codesOf syms Z := List.take_of_length_le (by rw [codesOf_len, HN2.out]; omega)
      rw [htk] at hcl
      have HKN := Lib.hid hkn
      clear hkn htk
      go_wp2
      go_ret
      rw [HKN.out] at hown hcl ⊢
      exact ⟨_, rows, rfl, hown, hcl, hb⟩
end Go.Proofs.Ytlhappecjjbopaa
namespace Go.Proofs.Ytlhappecjjbopaa
open Go.RowKit
set_option linter.unusedVariables false
set_option maxRecDepth 100000

/-- the symbols that have codes, in the codes' order; their lengths -/
def sy (O : List Nat) : List Int := O.map fun s : Nat => (s : Int)
def sz (ls : List Int) (O : List Nat) : List Int := O.map fun s => ls.getD s 0
theorem sy_len (O : List Nat) : (sy O).length = O.length := by simp [sy]
theorem sz_len (ls : List Int) (O : List Nat) : (sz ls O).length = O.length := by simp [sz]
theorem sy_app (a b : List Nat) : sy (a ++ b) = sy a ++ sy b := by simp [sy]
theorem sz_app (ls : List Int) (a b : List Nat) : sz ls (a ++ b) = sz ls a ++ sz ls b := by simp [sz]
theorem sz_at {ls : List Int} {O : List Nat} {i s : Nat} (h : O[i]? = some s) : (sz ls O).getD i 0 = ls.getD s 0 := by
  unfold sz
  rw [List.getD_eq_getElem?_getD, List.getElem?_map, h]; rfl
theorem sy_at {O : List Nat} {i s : Nat} (h : O[i]? = some s) : (sy O).getD i 0 = (s : Int) := by
  unfold sy
  rw [List.getD_eq_getElem?_getD, List.getElem?_map, h]; rfl
theorem acc_at (ls : List Int) (i : Nat) : acc (sz ls (ordU ls 16)) i = at_ ls i := by
  unfold acc at_ ws sz
  rw [← List.map_take, List.map_map]; rfl
theorem zs_ord {ls : List Int} (hf : Fm ls) : Zs (sz ls (ordU ls 16)) :=
  ⟨fun z hz => by
    obtain ⟨s, hs, rfl⟩ := List.mem_map.1 hz
    exact (ordU_mem.1 hs).2, by
    unfold sz
    rw [List.pairwise_map]
    exact (ordU_sorted ls 16).imp fun h => h.2, by
    have h := ws_all ls hf.2.1
    have h2 := hf.2.2
    unfold ws at h
    unfold sz
    rw [List.map_map]
    exact Int.le_trans (Int.le_of_eq h) h2⟩
/-- a code's number is the one that the chapter says -/
theorem hv_cd {ls C : List Int} (hf : Fm ls) (hc : Cd ls C) {i s : Nat} (h : (ordU ls 16)[i]? = some s) : hv (cb (sz ls (ordU ls 16)) i) = C.getD s 0 := by
  have hz := zs_ord hf
  have hi : i < (sz ls (ordU ls 16)).length := by rw [sz_len]; exact (List.getElem?_eq_some_iff.1 h).1
  rw [(cb_hv hz i hi).1, acc_at, sz_at h]
  have h1 := (hc.2.1 i s h).2
  have hm := ordU_mem.1 (List.mem_of_getElem? h)
  have hw : 1 ≤ wt (ls.getD s 0) := by rw [wt_pos (by omega)]; exact two_pos _
  rw [← h1, Int.mul_ediv_cancel _ (by omega)]

structure Two (w : World) (B : Nat) (v1 v2 : Value) (ls : List Int) (O : List Nat) : Prop where
  one : w.ownsRow B 3 1 v1 O.length (iv (sy O))
  two : w.ownsRow B 3 1 v2 O.length (iv (sz ls O))
  off : ∀ b, v1.ownBlock = some b → v2.ownBlock ≠ some b
theorem Two.below {w w' : World} {B : Nat} {v1 v2 : Value} {ls : List Int} {O : List Nat} (h : Two w B v1 v2 ls O) (hb : Below w.heap.size w w') : Two w' B v1 v2 ls O :=
  ⟨own_keepN h.one hb, own_keepN h.two hb, h.off⟩

set_option maxHeartbeats 4000000 in
theorem refCodes_any (A : Option Addr) (n c : Nat) (ls : List Int) (w : World) (hn : ls.length = n) (hR : Rd w w.heap.size A (iv ls)) (hI : Is ls) (hf : Fm ls) :
    Calls Try.prog 36 #[.slice A n c] w fun e w' => ∃ v rows, e = .returned v ∧ w'.ownsRow w.heap.size 57 2 v (ordU ls 16).length rows.flatten ∧ Cl w' w.heap.size v.ownBlock rows (codesOf (sy (ordU ls 16)) (sz ls (ordU ls 16))) ∧ Below w.heap.size w w' := by
  obtain ⟨i0, hi, hz0, hz1, hz2⟩ := info_parts Try.info_int
  have hm : n ≤ 512 := by have := hf.1; omega
  have HN := Lib.hid hn
  have HF := Lib.hid hf
  have hul := ordU_len ls
  rw [hn] at hul
  have hus := ordU_succ ls
  rw [hn] at hus
  have HUL := Lib.hid hul
  have HUS := Lib.hid hus
  clear hn hul hus hf
  go_enter Try.func36, Try.ntmps36
  go_wp2
  go_loopw [3, 4, 5] (fun v1 v2 i wr => ∃ m : Nat, m ≤ 16 ∧ i = .int .i64 ((m + 1 : Nat) : Int) ∧ Two wr w.heap.size v1 v2 ls (ordU ls m) ∧ Below w.heap.size w wr) (fun _ _ i _ => 17 - (intOf i).toNat)
  case atStart => exact ⟨0, by omega, rfl, ⟨by simpa [ordU, sy, iv] using World.ownsRow_nil w w.heap.size 3 1, by simpa [ordU, sz, iv] using World.ownsRow_nil w w.heap.size 3 1, fun b h => by simp [Value.ownBlock] at h⟩, Below.refl _ _⟩
  case round =>
    obtain ⟨m, hm16, rfl, hown, hb⟩ := hrel
    obtain ⟨wo, rfl⟩ : ∃ wo : World, wo = wr := ⟨_, rfl⟩
    by_cases hlt : m < 16
    · obtain ⟨q, hq⟩ : ∃ q, q = m + 1 := ⟨_, rfl⟩
      rw [← hq]
      have hq1 : q ≤ m + 1 ∧ m + 1 ≤ q := by omega
      have HQ := Lib.hid hq
      clear hq
      have hmul := HUL.out m
      have hml : (ordU ls m).length ≤ 1600000 := by
        have : m * n ≤ 16 * 512 := Nat.mul_le_mul (by omega) hm
        omega
      have hus := HUS.out m
      rw [← HQ.out] at hus
      have HU := Lib.hid hus
      clear hmul hus
      have hdq : decide ((q : Int) ≤ 16) = true := by simp; omega
      go_wp2
      go_loopw [3, 4, 6] (fun v1 v2 i wr => ∃ k : Nat, k ≤ n ∧ i = .int .i64 k ∧ Two wr w.heap.size v1 v2 ls (ordU ls m ++ ordP ls (q : Int) k) ∧ Below w.heap.size w wr) (fun _ _ i _ => n - (intOf i).toNat)
      case atStart => exact ⟨0, Nat.zero_le _, rfl, by simpa [ordP] using hown, hb⟩
      case round =>
        obtain ⟨k, hk, rfl, hown, hb⟩ := hrel
        by_cases hltk : k < n
        · obtain ⟨b, off, rfl, _, hcell⟩ := (hR.below hb).at_ (k := k) (by rw [iv_len, HN.out]; exact hltk)
          have hc := hcell k _ (ivs_get (by rw [HN.out]; exact hltk))
          have hin := getD_in (l := ls) (k := k) (by rw [HN.out]; exact hltk)
          have hxb := hI _ hin
          have hps := ordP_succ ls (q : Int) k
          have hpl := ordP_len ls (q : Int) k
          have hsz := hb.size
          have hol : (ordU ls m ++ ordP ls (q : Int) k).length ≤ 1700000 := by rw [List.length_append]; omega
          clear hcell hin hpl
          by_cases hx : ls.getD k 0 = (q : Int)
          · have hsk : sz ls [k] = [(q : Int)] := by simp only [sz, List.map_cons, List.map_nil, hx]
            have hyk : sy [k] = [(k : Int)] := rfl
            rw [if_pos hx] at hps
            rw [hx] at hc hxb
            have hsn : ordU ls m ++ ordP ls (q : Int) (k + 1) = (ordU ls m ++ ordP ls (q : Int) k) ++ [k] := by rw [hps, List.append_assoc]
            have HS := Lib.hid hsn
            have HSK := Lib.hid hsk
            have HYK := Lib.hid hyk
            clear hx hps hsn hsk hyk
            generalize ordU ls m ++ ordP ls (q : Int) k = O at *
            have hba : Below wr.heap.size wr (wr.alloc (.cells #[Value.int .i64 (k : Int)] 3)) := (Below.refl _ _).alloc (Nat.le_refl _) _
            have howna := hown.below hba
            have hbwa := hb.trans (hba.mono hsz)
            have hszw := hbwa.size
            go_upto_region 11 with (at_builtin; refine wpList_appN _ rfl (.tmp 23) (.tmp 25) 24 rfl Try.underlying24 hi hz0 hz1 hz2 rfl (by omega) howna.one rfl rfl (Rd.newN wr 3 [.int .i64 (k : Int)]) rfl (by simp [Value.oneCell']) (by omega) (by omega) hszw ?_; intro v1 w1 hown1 hap1)
            have hlt1 := howna.one.lt
            have hlt2 := howna.two.lt
            have hn2 := hap1.fr.ownN howna.two (fun b h2 h1 => howna.off b h1 h2)
            have hof : ∀ b, v1.ownBlock = some b → _ := fun b h1 h2 => (hap1.row b h1).elim (fun h => howna.off b h h2) (fun h => by have := hlt2 b h2; omega)
            have hb1 := hbwa.trans (hap1.below (B := w.heap.size) (fun b h => (hlt1 b h).1) hszw)
            have hsz1 := hb1.size
            have hbb : Below w1.heap.size w1 (w1.alloc (.cells #[Value.int .i64 (q : Int)] 3)) := (Below.refl _ _).alloc (Nat.le_refl _) _
            have hn2b := own_keepN hn2 hbb
            have hown1b := own_keepN hown1 hbb
            have hbwb := hb1.trans (hbb.mono hsz1)
            have hszb := hbwb.size
            go_wp2_with (at_builtin; refine wpList_appN _ rfl (.tmp 27) (.tmp 29) 24 rfl Try.underlying24 hi hz0 hz1 hz2 rfl (by omega) hn2b rfl rfl (Rd.newN w1 3 [.int .i64 (q : Int)]) rfl (by simp [Value.oneCell']) (by omega) (by omega) hszb ?_; intro v2 w2 hown2 hap2)
            go_roundw
            case rel =>
              refine ⟨k + 1, by omega, by go_num, ⟨?_, ?_, fun b h1 h2 => (hap2.row b h2).elim (fun h => hof b h1 h) (fun h => by have := hown1b.lt b h1; omega)⟩, hbwb.trans (hap2.below (B := w.heap.size) (fun b h => (hlt2 b h).1) hszb)⟩
              · rw [HS.out, List.length_append, sy_app, HYK.out]
                have := hap2.fr.ownN hown1b (fun b h1 h2 => hof b h1 h2)
                simpa [iv] using this
              · rw [HS.out, List.length_append, sz_app, HSK.out]
                simpa [iv] using hown2
            case measure => simp [intOf]; omega
          · have hxq : (ls.getD k 0 == (q : Int)) = false := by simpa using hx
            rw [if_neg hx, List.append_nil] at hps
            have HPS := Lib.hid hps
            clear hx hps
            generalize ls.getD k 0 = x at *
            go_wp2
            go_roundw
            case rel => exact ⟨k + 1, by omega, by go_num, by rw [HPS.out]; exact hown, hb⟩
            case measure => simp [intOf]; omega
        · have hkn : k = n := by omega
          rw [hkn, ← HU.out] at hown
          clear hkn
          go_wp2
          go_roundw
          case rel => exact ⟨q, by omega, by go_num, hown, hb⟩
          case measure => simp [intOf]; omega
    · obtain rfl : m = 16 := by omega
      have hfl := (ordU ls 16).length
      obtain ⟨A1, c1, hv1, _, _, hR1⟩ := own_sliceN hown.one
      obtain ⟨A2, c2, hv2, _, _, hR2⟩ := own_sliceN hown.two
      subst hv1 hv2
      have hol : (ordU ls 16).length ≤ 100000 := by
        have := HUL.out 16
        omega
      have hzs := zs_ord HF.out
      have hsz := hb.size
      have HL := Lib.hid (sy_len (ordU ls 16))
      have HL2 := Lib.hid (sz_len ls (ordU ls 16))
      have hIs : Is (sy (ordU ls 16)) := fun x hx => by
        obtain ⟨s, hs, rfl⟩ := List.mem_map.1 hx
        have := (ordU_mem.1 hs).1
        rw [HN.out] at this
        omega
      generalize hO : (ordU ls 16).length = no at *
      have HO := Lib.hid hO
      clear hO
      go_wp2_with fail
      refine (list_any A1 A2 no c1 no c2 (sy (ordU ls 16)) (sz ls (ordU ls 16)) _ HL.out HL2.out rfl hR1 hR2 hIs hzs hol).mono ?_; rintro e w4 ⟨v, rows, rfl, ho, hcl, hb4⟩
      go_wp2
      go_ret
      rw [HO.out]
      exact ⟨v, rows, rfl, own_baseN ho (fun b hb => by have := (ho.lt b hb).1; omega), hcl.base hsz, hb.trans (hb4.mono hsz)⟩
end Go.Proofs.Ytlhappecjjbopaa
