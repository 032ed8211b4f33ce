/-
  The document's answer for codes: plain laws of their bits; Free, plus, number, by contracts. No condition beyond the range that each names.
-/
import Derived.Test.YtlhappecjjbopaaCaB
import Derived.Test.YtlhappecjjbopaaAppN
import Derived.Test.YtlhappecjjbopaaBiS
namespace Go.Proofs.Ytlhappecjjbopaa
open Go.RowKit
set_option linter.unusedVariables false
set_option maxRecDepth 100000

theorem hv_app (a b : List Int) : hv (a ++ b) = hv a * 2 ^ b.length + hv b := by
  induction a with
  | nil => simp [hv]
  | cons x a ih =>
    show x * 2 ^ (a ++ b).length + hv (a ++ b) = (x * 2 ^ a.length + hv a) * 2 ^ b.length + hv b
    rw [ih, List.length_append, Int.pow_add, Int.add_mul, ← Int.mul_assoc]; omega
theorem hv_ones (k : Nat) : hv (List.replicate k 1) = 2 ^ k - 1 := by
  induction k with
  | zero => rfl
  | succ k ih => rw [List.replicate_succ', hv_snoc, ih, two_succ]; omega
theorem hv_zero (k : Nat) : hv (List.replicate k 0) = 0 := by
  induction k with
  | zero => rfl
  | succ k ih => rw [List.replicate_succ', hv_snoc, ih]; rfl
theorem hv_plus (a : List Int) (k : Nat) : hv (a ++ 1 :: List.replicate k 0) = hv (a ++ 0 :: List.replicate k 1) + 1 := by
  rw [hv_app, hv_app]
  show _ + (1 * 2 ^ (List.replicate k (0 : Int)).length + hv (List.replicate k 0)) = _ + (0 * 2 ^ (List.replicate k (1 : Int)).length + hv (List.replicate k 1)) + 1
  rw [hv_zero, hv_ones]
  simp only [List.length_cons, List.length_replicate]; omega
/-- a list of bits is its number's bits -/
theorem digs_hv {l : List Int} (h : B01 l) : digs true (hv l) l.length = l := by
  have := digs_part true l.length l h rfl
  unfold part at this
  simpa using this
theorem hv_digs (c : Int) (n : Nat) (h : 0 ≤ c ∧ c < 2 ^ n) : hv (digs true c n) = c := by
  have := digs_val true n c h.1 h.2
  unfold part at this
  simpa [digs_len] using this
theorem digs_pad (x : Int) (l d : Nat) (h : 0 ≤ x ∧ x < 2 ^ l) : digs true (x * 2 ^ d) (l + d) = digs true x l ++ List.replicate d 0 := by
  have h1 : B01 (digs true x l ++ List.replicate d 0) := (digs_01 true x l).app (B01.rep d (.inl rfl))
  have h2 := digs_hv h1
  rw [hv_app, hv_zero, hv_digs x l h, List.length_append, digs_len, List.length_replicate, Int.add_zero] at h2
  exact h2

/-! codes of sizes in an order -/
def acc (Z : List Int) (i : Nat) : Int := su ((Z.take i).map wt)
def cb (Z : List Int) (i : Nat) : List Int := digs true (acc Z i / wt (Z.getD i 0)) (Z.getD i 0).toNat
structure Zs (Z : List Int) : Prop where
  rng : ∀ z ∈ Z, 1 ≤ z ∧ z ≤ 16
  srt : Z.Pairwise fun a b => a ≤ b
  sum : su (Z.map wt) ≤ 65536
theorem acc_succ (Z : List Int) (i : Nat) (h : i < Z.length) : acc Z (i + 1) = acc Z i + wt (Z.getD i 0) := by
  unfold acc
  rw [take_add h, List.map_append, su_app]; simp [su]
theorem acc_mono {Z : List Int} (hz : Zs Z) {i j : Nat} (h : i ≤ j) : acc Z i ≤ acc Z j := by
  unfold acc
  have h1 : Z.take j = Z.take i ++ (Z.take j).drop i := by
    have := List.take_append_drop i (Z.take j)
    rw [List.take_take, Nat.min_eq_left h] at this
    exact this.symm
  rw [h1, List.map_append, su_app]
  have : 0 ≤ su (((Z.take j).drop i).map wt) := su_nn (fun x hx => by
    obtain ⟨s, hs, rfl⟩ := List.mem_map.1 hx
    exact wt_nn (hz.rng s (List.mem_of_mem_take (List.mem_of_mem_drop hs))).2)
  omega
theorem acc_le {Z : List Int} (hz : Zs Z) (i : Nat) : 0 ≤ acc Z i ∧ acc Z i ≤ 65536 := by
  have h1 := acc_mono hz (Nat.zero_le i)
  have h2 := acc_mono hz (Nat.le_add_right i Z.length)
  have h3 : acc Z (i + Z.length) = su (Z.map wt) := by unfold acc; rw [List.take_of_length_le (by omega)]
  have h4 : acc Z 0 = 0 := rfl
  have := hz.sum
  omega
theorem wt_mul {a b : Int} (ha : 1 ≤ a ∧ a ≤ b) (hb : b ≤ 16) : wt a = 2 ^ (b - a).toNat * wt b := by
  rw [wt_pos (by omega), wt_pos (by omega), ← Int.pow_add]; congr 1; omega
theorem acc_dvd {Z : List Int} (hz : Zs Z) (i : Nat) (h : i < Z.length) : acc Z i / wt (Z.getD i 0) * wt (Z.getD i 0) = acc Z i := by
  have hzi := hz.rng _ (getD_in h)
  have hall : ∀ z ∈ Z.take i, 1 ≤ z ∧ z ≤ Z.getD i 0 := fun z hm => by
    obtain ⟨j, hj, he⟩ := List.getElem_of_mem hm
    rw [List.length_take] at hj
    have := (List.pairwise_iff_getElem.1 hz.srt) j i (by omega) h (by omega)
    rw [List.getElem_take] at he
    rw [he] at this
    refine ⟨(hz.rng z (List.mem_of_mem_take hm)).1, ?_⟩
    rw [List.getD_eq_getElem?_getD, List.getElem?_eq_getElem h]; exact this
  have hd : ∃ q, acc Z i = q * wt (Z.getD i 0) := by
    unfold acc
    generalize Z.take i = T at *
    clear h
    induction T with
    | nil => exact ⟨0, by simp [su]⟩
    | cons z T ih =>
      obtain ⟨q, hq⟩ := ih (fun y hy => hall y (by simp [hy]))
      refine ⟨2 ^ (Z.getD i 0 - z).toNat + q, ?_⟩
      show wt z + su (T.map wt) = _
      rw [hq, wt_mul (hall z (by simp)) hzi.2, Int.add_mul]
  obtain ⟨q, hq⟩ := hd
  have hw : 1 ≤ wt (Z.getD i 0) := by rw [wt_pos (by omega)]; exact two_pos _
  rw [hq, Int.mul_ediv_cancel _ (by omega)]
theorem cb_len (Z : List Int) (i : Nat) : (cb Z i).length = (Z.getD i 0).toNat := digs_len _ _ _
theorem cb_01 (Z : List Int) (i : Nat) : B01 (cb Z i) := digs_01 _ _ _
theorem wt_two {z : Int} (hz : 1 ≤ z ∧ z ≤ 16) : 2 ^ z.toNat * wt z = 65536 := by
  rw [wt_pos (by omega), ← Int.pow_add, show z.toNat + (16 - z.toNat) = 16 by omega]; rfl
theorem cb_hv {Z : List Int} (hz : Zs Z) (i : Nat) (h : i < Z.length) : hv (cb Z i) = acc Z i / wt (Z.getD i 0) ∧ 0 ≤ acc Z i / wt (Z.getD i 0) ∧ acc Z i / wt (Z.getD i 0) + 1 ≤ 2 ^ (Z.getD i 0).toNat := by
  have hzi := hz.rng _ (getD_in h)
  have hd := acc_dvd hz i h
  have h1 := acc_le hz i
  have h2 := acc_le hz (i + 1)
  rw [acc_succ Z i h] at h2
  have hw : 1 ≤ wt (Z.getD i 0) := by rw [wt_pos (by omega)]; exact two_pos _
  have ht := wt_two hzi
  unfold cb
  generalize wt (Z.getD i 0) = W at *
  have hq0 : 0 ≤ acc Z i / W := Int.ediv_nonneg h1.1 (by omega)
  have hq1 : acc Z i / W + 1 ≤ 2 ^ (Z.getD i 0).toNat := by
    rcases Int.lt_or_le (2 ^ (Z.getD i 0).toNat) (acc Z i / W + 1) with h | h
    · have h3 : (2 ^ (Z.getD i 0).toNat + 1) * W ≤ (acc Z i / W + 1) * W := Int.mul_le_mul_of_nonneg_right (by omega) (by omega)
      rw [Int.add_mul, Int.add_mul, ht, hd, Int.one_mul] at h3
      omega
    · exact h
  exact ⟨hv_digs _ _ ⟨hq0, by omega⟩, hq0, hq1⟩
/-- the next code: one more, and noughts behind it -/
theorem cb_step {Z : List Int} (hz : Zs Z) (i : Nat) (h : i + 1 < Z.length) : hv (cb Z i) + 1 < 2 ^ (Z.getD i 0).toNat ∧ Z.getD i 0 ≤ Z.getD (i + 1) 0 ∧
    cb Z (i + 1) = digs true (hv (cb Z i) + 1) (Z.getD i 0).toNat ++ List.replicate ((Z.getD (i + 1) 0).toNat - (Z.getD i 0).toNat) 0 := by
  have hzi := hz.rng _ (getD_in (show i < Z.length by omega))
  have hzj := hz.rng _ (getD_in h)
  obtain ⟨e1, e2, e3⟩ := cb_hv hz i (by omega)
  obtain ⟨f1, f2, f3⟩ := cb_hv hz (i + 1) h
  have hd := acc_dvd hz i (by omega)
  have hd2 := acc_dvd hz (i + 1) h
  have hs := acc_succ Z i (by omega)
  have hle : Z.getD i 0 ≤ Z.getD (i + 1) 0 := by
    have := (List.pairwise_iff_getElem.1 hz.srt) i (i + 1) (by omega) h (by omega)
    rw [List.getD_eq_getElem?_getD, List.getElem?_eq_getElem (show i < Z.length by omega), List.getD_eq_getElem?_getD, List.getElem?_eq_getElem h]; exact this
  have hw := wt_mul (a := Z.getD i 0) (b := Z.getD (i + 1) 0) ⟨hzi.1, hle⟩ hzj.2
  have hwj : 1 ≤ wt (Z.getD (i + 1) 0) := by rw [wt_pos (by omega)]; exact two_pos _
  have htj := wt_two hzj
  have hti := wt_two hzi
  obtain ⟨x, hx⟩ : ∃ x, x = acc Z i / wt (Z.getD i 0) + 1 := ⟨_, rfl⟩
  have hxw : x * wt (Z.getD i 0) = acc Z (i + 1) := by rw [hx, Int.add_mul, hd, hs, Int.one_mul]
  have hlt : acc Z (i + 1) < 65536 := by
    have := acc_le hz (i + 1 + 1)
    rw [acc_succ Z (i + 1) h] at this; omega
  have hx2 : x < 2 ^ (Z.getD i 0).toNat := by
    rcases Int.lt_or_le x (2 ^ (Z.getD i 0).toNat) with h | h
    · exact h
    · have hwi : 0 ≤ wt (Z.getD i 0) := wt_nn hzi.2
      have := Int.mul_le_mul_of_nonneg_right h hwi
      rw [hti, hxw] at this; omega
  have hc2 : acc Z (i + 1) / wt (Z.getD (i + 1) 0) = x * 2 ^ (Z.getD (i + 1) 0 - Z.getD i 0).toNat := by
    rw [← hxw, hw, ← Int.mul_assoc, Int.mul_ediv_cancel _ (by omega)]
  rw [e1, ← hx]
  refine ⟨hx2, hle, ?_⟩
  unfold cb
  rw [hc2]
  have hn : (Z.getD (i + 1) 0).toNat = (Z.getD i 0).toNat + (Z.getD (i + 1) 0 - Z.getD i 0).toNat := by omega
  rw [hn, digs_pad x _ _ ⟨by omega, hx2⟩]
  congr 2; omega
theorem cb_zero {Z : List Int} : cb Z 0 = List.replicate (Z.getD 0 0).toNat 0 := by
  unfold cb
  have h0 : acc Z 0 = 0 := rfl
  rw [h0, Int.zero_ediv]
  have := digs_pad 0 0 (Z.getD 0 0).toNat (by decide)
  rw [Int.zero_mul, Nat.zero_add] at this
  rw [this]; rfl

/-! contracts -/
set_option maxHeartbeats 1000000 in
theorem number04_any (A : Option Addr) (n c : Nat) (l : List Int) (B : Nat) (w : World) (hn : l.length = n) (hR : Rd w B A (iv l)) (hB : B01 l) (hm : n ≤ 60) :
    Calls Try.prog 37 #[.slice A n c] w fun e w' => e = .returned (.int .i64 (hv l)) ∧ w' = w := by
  have HN := Lib.hid hn
  clear hn
  have hp2 : ∀ l' : List Int, l'.length ≤ n → (2 : Int) ^ l'.length ≤ 1152921504606846976 := fun l' hl => by
    have := Nat.pow_le_pow_right (show 0 < 2 by omega) (show l'.length ≤ 60 by omega)
    rw [show (1152921504606846976 : Int) = 2 ^ 60 from rfl, ← two_cast, ← two_cast]; omega
  have HP := Lib.hid hp2
  clear hp2
  go_enter Try.func37, Try.ntmps37
  go_wp2
  go_loop [3, 8] (fun v i => ∃ k : Nat, k ≤ n ∧ i = .int .i64 k ∧ v = .int .i64 (hv (l.take k))) (fun _ i => n - (intOf i).toNat)
  case atStart => exact ⟨0, Nat.zero_le _, rfl, rfl⟩
  case round =>
    obtain ⟨k, hk, rfl, rfl⟩ := hrel
    by_cases hlt : k < n
    · obtain ⟨b, off, rfl, hbl, hcell⟩ := hR.at_ (k := k) (by rw [iv_len, HN.out]; omega)
      have hcl := hcell k _ (iv_get (by rw [HN.out]; omega))
      have h01 := getD_01 hB k
      have hbd := hv_bd (hB.take k)
      have hp := HP.out (l.take k) (by rw [List.length_take]; omega)
      have hst : hv (l.take (k + 1)) = 2 * hv (l.take k) + l.getD k 0 := by
        rw [take_get l k (by rw [HN.out]; omega), hv_snoc]
      have HS := Lib.hid hst
      clear hst hcell
      generalize hx : l.getD k 0 = x at *
      generalize hv (l.take k) = y at *
      generalize (2 : Int) ^ (l.take k).length = z at *
      clear hx
      go_wp2
      go_round
      case rel => exact ⟨k + 1, by omega, by go_num, by rw [HS.out]⟩
      case measure => simp [intOf]; omega
    · go_wp2
      go_ret
      obtain rfl : k = n := by omega
      exact ⟨ret_int (by rw [List.take_of_length_le (by rw [HN.out]; omega)]), rfl⟩

set_option maxHeartbeats 2000000 in
theorem plus_any (A : Option Addr) (n c : Nat) (l : List Int) (w : World) (hn : l.length = n) (hR : Rd w w.heap.size A (iv l)) (hB : B01 l) (hm : n ≤ 60) (hlt : hv l + 1 < 2 ^ n) :
    Calls Try.prog 137 #[.slice A n c] w fun e w' => ∃ v, e = .returned v ∧ w'.ownsRow w.heap.size 3 1 v n (iv (digs true (hv l + 1) n)) ∧ Below w.heap.size w w' := by
  obtain ⟨i0, hi, hz0, hz1, hz2⟩ := info_parts Try.info_int
  have HN := Lib.hid hn
  have HLT := Lib.hid hlt
  have hn0 : 0 < n := by
    rcases Nat.eq_zero_or_pos n with h | h
    · subst h
      have := hv_bd hB
      simp at hlt; omega
    · exact h
  clear hn hlt
  have hb0 : Below w.heap.size w (w.alloc (.cells #[] 3)) := (Below.refl _ _).alloc (Nat.le_refl _) _
  have hown0 : (w.alloc (.cells #[] 3)).ownsRow w.heap.size 3 1 (.slice (some ⟨w.heap.size, 0, none⟩) 0 0) 0 [] :=
    World.ownsRow_made w #[] 0 (Nat.le_refl _) (by unfold maxLen; omega) (by simp)
  have hR0 := hR.below hb0
  go_enter Try.func137, Try.ntmps137
  go_wp2_with (at_builtin; refine wpList_app2 _ rfl (.tmp 5) (.tmp 6) 24 rfl Try.underlying24 hi hz0 hz1 hz2 rfl hown0 rfl rfl hR0 (by rw [iv_len, HN.out]) (one_iv l) (by omega) (by omega) hb0.size ?_; intro v1 w1 hown1 hg1; have hb1 : Below w.heap.size w w1 := below_app2 hb0 hown0 hg1 (Nat.le_refl _) hb0.size; simp only [Nat.zero_add, List.nil_append] at hown1; obtain ⟨g, d, rfl, hcap, hdm, hgb, _⟩ := own_pos hown1 hn0)
  go_loopw [4] (fun i wr => ∃ j : Nat, j ≤ n ∧ i = .int .i64 ((j : Int) - 1) ∧ wr.ownsRow w.heap.size 3 1 (.slice (some ⟨g, 0, none⟩) n d) n (iv (l.take j ++ List.replicate (n - j) 0)) ∧ Hid (l = l.take j ++ List.replicate (n - j) 1) ∧ Below w.heap.size w wr) (fun i _ => (intOf i + 1).toNat)
  case atStart => exact ⟨n, Nat.le_refl _, rfl, by rw [List.take_of_length_le (by rw [HN.out]; omega), Nat.sub_self]; simpa using hown1, Lib.hid (by rw [List.take_of_length_le (by rw [HN.out]; omega), Nat.sub_self]; simp), hb1⟩
  case round =>
    obtain ⟨j, hj, rfl, hown, HL, hb⟩ := hrel
    clear hown1 hb1 hg1
    by_cases hj0 : 0 < j
    · obtain ⟨q, hq⟩ : ∃ q, j = q + 1 := ⟨j - 1, by omega⟩
      subst hq
      have hqn : q < n := by omega
      have htk := take_get l q (by rw [HN.out]; exact hqn)
      have hx01 := getD_01 hB q
      have hcl := hown.cellAt q (by omega)
      rw [htk, List.append_assoc, iv_app, List.getElem?_append_right (by rw [iv_len, List.length_take]; omega), iv_len, List.length_take, HN.out, Nat.min_eq_left (by omega), Nat.sub_self] at hcl
      have hcl' : wr.cell? ⟨g, q, none⟩ = some (.int .i64 (l.getD q 0)) := by rw [hcl]; simp [iv]
      have hfz := hown.frozenAt q
      have hst : ∀ z : Int, (wr.setCell ⟨g, q, none⟩ (.int .i64 z)).ownsRow w.heap.size 3 1 (.slice (some ⟨g, 0, none⟩) n d) n (iv (l.take q ++ z :: List.replicate (n - (q + 1)) 0)) := fun z => by
        have h := (hown.stored q (.int .i64 z)).1
        have e : (iv (l.take (q + 1) ++ List.replicate (n - (q + 1)) 0)).set q (.int .i64 z) = iv (l.take q ++ z :: List.replicate (n - (q + 1)) 0) := by
          rw [htk, List.append_assoc, iv_app, List.set_append_right _ _ (by rw [iv_len, List.length_take]; omega), iv_len, List.length_take, HN.out, Nat.min_eq_left (by omega), Nat.sub_self, iv_app]
          simp [iv]
        rwa [e] at h
      have hL := HL.out
      rw [htk, List.append_assoc] at hL
      have HLQ := Lib.hid hL
      have HST := Lib.hid hst
      clear hcl htk hown hst hL
      have hqi : ((q + 1 : Nat) : Int) - 1 = (q : Int) := by omega
      rw [hqi]
      clear hqi
      rcases hx01 with hx0 | hx1
      · rw [hx0] at hcl'
        have hl0 : l = l.take q ++ 0 :: List.replicate (n - (q + 1)) 1 := by have h := HLQ.out; rw [hx0] at h; exact h
        have hval := hv_plus (l.take q) (n - (q + 1))
        rw [← hl0] at hval
        have hR01 : B01 (l.take q ++ 1 :: List.replicate (n - (q + 1)) 0) := (hB.take q).app ((B01.one (.inr rfl)).app (B01.rep _ (.inl rfl)))
        have hlen : (l.take q ++ (1 : Int) :: List.replicate (n - (q + 1)) 0).length = n := by simp [HN.out]; omega
        have hdg := digs_hv hR01
        rw [hval, hlen] at hdg
        have HD := Lib.hid hdg
        clear hx0 hl0 hval hR01 hlen hdg
        go_wp2
        go_ret
        exact ⟨_, rfl, by rw [HD.out]; exact HST.out 1, hb.setCell hgb _⟩
      · rw [hx1] at hcl'
        have hl1 : l = l.take q ++ List.replicate (n - q) 1 := by
          have h := HLQ.out
          rw [hx1] at h
          rw [show n - q = (n - (q + 1)) + 1 by omega, List.replicate_succ]; exact h
        have HL1 := Lib.hid hl1
        clear hx1 hl1
        go_wp2
        go_roundw
        case rel => exact ⟨q, by omega, by go_num, by rw [show n - q = (n - (q + 1)) + 1 by omega, List.replicate_succ]; exact HST.out 0, Lib.hid HL1.out, hb.setCell hgb _⟩
        case measure => (simp [intOf] <;> omega)
    · exfalso
      have h := HL.out
      rw [show j = 0 by omega, Nat.sub_zero, List.take_zero, List.nil_append] at h
      have h2 := HLT.out
      rw [h, hv_ones] at h2; omega

def RFreed (ls : List Int) (w : World) (e : Ending) (w' : World) : Prop :=
  (Fm ls → e = .returned (.tuple #[.int .i64 (65536 - kr ls), .bool true])) ∧ (¬ Fm ls → ∃ x : Int, e = .returned (.tuple #[.int .i64 x, .bool false])) ∧ w = w'

set_option maxHeartbeats 2000000 in
theorem rfree_any (A : Option Addr) (n c : Nat) (ls : List Int) (B : Nat) (w : World) (hn : ls.length = n) (hR : Rd w B A (iv ls)) (hI : Is ls) :
    Calls Try.prog 33 #[.slice A n c] w (RFreed ls w) := by
  have HN := Lib.hid hn
  by_cases hl : 512 < n
  · have hnf : ¬ Fm ls := fun h => by have := h.1; omega
    have HNF := Lib.hid hnf
    clear hn hnf
    go_enter Try.func33, Try.ntmps33
    go_wp2
    go_ret2
    exact ⟨fun h => absurd h HNF.out, fun _ => ⟨_, rfl⟩, rfl⟩
  clear hn
  go_enter Try.func33, Try.ntmps33
  go_wp2
  go_loop [4, 5] (fun v i => ∃ k : Nat, k ≤ n ∧ i = .int .i64 k ∧ v = .int .i64 (kr (ls.take k)) ∧ Vl (ls.take k)) (fun _ i => n - (intOf i).toNat)
  case atStart => exact ⟨0, Nat.zero_le _, rfl, rfl, by intro x hx; simp at hx⟩
  case round =>
    obtain ⟨k, hk, rfl, rfl, hv⟩ := hrel
    have hkb := kr_bd hv
    have hkl : (ls.take k).length ≤ 512 := by rw [List.length_take]; omega
    have HV := Lib.hid hv
    clear hv
    by_cases hlt : k < n
    · obtain ⟨b, off, rfl, _, hcell⟩ := hR.at_ (k := k) (by rw [iv_len, HN.out]; exact hlt)
      have hc := hcell k _ (ivs_get (by rw [HN.out]; exact hlt))
      have hin := getD_in (l := ls) (k := k) (by rw [HN.out]; exact hlt)
      have hxb := hI _ hin
      have hkt := kr_take ls k (by rw [HN.out]; exact hlt)
      have htk := take_add (l := ls) (k := k) (by rw [HN.out]; exact hlt)
      have HIN := Lib.hid hin
      have HKT := Lib.hid hkt
      have HTK := Lib.hid htk
      clear hcell hin hkt htk
      generalize ls.getD k 0 = x at *
      by_cases hx : 0 ≤ x ∧ x ≤ 16
      · have HVN : Hid (Vl (ls.take (k + 1))) := Lib.hid (by
          rw [HTK.out]; intro y hy
          rcases List.mem_append.1 hy with hy | hy
          · exact HV.out y hy
          · simp at hy; rw [hy]; exact hx)
        by_cases hx0 : 0 < x
        · obtain ⟨X, rfl⟩ := Int.eq_ofNat_of_zero_le hx.1
          have hwx : (65536 : Int) / 2 ^ X = wt X := by unfold wt; rw [if_pos hx0, Int.toNat_natCast]
          have hw1 := wt_le (X : Int)
          have hw2 := wt_nn hx.2
          have HW := Lib.hid hwx
          clear hwx
          generalize kr (ls.take k) = K at *
          go_wp2
          go_loop [6, 7] (fun v i => ∃ j : Nat, j ≤ X ∧ i = .int .i64 j ∧ ∃ z : Int, v = .int .i64 z ∧ (0 ≤ z ∧ z ≤ 65536) ∧ Hid (z = 65536 / 2 ^ j)) (fun _ i => X - (intOf i).toNat)
          case atStart => exact ⟨0, Nat.zero_le _, rfl, 65536, rfl, by omega, Lib.hid rfl⟩
          case round =>
            obtain ⟨j, hj, rfl, z, rfl, hz, HZ⟩ := hrel
            by_cases hjx : j < X
            · go_wp2
              go_round
              case rel => exact ⟨j + 1, by omega, by go_num, z / 2, rfl, ⟨by omega, by omega⟩, Lib.hid (by rw [HZ.out, two_succ, Int.mul_comm, Int.ediv_ediv_of_nonneg (by have := two_pos j; omega)])⟩
              case measure => simp [intOf]; omega
            · have hzw : z = wt X := by
                have h := HZ.out
                rw [show j = X by omega, HW.out] at h; exact h
              have hzb : 0 ≤ z ∧ z ≤ 32768 := by rw [hzw]; exact ⟨hw2, hw1⟩
              have HZW := Lib.hid hzw
              clear hzw
              go_wp2
              go_round
              case rel => exact ⟨k + 1, by omega, by go_num, by rw [HKT.out, HZW.out], HVN.out⟩
              case measure => simp [intOf]; omega
        · have hw0 : wt x = 0 := by unfold wt; rw [if_neg hx0]
          have HW := Lib.hid hw0
          clear hw0
          generalize kr (ls.take k) = K at *
          go_wp2
          go_round
          case rel => exact ⟨k + 1, by omega, by go_num, by rw [HKT.out, HW.out, Int.add_zero], HVN.out⟩
          case measure => simp [intOf]; omega
      · have hnf : ¬ Fm ls := fun h => hx (h.2.1 x HIN.out)
        have HNF := Lib.hid hnf
        clear hnf
        by_cases hx0 : x < 0
        · go_wp2
          go_ret2
          exact ⟨fun h => absurd h HNF.out, fun _ => ⟨_, rfl⟩, rfl⟩
        · go_wp2
          go_ret2
          exact ⟨fun h => absurd h HNF.out, fun _ => ⟨_, rfl⟩, rfl⟩
    · have htk : ls.take k = ls := List.take_of_length_le (by rw [HN.out]; omega)
      rw [htk] at hkb ⊢
      have hv := HV.out
      rw [htk] at hv
      by_cases hneg : kr ls ≤ 65536
      · have hf : Fm ls := ⟨by rw [HN.out]; omega, hv, hneg⟩
        have hdk : decide (kr ls ≤ 65536) = true := by simpa using hneg
        have HF := Lib.hid hf
        clear hf htk hv
        go_wp2
        go_ret2
        exact ⟨fun _ => by first | rfl | (simp; omega), fun h => absurd HF.out h, rfl⟩
      · have hnf : ¬ Fm ls := fun h => hneg h.2.2
        have hdk : decide (kr ls ≤ 65536) = false := by simpa using hneg
        have HNF := Lib.hid hnf
        clear hnf htk hv
        go_wp2
        go_ret2
        exact ⟨fun h => absurd h HNF.out, fun _ => ⟨_, by first | rfl | (simp; omega)⟩, rfl⟩
end Go.Proofs.Ytlhappecjjbopaa
