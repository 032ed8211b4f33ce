/-
  The document's answer for bits: Fits, Digits, Number, Bits, Bytes, by contracts. Conditions: numbers of at most 62 bits, lists of at most 2^40 bits.
  The document's answer for bits: Number, Bits, Bytes, by contracts. Conditions: lists of at most 2^30 bits.
-/
import Derived.Test.YtlhappecjjbopaaBiC
import Derived.Laws.OwnMore
namespace Go.Proofs.Ytlhappecjjbopaa
open Go.RowKit
set_option linter.unusedVariables false
set_option maxRecDepth 100000

theorem digs_succ (h : Bool) (n : Int) (k : Nat) : digs h n (k + 1) = if h then n / 2 ^ k % 2 :: digs h n k else digs h n k ++ [n / 2 ^ k % 2] := by
  apply List.ext_getElem?
  intro i
  cases h
  · simp only [Bool.false_eq_true, if_false]
    by_cases hi : i < k
    · rw [digs_at false (k + 1) n i (by omega), List.getElem?_append_left (by rw [digs_len]; exact hi), digs_at false k n i hi]; simp [pk]
    · by_cases he : i = k
      · subst he
        rw [digs_at false (i + 1) n i (by omega), List.getElem?_append_right (by rw [digs_len]; omega), digs_len]; simp [pk]
      · rw [List.getElem?_eq_none (by rw [digs_len]; omega), List.getElem?_eq_none (by rw [List.length_append, digs_len]; simp; omega)]
  · simp only [if_true]
    match i with
    | 0 => rw [digs_at true (k + 1) n 0 (by omega)]; simp [pk]
    | i + 1 =>
      rw [List.getElem?_cons_succ]
      by_cases hi : i < k
      · rw [digs_at true (k + 1) n (i + 1) (by omega), digs_at true k n i hi]; simp only [pk, if_true]; rw [show k + 1 - 1 - (i + 1) = k - 1 - i by omega]
      · rw [List.getElem?_eq_none (by rw [digs_len]; omega), List.getElem?_eq_none (by rw [digs_len]; omega)]

theorem fits_any (n c : Int) (b : Bool) (hb : decide (Fit n c) = b) (hn : -9223372036854775808 ≤ n ∧ n ≤ 9223372036854775807) (w : World) :
    Calls Try.prog 74 #[.int .i64 n, .int .i64 c] w fun e w' => e = .returned (.bool b) ∧ w = w' := by
  subst hb
  by_cases h1 : 0 ≤ c ∧ c ≤ 32
  · by_cases h2 : 0 ≤ n
    · obtain ⟨C, rfl⟩ := Int.eq_ofNat_of_zero_le h1.1
      have hfin : ∀ z, z = n / 2 ^ C → (z == 0) = decide (Fit n C) := fun z hz => by
        rw [Bool.eq_iff_iff]
        simp only [beq_iff_eq, decide_eq_true_eq, Fit, Int.toNat_natCast, ← hz]
        exact ⟨fun h => ⟨h1, h2, h⟩, fun h => h.2.2⟩
      have HF := Lib.hid hfin
      clear hfin
      go_enter Try.func74, Try.ntmps74
      go_wp2
      go_loop [0, 5] (fun v i => ∃ k : Nat, k ≤ C ∧ i = .int .i64 k ∧ ∃ z : Int, v = .int .i64 z ∧ (0 ≤ z ∧ z ≤ n) ∧ Hid (z = n / 2 ^ k)) (fun _ i => C - (intOf i).toNat)
      case atStart => exact ⟨0, Nat.zero_le _, rfl, n, rfl, ⟨h2, Int.le_refl _⟩, Lib.hid (by simp)⟩
      case round =>
        obtain ⟨k, hk, rfl, z, rfl, hz, HZ⟩ := hrel
        by_cases hlt : k < C
        · go_wp2
          go_round
          case rel => exact ⟨k + 1, by omega, by go_num, z / 2, rfl, ⟨by omega, by omega⟩, Lib.hid (by rw [HZ.out, two_succ, Int.mul_comm, Int.ediv_ediv_of_nonneg (by have := two_pos k; omega)])⟩
          case measure => simp [intOf]; omega
        · go_wp2
          go_ret
          obtain rfl : k = C := by omega
          exact ⟨ret_bool (HF.out z HZ.out), rfl⟩
    · have hF : decide (Fit n c) = false := decide_eq_false (fun h => h2 h.2.1)
      rw [hF]
      clear hF
      go_enter Try.func74, Try.ntmps74
      go_wp2
      go_ret
      exact ⟨rfl, rfl⟩
  · have hF : decide (Fit n c) = false := decide_eq_false (fun h => h1 h.1)
    rw [hF]
    clear hF
    go_enter Try.func74, Try.ntmps74
    by_cases h2 : c < 0
    · go_wp2
      go_ret
      exact ⟨rfl, rfl⟩
    · go_wp2
      go_ret
      exact ⟨rfl, rfl⟩

set_option maxHeartbeats 1000000 in
theorem digits_any (n : Int) (c : Nat) (h : Bool) (hn : 0 ≤ n ∧ n ≤ 4611686018427387904) (hc : c ≤ 100) (w : World) :
    Calls Try.prog 121 #[.int .i64 n, .int .i64 c, .bool h] w fun e w' => ∃ v, e = .returned v ∧ w'.ownsRow w.heap.size 3 1 v c (iv (digs h n c)) ∧ Below w.heap.size w w' := by
  obtain ⟨i0, hi, hz0, hz1, hz2⟩ := info_parts Try.info_int
  cases h
  · go_enter Try.func121, Try.ntmps121
    go_wp2
    go_loopw [0, 7, 8] (fun m v i wr => ∃ k : Nat, k ≤ c ∧ i = .int .i64 k ∧ ∃ z : Int, m = .int .i64 z ∧ (0 ≤ z ∧ z ≤ n) ∧ Hid (z = n / 2 ^ k) ∧ wr.ownsRow w.heap.size 3 1 v k (iv (digs false n k)) ∧ Below w.heap.size w wr) (fun _ _ i _ => c - (intOf i).toNat)
    case atStart => exact ⟨0, Nat.zero_le _, rfl, n, rfl, ⟨hn.1, Int.le_refl _⟩, Lib.hid (by simp), World.ownsRow_nil _ _ _ _, Below.refl _ _⟩
    case round =>
      obtain ⟨k, hk, rfl, z, rfl, hz, HZ, hown, hb⟩ := hrel
      by_cases hlt : k < c
      · have hsz := hb.size
        have hown' := hown.alloc (.cells #[Value.int .i64 (z % 2)] 3)
        go_wp2_with (at_builtin; refine wpList_app2 _ rfl (.tmp 20) (.tmp 23) 24 rfl Try.underlying24 hi hz0 hz1 hz2 rfl hown' rfl rfl (Rd.new1 _ _ _) rfl (by simp [Value.oneCell']) (by omega) (by omega) (by simp; omega) ?_; intro v1 w1 hown1 hg1; have hb1 : Below w.heap.size w w1 := below_app2 (hb.alloc hsz _) hown' hg1 (Nat.le_refl _) (by simp; omega))
        go_roundw
        case rel => exact ⟨k + 1, by omega, by go_num, z / 2, rfl, ⟨by omega, by omega⟩, Lib.hid (by rw [HZ.out, two_succ, Int.mul_comm, Int.ediv_ediv_of_nonneg (by have := two_pos k; omega)]), by rw [digs_succ, if_neg (by decide), iv_app, ← HZ.out]; exact hown1, hb1⟩
        case measure => simp [intOf]; omega
      · go_wp2
        go_ret
        obtain rfl : k = c := by omega
        exact ⟨_, rfl, hown, hb⟩
  · go_enter Try.func121, Try.ntmps121
    go_wp2
    go_loopw [0, 7, 8] (fun m v i wr => ∃ k : Nat, k ≤ c ∧ i = .int .i64 k ∧ ∃ z : Int, m = .int .i64 z ∧ (0 ≤ z ∧ z ≤ n) ∧ Hid (z = n / 2 ^ k) ∧ wr.ownsRow w.heap.size 3 1 v k (iv (digs true n k)) ∧ Below w.heap.size w wr) (fun _ _ i _ => c - (intOf i).toNat)
    case atStart => exact ⟨0, Nat.zero_le _, rfl, n, rfl, ⟨hn.1, Int.le_refl _⟩, Lib.hid (by simp), World.ownsRow_nil _ _ _ _, Below.refl _ _⟩
    case round =>
      obtain ⟨k, hk, rfl, z, rfl, hz, HZ, hown, hb⟩ := hrel
      by_cases hlt : k < c
      · have hsz := hb.size
        have hlen : (iv (digs true n k)).length = k := by rw [iv_len, digs_len]
        have HL := Lib.hid hlen
        clear hlen
        obtain ⟨A, d, rfl, hR⟩ := own_slice hown
        have hown' : (wr.alloc (.cells #[Value.int .i64 (z % 2)] 3)).ownsRow w.heap.size 3 1 (.slice (some ⟨wr.heap.size, 0, none⟩) 1 1) 1 [Value.int .i64 (z % 2)] := World.ownsRow_lit wr _ 1 hsz (by unfold maxLen; omega) rfl
        have hRa := hR.below ((Below.refl wr.heap.size wr).alloc (Nat.le_refl _) (.cells #[Value.int .i64 (z % 2)] 3))
        clear hR
        go_wp2_with (at_builtin; refine wpList_app2 _ rfl (.tmp 17) (.tmp 18) 24 rfl Try.underlying24 hi hz0 hz1 hz2 rfl hown' rfl rfl hRa HL.out (one_iv _) (by omega) (by omega) (by simp; omega) ?_; intro v1 w1 hown1 hg1; have hb1 : Below w.heap.size w w1 := below_app2 (hb.alloc hsz _) hown' hg1 (Nat.le_refl _) (by simp; omega))
        go_roundw
        case rel => exact ⟨k + 1, by omega, by go_num, z / 2, rfl, ⟨by omega, by omega⟩, Lib.hid (by rw [HZ.out, two_succ, Int.mul_comm, Int.ediv_ediv_of_nonneg (by have := two_pos k; omega)]), by rw [digs_succ, if_pos rfl, ← HZ.out, show k + 1 = 1 + k by omega]; exact hown1, hb1⟩
        case measure => simp [intOf]; omega
      · go_wp2
        go_ret
        obtain rfl : k = c := by omega
        exact ⟨_, rfl, hown, hb⟩
end Go.Proofs.Ytlhappecjjbopaa
namespace Go.Proofs.Ytlhappecjjbopaa
open Go.RowKit
set_option linter.unusedVariables false
set_option maxRecDepth 100000

theorem take_get (l : List Int) (k : Nat) (hk : k < l.length) : l.take (k + 1) = l.take k ++ [l.getD k 0] := by
  rw [List.take_add_one, List.getElem?_eq_getElem hk, List.getD_eq_getElem?_getD, List.getElem?_eq_getElem hk]; rfl
theorem drop_get (l : List Int) (k : Nat) (hk : k < l.length) : l.drop k = l.getD k 0 :: l.drop (k + 1) := by
  rw [List.drop_eq_getElem_cons hk, List.getD_eq_getElem?_getD, List.getElem?_eq_getElem hk]; rfl
theorem getD_01 {l : List Int} (h : B01 l) (k : Nat) : l.getD k 0 = 0 ∨ l.getD k 0 = 1 := by
  by_cases hk : k < l.length
  · rw [List.getD_eq_getElem?_getD, List.getElem?_eq_getElem hk]; exact h _ (List.getElem_mem _)
  · left; rw [List.getD_eq_getElem?_getD, List.getElem?_eq_none (by omega)]; rfl
theorem iv_get {l : List Int} {i : Nat} (h : i < l.length) : (iv l)[i]? = some (.int .i64 (l.getD i 0)) := by
  simp [iv, h, List.getD_eq_getElem?_getD]

set_option maxHeartbeats 1000000 in
theorem number_any (A : Option Addr) (n c : Nat) (l : List Int) (h : Bool) (B : Nat) (w : World) (hn : l.length = n) (hR : Rd w B A (iv l)) (hB : B01 l) (hm : n ≤ 60) :
    Calls Try.prog 127 #[.slice A n c, .bool h] w fun e w' => e = .returned (.int .i64 (part h n l)) ∧ w = w' := by
  have HN := Lib.hid hn
  clear hn
  have hp2 : ∀ l' : List Int, l'.length ≤ n → (2 : Int) ^ l'.length ≤ 1152921504606846976 := fun l' hl => by
    have := Nat.pow_le_pow_right (show 0 < 2 by omega) (show l'.length ≤ 60 by omega)
    rw [show (1152921504606846976 : Int) = 2 ^ 60 from rfl, ← two_cast, ← two_cast]; omega
  have HP := Lib.hid hp2
  clear hp2
  cases h
  · go_enter Try.func127, Try.ntmps127
    go_wp2
    go_loop [5, 6] (fun v i => ∃ k : Nat, k ≤ n ∧ i = .int .i64 k ∧ v = .int .i64 (lv (l.drop (n - k)))) (fun _ i => n - (intOf i).toNat)
    case atStart => exact ⟨0, Nat.zero_le _, rfl, by rw [List.drop_of_length_le (by rw [HN.out]; omega)]; rfl⟩
    case round =>
      obtain ⟨k, hk, rfl, rfl⟩ := hrel
      by_cases hlt : k < n
      · obtain ⟨b, off, rfl, hbl, hcell⟩ := hR.at_ (k := n - 1 - k) (by rw [iv_len, HN.out]; omega)
        have hcl := hcell (n - 1 - k) _ (iv_get (by rw [HN.out]; omega))
        have h01 := getD_01 hB (n - 1 - k)
        have hbd := lv_bd (hB.drop (n - k))
        have hp := HP.out (l.drop (n - k)) (by rw [List.length_drop, HN.out]; omega)
        have hst : lv (l.drop (n - (k + 1))) = 2 * lv (l.drop (n - k)) + l.getD (n - 1 - k) 0 := by
          rw [show n - (k + 1) = n - 1 - k by omega, drop_get l (n - 1 - k) (by rw [HN.out]; omega), show n - 1 - k + 1 = n - k by omega]
          show l.getD (n - 1 - k) 0 + 2 * lv (l.drop (n - k)) = _
          omega
        have HS := Lib.hid hst
        clear hst hcell
        generalize hx : l.getD (n - 1 - k) 0 = x at *
        generalize lv (l.drop (n - k)) = y at *
        generalize (2 : Int) ^ (l.drop (n - k)).length = z at *
        obtain ⟨q, hq⟩ : ∃ q, q = n - 1 - k := ⟨_, rfl⟩
        rw [← hq] at hcl
        have hq1 : (n : Int) - 1 - (k : Int) = (q : Int) := by omega
        have hqn : q < n := by omega
        clear hq hx
        go_wp2
        go_round
        case rel => exact ⟨k + 1, by omega, by go_num, by rw [HS.out]⟩
        case measure => simp [intOf]; omega
      · go_wp2
        go_ret
        obtain rfl : k = n := by omega
        exact ⟨ret_int (by rw [Nat.sub_self, List.drop_zero]; rfl), rfl⟩
  · go_enter Try.func127, Try.ntmps127
    go_wp2
    go_loop [5, 6] (fun v i => ∃ k : Nat, k ≤ n ∧ i = .int .i64 k ∧ v = .int .i64 (hv (l.take k))) (fun _ i => n - (intOf i).toNat)
    case atStart => exact ⟨0, Nat.zero_le _, rfl, rfl⟩
    case round =>
      obtain ⟨k, hk, rfl, rfl⟩ := hrel
      by_cases hlt : k < n
      · obtain ⟨b, off, rfl, hbl, hcell⟩ := hR.at_ (k := k) (by rw [iv_len, HN.out]; omega)
        have hcl := hcell k _ (iv_get (by rw [HN.out]; omega))
        have h01 := getD_01 hB k
        have hbd := hv_bd (hB.take k)
        have hp := HP.out (l.take k) (by rw [List.length_take]; omega)
        have hst : hv (l.take (k + 1)) = 2 * hv (l.take k) + l.getD k 0 := by
          rw [take_get l k (by rw [HN.out]; omega), hv_snoc]
        have HS := Lib.hid hst
        clear hst hcell
        generalize hx : l.getD k 0 = x at *
        generalize hv (l.take k) = y at *
        generalize (2 : Int) ^ (l.take k).length = z at *
        clear hx
        go_wp2
        go_round
        case rel => exact ⟨k + 1, by omega, by go_num, by rw [HS.out]⟩
        case measure => simp [intOf]; omega
      · go_wp2
        go_ret
        obtain rfl : k = n := by omega
        exact ⟨ret_int (by rw [List.take_of_length_le (by rw [HN.out]; omega)]; unfold part; simp [HN.out]), rfl⟩

set_option maxHeartbeats 1000000 in
theorem rbits_any (A : Option Addr) (n c : Nat) (l : List Int) (h : Bool) (w : World) (hn : l.length = n) (hR : Rd w w.heap.size A (bv l)) (hB : Bs l) (hm : n ≤ 134217728) :
    Calls Try.prog 86 #[.slice A n c, .bool h] w fun e w' => ∃ v, e = .returned v ∧ w'.ownsRow w.heap.size 3 1 v (8 * n) (iv (bitsOf h l)) ∧ Below w.heap.size w w' := by
  obtain ⟨i0, hi, hz0, hz1, hz2⟩ := info_parts Try.info_int
  have HN := Lib.hid hn
  clear hn
  go_enter Try.func86, Try.ntmps86
  go_wp2
  go_loopw [5, 6] (fun v i wr => ∃ k : Nat, k ≤ n ∧ i = .int .i64 k ∧ wr.ownsRow w.heap.size 3 1 v (8 * k) (iv (bitsOf h (l.take k))) ∧ Below w.heap.size w wr) (fun _ i _ => n - (intOf i).toNat)
  case atStart => exact ⟨0, Nat.zero_le _, rfl, World.ownsRow_nil _ _ _ _, Below.refl _ _⟩
  case round =>
    obtain ⟨k, hk, rfl, hown, hb⟩ := hrel
    by_cases hlt : k < n
    · have hsz := hb.size
      obtain ⟨b, off, rfl, hbl, hcell⟩ := (hR.below hb).at_ (k := k) (by rw [bv_len, HN.out]; omega)
      have hcl := hcell k _ (bv_get (by rw [HN.out]; omega))
      have hxb : 0 ≤ l.getD k 0 ∧ l.getD k 0 ≤ 255 := by
        have hin : l.getD k 0 ∈ l := by rw [List.getD_eq_getElem?_getD, List.getElem?_eq_getElem (by rw [HN.out]; omega)]; exact List.getElem_mem _
        exact hB _ hin
      have hst : iv (bitsOf h (l.take (k + 1))) = iv (bitsOf h (l.take k)) ++ iv (digs h (l.getD k 0) 8) := by
        rw [take_get l k (by rw [HN.out]; omega), bitsOf_app, iv_app]; simp [bitsOf]
      have HS := Lib.hid hst
      have hdl : (iv (digs h (l.getD k 0) 8)).length = 8 := by rw [iv_len, digs_len]
      have HD := Lib.hid hdl
      clear hst hcell hdl
      generalize l.getD k 0 = x at *
      go_wp2_with (first
        | (go_at_call 121; refine (digits_any x 8 h (by omega) (by omega) _).mono ?_; rintro e w1 ⟨v1, rfl, ho1, hb1⟩; have hown1 := own_keep hown hb1; have hb1' := hb.trans (hb1.mono hsz); obtain ⟨A1, c1, rfl, hR1⟩ := own_slice ho1)
        | (at_builtin; refine wpList_app2 _ rfl (.tmp 13) (.tmp 20) 24 rfl Try.underlying24 hi hz0 hz1 hz2 rfl hown1 rfl rfl hR1 HD.out (one_iv _) (by omega) (by omega) hb1'.size ?_; intro v2 w2 hown2 hg2; have hb2 : Below w.heap.size w w2 := below_app2 hb1' hown1 hg2 (Nat.le_refl _) hb1'.size))
      go_roundw
      case rel => exact ⟨k + 1, by omega, by go_num, by rw [HS.out, show 8 * (k + 1) = 8 * k + 8 by omega]; exact hown2, hb2⟩
      case measure => simp [intOf]; omega
    · go_wp2
      go_ret
      obtain rfl : k = n := by omega
      exact ⟨_, rfl, by rw [List.take_of_length_le (by rw [HN.out]; omega)] at hown; exact hown, hb⟩

theorem full_at (h : Bool) (l : List Int) (i : Nat) (hi : i < 8 * nby l.length) : (full h l).getD i 0 = if i < l.length then l.getD i 0 else fill1 h := by
  unfold full
  rw [List.getD_eq_getElem?_getD, List.getD_eq_getElem?_getD]
  split
  · rename_i h1; rw [List.getElem?_append_left h1]
  · rename_i h1
    rw [List.getElem?_append_right (by omega), List.getElem?_replicate, if_pos (by unfold pad nby at *; omega)]; rfl
theorem pack_take (h : Bool) (l : List Int) (k : Nat) (hk : k < nby l.length) : (pack h l).take (k + 1) = (pack h l).take k ++ [part h 8 ((l.drop (8 * k)).take 8)] := by
  rw [List.take_add_one, pack_at h l k hk]; rfl

set_option maxHeartbeats 2000000 in
theorem rbytes_any (A : Option Addr) (n c : Nat) (l : List Int) (h : Bool) (w : World) (hn : l.length = n) (hR : Rd w w.heap.size A (iv l)) (hB : B01 l) (hm : n ≤ 1073741824) :
    Calls Try.prog 83 #[.slice A n c, .bool h] w fun e w' => ∃ v, e = .returned v ∧ w'.ownsRow w.heap.size 5 1 v (nby n) (bv (pack h (full h l))) ∧ Below w.heap.size w w' := by
  obtain ⟨i0, hi, hz0, hz1, hz2⟩ := info_parts Try.info_int
  obtain ⟨i1, hi1, hy0, hy1, hy2⟩ := info_parts Try.info_u8
  have HN := Lib.hid hn
  have hfl := full_len h l
  rw [hn] at hfl
  have hpl : (pack h (full h l)).length = nby n := by rw [pack_len, hfl]; unfold nby; omega
  have hfat := full_at h l
  rw [hn] at hfat
  have hptk := pack_take h (full h l)
  have hFB := full_01 (h := h) hB
  rw [show nby (full h l).length = nby n by rw [hfl]; unfold nby; omega] at hptk
  have HFL := Lib.hid hfl
  have HPL := Lib.hid hpl
  have HFA := Lib.hid hfat
  have HPT := Lib.hid hptk
  clear hn hfl hpl hfat hptk
  generalize full h l = F at *
  go_enter Try.func83, Try.ntmps83
  go_wp2
  go_loopw [5, 6] (fun v i wr => ∃ k : Nat, k ≤ nby n ∧ i = .int .i64 ((8 * k : Nat) : Int) ∧ wr.ownsRow w.heap.size 5 1 v k (bv ((pack h F).take k)) ∧ Below w.heap.size w wr) (fun _ i _ => 8 * nby n - (intOf i).toNat)
  case atStart => exact ⟨0, Nat.zero_le _, rfl, World.ownsRow_nil _ _ _ _, Below.refl _ _⟩
  case round =>
    obtain ⟨k, hk, rfl, hown, hb⟩ := hrel
    obtain ⟨wo, rfl⟩ : ∃ wo : World, wo = wr := ⟨_, rfl⟩
    have hsz := hb.size
    obtain ⟨q, hq⟩ : ∃ q, q = 8 * k := ⟨_, rfl⟩
    rw [← hq]
    have hq1 : q ≤ 8 * k ∧ 8 * k ≤ q := by omega
    have HQ := Lib.hid hq
    clear hq
    by_cases hlt : q < n
    · have hkn : k < nby n := by unfold nby; omega
      go_wp2
      go_loopw [7, 8] (fun v i wr => ∃ j : Nat, j ≤ 8 ∧ i = .int .i64 ((q + j : Nat) : Int) ∧ wr.ownsRow wo.heap.size 3 1 v j (iv ((F.drop q).take j)) ∧ Below wo.heap.size wo wr) (fun _ i _ => q + 8 - (intOf i).toNat)
      case atStart => exact ⟨0, by omega, rfl, World.ownsRow_nil _ _ _ _, Below.refl _ _⟩
      case round =>
        obtain ⟨j, hj, rfl, hone, hbo⟩ := hrel
        have hso := hbo.size
        obtain ⟨z, hz⟩ : ∃ z, z = q + j := ⟨_, rfl⟩
        rw [← hz]
        have hz2' : z ≤ q + j ∧ q + j ≤ z := by omega
        have HZ := Lib.hid hz
        clear hz
        by_cases hlj : j < 8
        · have hzf : z < 8 * nby n := by unfold nby at *; omega
          have hel : (F.drop q).take (j + 1) = (F.drop q).take j ++ [F.getD z 0] := by
            rw [List.take_add_one, List.getElem?_drop, ← HZ.out, List.getD_eq_getElem?_getD, List.getElem?_eq_getElem (by rw [HFL.out]; exact hzf)]; rfl
          have hfa := HFA.out z hzf
          rw [hfa] at hel
          clear hfa
          by_cases hzn : z < n
          · obtain ⟨b, off, rfl, hbl, hcell⟩ := ((hR.below hb).below (hbo.mono hsz)).at_ (k := z) (by rw [iv_len, HN.out]; omega)
            have hcl := hcell z _ (iv_get (by rw [HN.out]; omega))
            rw [if_pos hzn] at hel
            have HE := Lib.hid hel
            clear hel hcell
            generalize l.getD z 0 = x at *
            have hown' := hone.alloc (.cells #[Value.int .i64 x] 3)
            go_wp2_with (at_builtin; refine wpList_app2 _ rfl (.tmp 30) (.tmp 35) 24 rfl Try.underlying24 hi hz0 hz1 hz2 rfl hown' rfl rfl (Rd.new1 _ _ _) rfl (by simp [Value.oneCell']) (by omega) (by omega) (by simp; omega) ?_; intro v1 w1 hown1 hg1; have hb1 : Below wo.heap.size wo w1 := below_app2 (hbo.alloc hso _) hown' hg1 (Nat.le_refl _) (by simp; omega))
            go_roundw
            case rel => exact ⟨j + 1, by omega, by rw [show q + (j + 1) = z + 1 by omega]; go_num, by rw [HE.out, iv_app]; exact hown1, hb1⟩
            case measure => simp [intOf]; omega
          · rw [if_neg hzn] at hel
            have HE := Lib.hid hel
            clear hel
            cases h
            · have hown' := hone.alloc (.cells #[Value.int .i64 0] 3)
              go_wp2_with (at_builtin; refine wpList_app2 _ rfl (.tmp 22) (.tmp 23) 24 rfl Try.underlying24 hi hz0 hz1 hz2 rfl hown' rfl rfl (Rd.new1 _ _ _) rfl (by simp [Value.oneCell']) (by omega) (by omega) (by simp; omega) ?_; intro v1 w1 hown1 hg1; have hb1 : Below wo.heap.size wo w1 := below_app2 (hbo.alloc hso _) hown' hg1 (Nat.le_refl _) (by simp; omega))
              go_roundw
              case rel => exact ⟨j + 1, by omega, by rw [show q + (j + 1) = z + 1 by omega]; go_num, by rw [HE.out, iv_app]; exact hown1, hb1⟩
              case measure => simp [intOf]; omega
            · have hown' := hone.alloc (.cells #[Value.int .i64 1] 3)
              go_wp2_with (at_builtin; refine wpList_app2 _ rfl (.tmp 39) (.tmp 40) 24 rfl Try.underlying24 hi hz0 hz1 hz2 rfl hown' rfl rfl (Rd.new1 _ _ _) rfl (by simp [Value.oneCell']) (by omega) (by omega) (by simp; omega) ?_; intro v1 w1 hown1 hg1; have hb1 : Below wo.heap.size wo w1 := below_app2 (hbo.alloc hso _) hown' hg1 (Nat.le_refl _) (by simp; omega))
              go_roundw
              case rel => exact ⟨j + 1, by omega, by rw [show q + (j + 1) = z + 1 by omega]; go_num, by rw [HE.out, iv_app]; exact hown1, hb1⟩
              case measure => simp [intOf]; omega
        · obtain rfl : j = 8 := by omega
          obtain ⟨A1, c1, rfl, hR1⟩ := own_slice hone
          have hl8 : ((F.drop q).take 8).length = 8 := by rw [List.length_take, List.length_drop, HFL.out]; unfold nby at *; omega
          have h01 := (hFB.drop q).take 8
          have hpb := part_bd (h := h) (c := 8) h01 (by omega)
          rw [show (2 : Int) ^ 8 = 256 from rfl] at hpb
          have HL8 := Lib.hid hl8
          have hpk := HPT.out k hkn
          rw [← HQ.out] at hpk
          have HPK := Lib.hid hpk
          have hnum := fun W (hW : Rd W wr.heap.size A1 (iv ((F.drop q).take 8))) => number_any A1 8 c1 _ h wr.heap.size W HL8.out hW h01 (by omega)
          clear hl8 hpk hone
          generalize part h 8 ((F.drop q).take 8) = x at *
          have hwb := hb.trans (hbo.mono hsz)
          have hown' := (own_keep hown hbo).alloc (.cells #[Value.int .u8 x] 5)
          have HNU := Lib.hid (hnum wr hR1)
          clear hnum h01
          have hwsz := hwb.size
          go_wp2_with (first
            | (go_at_call 127; refine HNU.out.mono ?_; rintro e w1 ⟨rfl, rfl⟩)
            | (at_builtin; refine wpList_app2 _ rfl (.tmp 42) (.tmp 47) 79 rfl Try.underlying79 hi1 hy0 hy1 hy2 rfl hown' rfl rfl (Rd.new1 _ _ _) rfl (by simp [Value.oneCell']) (by unfold nby at *; omega) (by unfold nby at *; omega) (by simp; omega) ?_; intro v2 w2 hown2 hg2; have hb2 : Below w.heap.size w w2 := below_app2 (hwb.alloc hwsz _) hown' hg2 (Nat.le_refl _) (by simp; omega)))
          go_roundw
          case rel => exact ⟨k + 1, by omega, by rw [show 8 * (k + 1) = q + 8 by omega]; go_num, by rw [HPK.out, bv_app]; exact hown2, hb2⟩
          case measure => simp [intOf]; omega
    · go_wp2
      go_ret
      obtain rfl : k = nby n := by unfold nby at *; omega
      exact ⟨_, rfl, by rw [List.take_of_length_le (by rw [HPL.out]; omega)] at hown; exact hown, hb⟩
end Go.Proofs.Ytlhappecjjbopaa
