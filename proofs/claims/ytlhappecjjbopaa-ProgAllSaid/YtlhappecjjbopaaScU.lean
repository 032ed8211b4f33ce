/-
  ScanBack, the plain law: a block's pieces, by codes, are read as the block. No program.
  ScanBack: blocks come back from their pieces, by any books that have their symbols. First the plain sums over a list of blocks.
-/
import Derived.Test.YtlhappecjjbopaaScK
import Derived.Test.YtlhappecjjbopaaScN
import Derived.Test.YtlhappecjjbopaaScB
namespace Go.Proofs.Ytlhappecjjbopaa
open Go.RowKit
set_option linter.unusedVariables false

/-- a book that has the first m symbols -/
structure Has (ls : List Int) (O : List Nat) (C : List Int) (m : Nat) : Prop where
  ord : Ordd ls O C
  vl : Vl ls
  all : AllO ls O
  pos : ∀ s, s < m → s < ls.length ∧ 0 < ls.getD s 0
theorem Has.hasL {ls : List Int} {O : List Nat} {C : List Int} {m : Nat} (h : Has ls O C m) {s : Nat} (hs : s < m) : hasL ls (s : Int) := by
  have := h.pos s hs
  exact ⟨by omega, by omega, by rw [Int.toNat_natCast]; exact this.2⟩
theorem Has.rd {ls : List Int} {O : List Nat} {C : List Int} {m : Nat} (h : Has ls O C m) {s : Nat} (hs : s < m) {rest : List Int} (hr : B01 rest) :
    rdF (sy O) (sz ls O) (co ls C s ++ rest) = ((s : Int), (co ls C s).length, 0) := by
  obtain ⟨h1, h2⟩ := h.pos s hs
  obtain ⟨i, hi⟩ := h.all s h1 h2
  have hz := (h.ord.lenZ hi).1
  have hr2 := rd_code (syms := sy O) h.ord.zs hz rest
  rw [sy_at hi, h.ord.co hi] at hr2
  exact rdF_eq h.ord.zs ((digs_01 _ _ _).app hr) hr2

theorem ex_bd {n : Int} (h1 : -32767 ≤ n) (h2 : n ≤ 32767) : 0 ≤ exZ n ∧ exZ n < 2 ^ szN n := by
  have hl := szN_lt h1 h2
  have hp := two_pos (szN n)
  have hc := two_cast (szN n)
  have hl2 : (n.natAbs : Int) < 2 ^ szN n := by rw [← hc]; exact Int.ofNat_lt.2 hl
  unfold exZ
  rw [if_neg (by omega)]
  split <;> omega
theorem sz_le {n : Int} {s : Nat} (h : n.natAbs < 2 ^ s) : szN n ≤ s := by
  unfold szN
  split
  · omega
  · exact bl_bd h
theorem num_bits {n : Int} (h1 : -32767 ≤ n) (h2 : n ≤ 32767) : vaZ (hv (digs true (exZ n) (szN n))) (szN n) = n := by
  rw [hv_digs _ _ (ex_bd h1 h2)]
  by_cases h0 : n = 0
  · subst h0; decide
  · exact va_ex h1 h2 h0
/-- a piece's bits -/
theorem bitsQ_ac (ls1 C1 ls2 C2 : List Int) (s : Nat) (e : Int) (k : Nat) : bitsQ ls1 C1 ls2 C2 (true, (s : Int), e, (k : Int)) = co ls2 C2 s ++ digs true e k := by
  unfold bitsQ bitsP
  simp only [if_true]
  rw [if_neg (by omega), Int.toNat_natCast, Int.toNat_natCast]
theorem bitsQ_dc (ls1 C1 ls2 C2 : List Int) (s : Nat) (e : Int) (k : Nat) : bitsQ ls1 C1 ls2 C2 (false, (s : Int), e, (k : Int)) = co ls1 C1 s ++ digs true e k := by
  unfold bitsQ bitsP
  simp only [Bool.false_eq_true, if_false]
  rw [if_neg (by omega), Int.toNat_natCast, Int.toNat_natCast]
theorem bitsQ_01 (ls1 C1 ls2 C2 : List Int) (p : Pc) : B01 (bitsQ ls1 C1 ls2 C2 p) := by
  have h : ∀ ls C, B01 (bitsP ls C p) := fun ls C => by
    unfold bitsP
    refine B01.app ?_ (digs_01 _ _ _)
    split
    · exact B01.nil_
    · exact digs_01 _ _ _
  unfold bitsQ
  split
  · exact h _ _
  · exact h _ _
theorem flatQ_01 (ls1 C1 ls2 C2 : List Int) (l : List Pc) : B01 (flatQ ls1 C1 ls2 C2 l) := fun x hx => by
  obtain ⟨p, _, hp⟩ := List.mem_flatMap.1 hx
  exact bitsQ_01 _ _ _ _ p x hp
theorem flatQ_app (ls1 C1 ls2 C2 : List Int) (l m : List Pc) : flatQ ls1 C1 ls2 C2 (l ++ m) = flatQ ls1 C1 ls2 C2 l ++ flatQ ls1 C1 ls2 C2 m := by simp [flatQ]
theorem flatQ_cons (ls1 C1 ls2 C2 : List Int) (p : Pc) (m : List Pc) : flatQ ls1 C1 ls2 C2 (p :: m) = bitsQ ls1 C1 ls2 C2 p ++ flatQ ls1 C1 ls2 C2 m := by simp [flatQ]

section
variable {ls1 C1 ls2 C2 : List Int} {O2 : List Nat} {b : List Int}
/-- a run of 16 noughts -/
theorem rdL_skips (h : Has ls2 O2 C2 256) (hb : B01 b) : ∀ (q i a : Nat) (out r : List Int), b.drop a = flatQ ls1 C1 ls2 C2 (List.replicate q skipP) ++ r → i + 16 * q ≤ 63 →
    rdL (sy O2) (sz ls2 O2) b i a out = rdL (sy O2) (sz ls2 O2) b (i + 16 * q) (a + (flatQ ls1 C1 ls2 C2 (List.replicate q skipP)).length) out
  | 0, i, a, out, r, hd, hi => by simp [flatQ]
  | q + 1, i, a, out, r, hd, hi => by
    have hd2 := hd
    rw [List.replicate_succ, flatQ_cons, show skipP = (true, ((240 : Nat) : Int), (0 : Int), ((0 : Nat) : Int)) from rfl, bitsQ_ac, show digs true 0 0 = [] from rfl, List.append_nil, List.append_assoc] at hd2
    have hr : B01 (flatQ ls1 C1 ls2 C2 (List.replicate q skipP) ++ r) := by
      have h1 := hb.drop (a + (co ls2 C2 240).length)
      have h2 : b.drop (a + (co ls2 C2 240).length) = flatQ ls1 C1 ls2 C2 (List.replicate q skipP) ++ r := by
        rw [← List.drop_drop, hd2]; exact List.drop_left
      rwa [h2] at h1
    have h3 : b.drop (a + (co ls2 C2 240).length) = flatQ ls1 C1 ls2 C2 (List.replicate q skipP) ++ r := by
      rw [← List.drop_drop, hd2]; exact List.drop_left
    have hF := h.rd (s := 240) (by omega) hr
    have hF2 : rdF (sy O2) (sz ls2 O2) (b.drop a) = (((240 : Nat) : Int), (co ls2 C2 240).length, 0) := by
      rw [hd2]; exact hF
    rw [rdL_skip (by omega) hF2 (by omega), rdL_skips h hb q (i + 16) (a + (co ls2 C2 240).length) out r h3 (by omega)]
    have e1 : i + 16 + 16 * q = i + 16 * (q + 1) := by omega
    have e2 : a + (co ls2 C2 240).length + (flatQ ls1 C1 ls2 C2 (List.replicate q skipP)).length = a + (flatQ ls1 C1 ls2 C2 (List.replicate (q + 1) skipP)).length := by
      rw [List.replicate_succ, flatQ_cons, show bitsQ ls1 C1 ls2 C2 skipP = co ls2 C2 240 from by
        rw [show skipP = (true, ((240 : Nat) : Int), (0 : Int), ((0 : Nat) : Int)) from rfl, bitsQ_ac, show digs true 0 0 = [] from rfl, List.append_nil], List.length_append]
      omega
    rw [e1, e2]
/-- a number behind fewer than 16 noughts -/
theorem rdL_num (h : Has ls2 O2 C2 256) (hb : B01 b) {i a k : Nat} {v : Int} {out r : List Int} (hv1 : -1023 ≤ v) (hv2 : v ≤ 1023) (hv0 : v ≠ 0) (hk : k < 16) (hi : i + k ≤ 63)
    (hd : b.drop a = bitsQ ls1 C1 ls2 C2 (numP true v k) ++ r) :
    rdL (sy O2) (sz ls2 O2) b i a out = rdL (sy O2) (sz ls2 O2) b (i + k + 1) (a + (bitsQ ls1 C1 ls2 C2 (numP true v k)).length) (out.set (zzN (i + k)) v) := by
  have hs10 : szN v ≤ 10 := sz_le (by omega)
  have hs1 : 1 ≤ szN v := by
    have h1 := szN_zero (n := v) (by omega) (by omega)
    have : szN v ≠ 0 := fun e => hv0 (h1.1 e)
    omega
  have hnum : numP true v k = (true, ((16 * k + szN v : Nat) : Int), exZ v, ((szN v : Nat) : Int)) := by
    unfold numP
    rw [Int.natCast_add, Int.natCast_mul]; rfl
  have hq : bitsQ ls1 C1 ls2 C2 (numP true v k) = co ls2 C2 (16 * k + szN v) ++ digs true (exZ v) (szN v) := by rw [hnum, bitsQ_ac]
  obtain ⟨s, hs⟩ : ∃ s, s = 16 * k + szN v := ⟨_, rfl⟩
  obtain ⟨z, hz⟩ : ∃ z, z = szN v := ⟨_, rfl⟩
  rw [hq, ← hs, ← hz] at hd
  rw [hq, ← hs, ← hz]
  have hsk : s / 16 = k := by omega
  have hsz : s % 16 = z := by omega
  have h3 : b.drop (a + (co ls2 C2 s).length) = digs true (exZ v) z ++ r := by
    rw [← List.drop_drop, hd, List.append_assoc]; exact List.drop_left
  have hr := hb.drop (a + (co ls2 C2 s).length)
  rw [h3] at hr
  have hF : rdF (sy O2) (sz ls2 O2) (b.drop a) = ((s : Int), (co ls2 C2 s).length, 0) := by
    rw [hd, List.append_assoc]; exact h.rd (by omega) hr
  have hlen : a + (co ls2 C2 s).length + z ≤ b.length := by
    have := congrArg List.length h3
    rw [List.length_drop, List.length_append, digs_len] at this
    omega
  have h4 : (b.drop (a + (co ls2 C2 s).length)).take z = digs true (exZ v) z := by
    rw [h3]
    have := List.take_left (l₁ := digs true (exZ v) z) (l₂ := r)
    rwa [digs_len] at this
  rw [rdL_go (by omega) hF (by omega) (by omega) (by omega) (by omega), hsk, hsz, h4, hz, num_bits (by omega) (by omega), List.length_append, digs_len, Nat.add_assoc a]

/-- the block up to the i-th place -/
def upI (blk : List Int) (z : List Int) : Nat → List Int
  | 0 => z
  | i + 1 => (upI blk z i).set (zzN (i + 1)) (blk.getD (zzN (i + 1)) 0)
theorem upI_len (blk z : List Int) : ∀ i, (upI blk z i).length = z.length
  | 0 => rfl
  | i + 1 => by rw [upI, List.length_set, upI_len blk z i]
theorem set_getD_eq {l : List Int} {p : Nat} {x : Int} (h : p < l.length) : (l.set p x).getD p 0 = x := by
  rw [List.getD_eq_getElem?_getD, List.getElem?_set_self h]; rfl
theorem set_getD_ne' {l : List Int} {p q : Nat} {x : Int} (h : p ≠ q) : (l.set p x).getD q 0 = l.getD q 0 := by
  rw [List.getD_eq_getElem?_getD, List.getD_eq_getElem?_getD, List.getElem?_set_ne h]
theorem zz_inj' : ∀ i, i < 64 → ∀ j, j < 64 → zzN i = zzN j → i = j := by decide +kernel
theorem zz_onto : ∀ q, q < 64 → ∃ i, i < 64 ∧ zzN i = q := by decide +kernel
theorem set_self0 {l : List Int} {p : Nat} (h : l.getD p 0 = 0) : l.set p 0 = l := by
  apply List.ext_getElem?
  intro j
  by_cases hj : p = j
  · subst hj
    rw [List.getElem?_set_self']
    rw [List.getD_eq_getElem?_getD] at h
    cases hq : l[p]? with
    | none => rfl
    | some y => rw [hq] at h; simp at h; simp [h]
  · rw [List.getElem?_set_ne hj]
theorem upI_after (blk z : List Int) (hz : ∀ j, 1 ≤ j → j < 64 → z.getD (zzN j) 0 = 0) : ∀ i, i < 64 → ∀ j, i < j → j < 64 → (upI blk z i).getD (zzN j) 0 = 0
  | 0, _, j, h1, h2 => hz j h1 h2
  | i + 1, hi, j, h1, h2 => by
    rw [upI, set_getD_ne' (fun e => by have := zz_inj' (i + 1) hi j h2 e; omega)]
    exact upI_after blk z hz i (by omega) j (by omega) h2
theorem upI_before (blk z : List Int) (hzl : z.length = 64) : ∀ i, i < 64 → ∀ j, 1 ≤ j → j ≤ i → (upI blk z i).getD (zzN j) 0 = blk.getD (zzN j) 0
  | 0, _, j, h1, h2 => by omega
  | i + 1, hi, j, h1, h2 => by
    rw [upI]
    by_cases hj : j = i + 1
    · subst hj
      exact set_getD_eq (by rw [upI_len, hzl]; exact (zzN_bd (i + 1) hi).1)
    · rw [set_getD_ne' (fun e => by have := zz_inj' (i + 1) hi j (by omega) e; omega)]
      exact upI_before blk z hzl i (by omega) j h1 (by omega)
theorem upI_dc (blk z : List Int) : ∀ i, i < 64 → (upI blk z i).getD 0 0 = z.getD 0 0
  | 0, _ => rfl
  | i + 1, hi => by
    rw [upI, set_getD_ne' (fun e => by have := (zzN_bd (i + 1) hi).2.2.1 e; omega)]
    exact upI_dc blk z i (by omega)
theorem upI_all (blk z : List Int) (hbl : blk.length = 64) (hzl : z.length = 64) (h0 : z.getD 0 0 = blk.getD 0 0) : upI blk z 63 = blk := by
  apply List.ext_getElem?
  intro q
  by_cases hq : q < 64
  · have h1 : (upI blk z 63).getD q 0 = blk.getD q 0 := by
      obtain ⟨i, hi, rfl⟩ := zz_onto q hq
      rcases Nat.eq_zero_or_pos i with h | h
      · subst h
        rw [show zzN 0 = 0 from rfl, upI_dc blk z 63 (by omega), h0]
      · exact upI_before blk z hzl 63 (by omega) i h (by omega)
    rw [List.getD_eq_getElem?_getD, List.getD_eq_getElem?_getD, List.getElem?_eq_getElem (by rw [upI_len, hzl]; exact hq), List.getElem?_eq_getElem (by omega)] at h1
    rw [List.getElem?_eq_getElem (by rw [upI_len, hzl]; exact hq), List.getElem?_eq_getElem (by omega)]
    exact congrArg some h1
  · rw [List.getElem?_eq_none (by rw [upI_len]; omega), List.getElem?_eq_none (by omega)]
theorem pst_pre (blk : List Int) : ∀ m i : Nat, i ≤ m → ∃ X, (pst blk m).1 = (pst blk i).1 ++ X
  | 0, i, hi => ⟨[], by rw [show i = 0 by omega]; simp⟩
  | m + 1, i, hi => by
    by_cases h : i = m + 1
    · exact ⟨[], by rw [h]; simp⟩
    · obtain ⟨X, hX⟩ := pst_pre blk m i (by omega)
      by_cases h0 : blk.getD (zzN (m + 1)) 0 = 0
      · exact ⟨X, by rw [pst_zero blk m h0]; exact hX⟩
      · exact ⟨X ++ List.replicate ((pst blk m).2 / 16) skipP ++ [numP true (blk.getD (zzN (m + 1)) 0) ((pst blk m).2 % 16)], by rw [pst_num blk m h0]; simp only [hX, List.append_assoc]⟩

/-- the pieces up to the i-th place are read as the block up to there -/
theorem rdL_upto (h : Has ls2 O2 C2 256) (hb : B01 b) {blk z r : List Int} {a : Nat} (hz : ∀ j, 1 ≤ j → j < 64 → z.getD (zzN j) 0 = 0) (hg : GoodB blk) (hd : b.drop a = flatQ ls1 C1 ls2 C2 (pst blk 63).1 ++ r) :
    ∀ i, i ≤ 63 → rdL (sy O2) (sz ls2 O2) b 1 a z = rdL (sy O2) (sz ls2 O2) b (i + 1 - (pst blk i).2) (a + (flatQ ls1 C1 ls2 C2 (pst blk i).1).length) (upI blk z i)
  | 0, _ => by simp [pst, flatQ, upI]
  | i + 1, hi => by
    have ih := rdL_upto h hb hz hg hd i (by omega)
    have hbd := pst_bd blk i
    by_cases h0 : blk.getD (zzN (i + 1)) 0 = 0
    · rw [ih, pst_zero blk i h0, upI, h0, set_self0 (upI_after blk z hz i (by omega) (i + 1) (by omega) (by omega))]
      simp only
      rw [show i + 1 + 1 - ((pst blk i).2 + 1) = i + 1 - (pst blk i).2 by omega]
    · obtain ⟨X, hX⟩ := pst_pre blk 63 (i + 1) hi
      rw [pst_num blk i h0] at hX
      simp only at hX
      rw [hX, flatQ_app, flatQ_app, flatQ_app, flatQ_cons, show flatQ ls1 C1 ls2 C2 [] = [] from rfl, List.append_nil] at hd
      simp only [List.append_assoc] at hd
      obtain ⟨P, hP⟩ : ∃ P, P = flatQ ls1 C1 ls2 C2 (pst blk i).1 := ⟨_, rfl⟩
      obtain ⟨nz, hnz⟩ : ∃ nz, nz = (pst blk i).2 := ⟨_, rfl⟩
      obtain ⟨v, hv⟩ : ∃ v, v = blk.getD (zzN (i + 1)) 0 := ⟨_, rfl⟩
      rw [← hP, ← hnz, ← hv] at hd
      rw [← hP, ← hnz] at ih
      have hzb := zzN_bd (i + 1) (by omega)
      have hvb := hg.1 (zzN (i + 1)) (by
        rcases Nat.eq_zero_or_pos (zzN (i + 1)) with e | e
        · have := hzb.2.2.1 e; omega
        · exact e) hzb.1
      rw [← hv] at hvb h0
      rw [← hnz] at hbd
      have hd1 : b.drop (a + P.length) = flatQ ls1 C1 ls2 C2 (List.replicate (nz / 16) skipP) ++ (bitsQ ls1 C1 ls2 C2 (numP true v (nz % 16)) ++ (flatQ ls1 C1 ls2 C2 X ++ r)) := by
        rw [← List.drop_drop, hd]; exact List.drop_left
      have h1 := rdL_skips h hb (nz / 16) (i + 1 - nz) (a + P.length) (upI blk z i) _ hd1 (by omega)
      have hd2 : b.drop (a + P.length + (flatQ ls1 C1 ls2 C2 (List.replicate (nz / 16) skipP)).length) = bitsQ ls1 C1 ls2 C2 (numP true v (nz % 16)) ++ (flatQ ls1 C1 ls2 C2 X ++ r) := by
        rw [← List.drop_drop, hd1]; exact List.drop_left
      have h2 := rdL_num h hb (i := i + 1 - nz + 16 * (nz / 16)) (out := upI blk z i) hvb.1 hvb.2 h0 (Nat.mod_lt _ (by omega)) (by omega) hd2
      rw [ih, h1, h2, pst_num blk i (by rw [← hv]; exact h0), upI, ← hv, ← hnz]
      simp only
      rw [flatQ_app, flatQ_app, flatQ_cons, show flatQ ls1 C1 ls2 C2 [] = [] from rfl, List.append_nil, ← hP, List.length_append, List.length_append,
        show i + 1 - nz + 16 * (nz / 16) + nz % 16 = i + 1 by omega, show i + 1 + 1 - 0 = i + 1 + 1 from rfl]
      rw [show a + P.length + (flatQ ls1 C1 ls2 C2 (List.replicate (nz / 16) skipP)).length + (bitsQ ls1 C1 ls2 C2 (numP true v (nz % 16))).length
        = a + (P.length + (flatQ ls1 C1 ls2 C2 (List.replicate (nz / 16) skipP)).length + (bitsQ ls1 C1 ls2 C2 (numP true v (nz % 16))).length) by omega]
end

theorem z64_get (q : Nat) : z64.getD q 0 = 0 := by rw [z64, List.getD_eq_getElem?_getD, List.getElem?_replicate]; split <;> rfl
theorem flatQ_one' (ls1 C1 ls2 C2 : List Int) (p : Pc) : flatQ ls1 C1 ls2 C2 [p] = bitsQ ls1 C1 ls2 C2 p := by simp [flatQ]
theorem rdB_pieces {ls1 C1 ls2 C2 : List Int} {O1 O2 : List Nat} {b blk r : List Int} {ahead : Int} (h1 : Has ls1 O1 C1 12) (h2 : Has ls2 O2 C2 256) (hb : B01 b) (hbl : blk.length = 64) (hg : GoodB blk) (ha : DcB ahead)
    (hd : b = flatQ ls1 C1 ls2 C2 (pcs blk ahead) ++ r) : rdB (sy O1) (sz ls1 O1) (sy O2) (sz ls2 O2) b ahead = (blk, (flatQ ls1 C1 ls2 C2 (pcs blk ahead)).length, 0) := by
  obtain ⟨d, hdq⟩ : ∃ d, d = blk.getD 0 0 - ahead := ⟨_, rfl⟩
  have hg0 := hg.2
  have hd1 : -2047 ≤ d ∧ d ≤ 2047 := by
    have := hg0.1; have := hg0.2; have := ha.1; have := ha.2
    omega
  have hs11 : szN d ≤ 11 := sz_le (by omega)
  have hpc : pcs blk ahead = numP false d 0 :: ((pst blk 63).1 ++ tailP (pst blk 63).2) := by rw [pcs, ← hdq]
  have hq : bitsQ ls1 C1 ls2 C2 (numP false d 0) = co ls1 C1 (szN d) ++ digs true (exZ d) (szN d) := by
    have hnum : numP false d 0 = (false, ((szN d : Nat) : Int), exZ d, ((szN d : Nat) : Int)) := by unfold numP; simp
    rw [hnum, bitsQ_dc]
  obtain ⟨s, hs⟩ : ∃ s, s = szN d := ⟨_, rfl⟩
  rw [hpc, flatQ_cons, flatQ_app, hq, ← hs] at hd
  rw [hpc, flatQ_cons, flatQ_app, hq, ← hs]
  obtain ⟨P, hP⟩ : ∃ P, P = flatQ ls1 C1 ls2 C2 (pst blk 63).1 := ⟨_, rfl⟩
  obtain ⟨T, hT⟩ : ∃ T, T = flatQ ls1 C1 ls2 C2 (tailP (pst blk 63).2) := ⟨_, rfl⟩
  rw [← hP, ← hT] at hd ⊢
  simp only [List.append_assoc] at hd
  have e1 : b.drop (co ls1 C1 s).length = digs true (exZ d) s ++ (P ++ (T ++ r)) := by rw [hd]; exact List.drop_left
  have e2 : b.drop ((co ls1 C1 s).length + s) = P ++ (T ++ r) := by
    rw [← List.drop_drop, e1]
    have := List.drop_left (l₁ := digs true (exZ d) s) (l₂ := P ++ (T ++ r))
    rwa [digs_len] at this
  have e3 : (b.drop (co ls1 C1 s).length).take s = digs true (exZ d) s := by
    rw [e1]
    have := List.take_left (l₁ := digs true (exZ d) s) (l₂ := P ++ (T ++ r))
    rwa [digs_len] at this
  have hF : rdF (sy O1) (sz ls1 O1) b = ((s : Int), (co ls1 C1 s).length, 0) := by
    rw [hd]
    have hr := hb.drop (co ls1 C1 s).length
    rw [e1] at hr
    exact h1.rd (by omega) hr
  have hlen : (co ls1 C1 s).length + s ≤ b.length := by
    have := congrArg List.length hd
    simp only [List.length_append, digs_len] at this
    omega
  have hva : vaZ (hv ((b.drop (co ls1 C1 s).length).take s)) (s : Int) = d := by rw [e3, hs]; exact num_bits (by omega) (by omega)
  have hsum : ahead + d = blk.getD 0 0 := by omega
  rw [rdB_go hF (by omega) (by omega) (by rw [hva, hsum]; exact hg0), hva, hsum]
  obtain ⟨z, hz⟩ : ∃ z, z = z64.set 0 (blk.getD 0 0) := ⟨_, rfl⟩
  have hzl : z.length = 64 := by rw [hz, List.length_set]; rfl
  have hz0 : z.getD 0 0 = blk.getD 0 0 := by rw [hz]; exact set_getD_eq (by decide)
  have hzz : ∀ j, 1 ≤ j → j < 64 → z.getD (zzN j) 0 = 0 := fun j j1 j2 => by
    rw [hz, set_getD_ne' (fun e => by have := (zzN_bd j j2).2.2.1 e.symm; omega)]
    exact z64_get _
  rw [← hz]
  have hu := rdL_upto h2 hb hzz hg (e2.trans (by rw [hP])) 63 (by omega)
  rw [hu, upI_all blk z hbl hzl hz0, ← hP]
  have hbd := pst_bd blk 63
  have e4 : b.drop ((co ls1 C1 s).length + s + P.length) = T ++ r := by rw [← List.drop_drop, e2]; exact List.drop_left
  obtain ⟨nz, hnz⟩ : ∃ nz, nz = (pst blk 63).2 := ⟨_, rfl⟩
  rw [← hnz] at hT hbd ⊢
  rcases Nat.eq_zero_or_pos nz with h0 | h0
  · have hT0 : T = [] := by rw [hT, h0]; rfl
    rw [h0, rdL_out (by omega), hT0, List.append_nil, List.length_append, List.length_append, digs_len]
  · have hTT : T = co ls2 C2 0 := by
      rw [hT, tailP, if_pos h0, flatQ_one', show endP = (true, ((0 : Nat) : Int), (0 : Int), ((0 : Nat) : Int)) from rfl, bitsQ_ac, show digs true 0 0 = [] from rfl, List.append_nil]
    have hF2 : rdF (sy O2) (sz ls2 O2) (b.drop ((co ls1 C1 s).length + s + P.length)) = (((0 : Nat) : Int), T.length, 0) := by
      have hr := hb.drop ((co ls1 C1 s).length + s + P.length + T.length)
      rw [← List.drop_drop, e4, List.drop_left] at hr
      rw [e4, hTT]
      exact h2.rd (by omega) hr
    rw [rdL_eob (by omega) hF2, List.length_append, List.length_append, List.length_append, digs_len]
    rw [show (co ls1 C1 s).length + s + P.length + T.length = (co ls1 C1 s).length + s + (P.length + T.length) by omega]
/-- each piece of a good block can be written -/
theorem okQ_num {ls1 C1 ls2 C2 : List Int} {O1 O2 : List Nat} (h1 : Has ls1 O1 C1 12) (h2 : Has ls2 O2 C2 256) (ac : Bool) (v : Int) (k : Nat) (hv : -32767 ≤ v ∧ v ≤ 32767) (hk : if ac then 16 * k + szN v < 256 else 16 * k + szN v < 12) : OkQ ls1 ls2 (numP ac v k) := by
  have hs := szN_bd v
  have he := ex_bd hv.1 hv.2
  have hd : exZ v / 2 ^ szN v = 0 := Int.ediv_eq_zero_of_lt he.1 he.2
  unfold OkQ OkP numP
  cases ac
  · simp only [Bool.false_eq_true, if_false] at hk ⊢
    refine ⟨by omega, he.1, by rw [Int.toNat_natCast]; exact hd, .inr ?_⟩
    have := h1.hasL hk
    rwa [Int.natCast_add, Int.natCast_mul] at this
  · simp only [if_true] at hk ⊢
    refine ⟨by omega, he.1, by rw [Int.toNat_natCast]; exact hd, .inr ?_⟩
    have := h2.hasL hk
    rwa [Int.natCast_add, Int.natCast_mul] at this
theorem okQ_pst {ls1 C1 ls2 C2 : List Int} {O1 O2 : List Nat} (h1 : Has ls1 O1 C1 12) (h2 : Has ls2 O2 C2 256) {blk : List Int} (hg : GoodB blk) : ∀ i, i ≤ 63 → ∀ p ∈ (pst blk i).1, OkQ ls1 ls2 p
  | 0, _, p, hp => by simp [pst] at hp
  | i + 1, hi, p, hp => by
    have ih := okQ_pst h1 h2 hg i (by omega)
    by_cases h0 : blk.getD (zzN (i + 1)) 0 = 0
    · rw [pst_zero blk i h0] at hp
      exact ih p hp
    · rw [pst_num blk i h0] at hp
      simp only [List.mem_append, List.mem_replicate, List.mem_cons, List.not_mem_nil, or_false] at hp
      rcases hp with (hp | ⟨_, rfl⟩) | rfl
      · exact ih p hp
      · unfold OkQ OkP skipP
        simp only [if_true]
        exact ⟨by omega, by omega, by decide, .inr (h2.hasL (s := 240) (by omega))⟩
      · have hzb := zzN_bd (i + 1) (by omega)
        have hvb := hg.1 (zzN (i + 1)) (by
          rcases Nat.eq_zero_or_pos (zzN (i + 1)) with e | e
          · have := hzb.2.2.1 e; omega
          · exact e) hzb.1
        have hs10 : szN (blk.getD (zzN (i + 1)) 0) ≤ 10 := sz_le (by omega)
        refine okQ_num h1 h2 true _ _ (by omega) ?_
        simp only [if_true]
        have := Nat.mod_lt (pst blk i).2 (show 0 < 16 by omega)
        omega
theorem okQ_pcs {ls1 C1 ls2 C2 : List Int} {O1 O2 : List Nat} (h1 : Has ls1 O1 C1 12) (h2 : Has ls2 O2 C2 256) {blk : List Int} {ahead : Int} (hg : GoodB blk) (ha : DcB ahead) : ∀ p ∈ pcs blk ahead, OkQ ls1 ls2 p := by
  intro p hp
  rw [pcs] at hp
  simp only [List.mem_cons, List.mem_append] at hp
  rcases hp with rfl | hp | hp
  · have := hg.2.1; have := hg.2.2; have := ha.1; have := ha.2
    have hs11 : szN (blk.getD 0 0 - ahead) ≤ 11 := sz_le (by omega)
    exact okQ_num h1 h2 false _ _ (by omega) (by simp only [Bool.false_eq_true, if_false]; omega)
  · exact okQ_pst h1 h2 hg 63 (by omega) p hp
  · unfold tailP at hp
    split at hp
    · simp only [List.mem_cons, List.not_mem_nil, or_false] at hp
      subst hp
      unfold OkQ OkP endP
      simp only [if_true]
      exact ⟨by omega, by omega, by decide, .inr (h2.hasL (s := 0) (by omega))⟩
    · simp at hp
theorem goodQ_all {ls1 ls2 : List Int} {l : List Pc} (h : ∀ p ∈ l, OkQ ls1 ls2 p) : goodQ ls1 ls2 l = l := by
  rw [take_while_at (i := l.length) (fun j p _ hp => h p (List.mem_of_getElem? hp)) (fun p hp => by have := (List.getElem?_eq_some_iff.1 hp).1; omega) (Nat.le_refl _), List.take_length]
end Go.Proofs.Ytlhappecjjbopaa
namespace Go.Proofs.Ytlhappecjjbopaa
open Go.ChangeShapes Go.WideShapes Go.ChangeAt Go.WideMaps Go.WideElems Go.RowKit Go.Joins
set_option linter.unusedVariables false

/-- the last block's first number, or what lies ahead -/
def lastG : Int → List (List Int) → Int
  | a, [] => a
  | _, x :: G => lastG (x.getD 0 0) G
/-- each block is whole, good, and stands behind a number that is in range -/
def goodF : Int → List (List Int) → Prop
  | _, [] => True
  | a, x :: G => (x.length = 64 ∧ GoodB x ∧ DcB a) ∧ goodF (x.getD 0 0) G
def bitsF (ls1 C1 ls2 C2 : List Int) : Int → List (List Int) → List Int
  | _, [] => []
  | a, x :: G => flatQ ls1 C1 ls2 C2 (pcs x a) ++ bitsF ls1 C1 ls2 C2 (x.getD 0 0) G
theorem lastG_app (x : List Int) : ∀ (G : List (List Int)) (a : Int), lastG a (G ++ [x]) = x.getD 0 0
  | [], _ => rfl
  | y :: G, _ => lastG_app x G (y.getD 0 0)
theorem goodF_app {x : List Int} : ∀ {G : List (List Int)} {a : Int}, goodF a G → x.length = 64 → GoodB x → DcB (lastG a G) → goodF a (G ++ [x])
  | [], _, _, h1, h2, h3 => ⟨⟨h1, h2, h3⟩, trivial⟩
  | _ :: _, _, h, h1, h2, h3 => ⟨h.1, goodF_app h.2 h1 h2 h3⟩
theorem bitsF_app (ls1 C1 ls2 C2 : List Int) (G2 : List (List Int)) : ∀ (G : List (List Int)) (a : Int), bitsF ls1 C1 ls2 C2 a (G ++ G2) = bitsF ls1 C1 ls2 C2 a G ++ bitsF ls1 C1 ls2 C2 (lastG a G) G2
  | [], _ => rfl
  | x :: G, a => by
    show flatQ ls1 C1 ls2 C2 (pcs x a) ++ bitsF ls1 C1 ls2 C2 (x.getD 0 0) (G ++ G2) = _
    rw [bitsF_app ls1 C1 ls2 C2 G2 G, ← List.append_assoc]; rfl
theorem bitsF_one (ls1 C1 ls2 C2 x : List Int) (a : Int) : bitsF ls1 C1 ls2 C2 a [x] = flatQ ls1 C1 ls2 C2 (pcs x a) := List.append_nil _
theorem goodF_at : ∀ {G : List (List Int)} {a : Int}, goodF a G → ∀ {j : Nat} (hj : j < G.length), (G.getD j []).length = 64 ∧ GoodB (G.getD j []) ∧ DcB (lastG a (G.take j))
  | [], _, _, j, hj => absurd hj (Nat.not_lt_zero j)
  | x :: G, a, h, 0, _ => h.1
  | x :: G, a, h, j + 1, hj => goodF_at (G := G) h.2 (Nat.lt_of_succ_lt_succ hj)
theorem take_snoc {G : List (List Int)} {j : Nat} (hj : j < G.length) : G.take (j + 1) = G.take j ++ [G.getD j []] := by
  rw [List.take_add_one, List.getElem?_eq_getElem hj, List.getD_eq_getElem?_getD, List.getElem?_eq_getElem hj]; rfl
theorem bitsF_01 (ls1 C1 ls2 C2 : List Int) : ∀ (G : List (List Int)) (a : Int), B01 (bitsF ls1 C1 ls2 C2 a G)
  | [], _, x, hx => by cases hx
  | y :: G, a, x, hx => by
    rcases List.mem_append.1 hx with h | h
    · exact flatQ_01 _ _ _ _ _ x h
    · exact bitsF_01 ls1 C1 ls2 C2 G _ x h
/-- where the j-th block's bits begin -/
theorem bitsF_at (ls1 C1 ls2 C2 : List Int) (a : Int) (G : List (List Int)) (r : List Int) {j : Nat} (hj : j < G.length) :
    ∃ r', (bitsF ls1 C1 ls2 C2 a G ++ r).drop (bitsF ls1 C1 ls2 C2 a (G.take j)).length = flatQ ls1 C1 ls2 C2 (pcs (G.getD j []) (lastG a (G.take j))) ++ r' := by
  have e : G = G.take j ++ ([G.getD j []] ++ G.drop (j + 1)) := by rw [← List.append_assoc, ← take_snoc hj, List.take_append_drop]
  refine ⟨bitsF ls1 C1 ls2 C2 (lastG (lastG a (G.take j)) [G.getD j []]) (G.drop (j + 1)) ++ r, ?_⟩
  conv => lhs; rw [e]
  rw [bitsF_app, bitsF_app, bitsF_one, List.append_assoc, ← e, List.drop_left, List.append_assoc]
theorem bitsF_next (ls1 C1 ls2 C2 : List Int) (a : Int) (G : List (List Int)) {j : Nat} (hj : j < G.length) :
    (bitsF ls1 C1 ls2 C2 a (G.take (j + 1))).length = (bitsF ls1 C1 ls2 C2 a (G.take j)).length + (flatQ ls1 C1 ls2 C2 (pcs (G.getD j []) (lastG a (G.take j)))).length := by
  rw [take_snoc hj, bitsF_app, bitsF_one, List.length_append]
theorem lastG_next (a : Int) (G : List (List Int)) {j : Nat} (hj : j < G.length) : lastG a (G.take (j + 1)) = (G.getD j []).getD 0 0 := by
  rw [take_snoc hj, lastG_app]
theorem pst_len (b : List Int) : ∀ i, (pst b i).1.length + (pst b i).2 ≤ i
  | 0 => Nat.le_refl _
  | i + 1 => by
    have h := pst_len b i
    by_cases h0 : b.getD (zzN (i + 1)) 0 = 0
    · rw [pst_zero b i h0]; dsimp only; omega
    · rw [pst_num b i h0]
      simp only [List.length_append, List.length_replicate, List.length_cons, List.length_nil]
      omega
theorem pcs_len (b : List Int) (a : Int) : (pcs b a).length ≤ 65 := by
  have h := pst_len b 63
  unfold pcs tailP
  simp only [List.length_cons, List.length_append]
  split <;> simp <;> omega
theorem bitsF_len {ls1 C1 ls2 C2 : List Int} {O1 O2 : List Nat} (h1 : Has ls1 O1 C1 12) (h2 : Has ls2 O2 C2 256) : ∀ (G : List (List Int)) (a : Int), goodF a G → (bitsF ls1 C1 ls2 C2 a G).length ≤ 2080 * G.length
  | [], _, _ => Nat.le_refl _
  | x :: G, a, h => by
    have e1 := flatQ_len (C1 := C1) (C2 := C2) h1.vl h2.vl (pcs x a) (okQ_pcs (C1 := C1) (C2 := C2) h1 h2 h.1.2.1 h.1.2.2)
    have e2 := pcs_len x a
    have e3 := bitsF_len h1 h2 G (x.getD 0 0) h.2
    show (flatQ ls1 C1 ls2 C2 (pcs x a) ++ bitsF ls1 C1 ls2 C2 (x.getD 0 0) G).length ≤ _
    rw [List.length_append, List.length_cons]
    omega
theorem numP_pib (ac : Bool) (n : Int) (k : Nat) (hk : k ≤ 1000) : Pib (numP ac n k) := by
  have h1 := exZ_bd2 n
  have h2 := szN_bd n
  refine ⟨?_, ?_, ?_⟩
  · show -9223372036854775808 ≤ ((16 : Int) * k + szN n) ∧ ((16 : Int) * k + szN n) ≤ 9223372036854775807
    omega
  · show -9223372036854775808 ≤ exZ n ∧ exZ n ≤ 9223372036854775807
    omega
  · show -9223372036854775808 ≤ ((szN n : Nat) : Int) ∧ ((szN n : Nat) : Int) ≤ 9223372036854775807
    omega
theorem skip_pib : Pib skipP := by unfold Pib skipP; decide
theorem end_pib : Pib endP := by unfold Pib endP; decide
theorem pst_pib (b : List Int) : ∀ i, i ≤ 63 → ∀ p ∈ (pst b i).1, Pib p
  | 0, _, p, hp => by cases hp
  | i + 1, hi, p, hp => by
    have h := pst_len b i
    by_cases h0 : b.getD (zzN (i + 1)) 0 = 0
    · rw [pst_zero b i h0] at hp; exact pst_pib b i (by omega) p hp
    · rw [pst_num b i h0] at hp
      rcases List.mem_append.1 hp with hp | hp
      · rcases List.mem_append.1 hp with hp | hp
        · exact pst_pib b i (by omega) p hp
        · rw [List.eq_of_mem_replicate hp]; exact skip_pib
      · rw [List.mem_singleton.1 hp]; exact numP_pib _ _ _ (by omega)
theorem pcs_pib (b : List Int) (a : Int) : ∀ p ∈ pcs b a, Pib p := fun p hp => by
  unfold pcs tailP at hp
  rcases List.mem_cons.1 hp with rfl | hp
  · exact numP_pib _ _ _ (by omega)
  · rcases List.mem_append.1 hp with hp | hp
    · exact pst_pib b 63 (Nat.le_refl _) p hp
    · split at hp
      · rw [List.mem_singleton.1 hp]; exact end_pib
      · cases hp
theorem fold_sets : ∀ (l : List Value) (k : Nat) (a : Array Value) (j : Nat), (List.foldl (fun (cs : Array Value) (x : Value × Nat) => cs.setIfInBounds x.2 x.1) a (l.zipIdx k))[j]? = if k ≤ j ∧ j < k + l.length ∧ j < a.size then l[j - k]? else a[j]?
  | [], k, a, j => by
    rw [if_neg (fun h => by have := h.2.1; simp at this; omega)]; rfl
  | v :: l, k, a, j => by
    rw [List.zipIdx_cons, List.foldl_cons, fold_sets l (k + 1), Array.size_setIfInBounds, Array.getElem?_setIfInBounds, List.length_cons]
    by_cases hj : j = k
    · subst hj
      rw [if_neg (by omega), if_pos rfl]
      by_cases hs : j < a.size
      · rw [if_pos hs, if_pos ⟨by omega, by omega, hs⟩, Nat.sub_self]; rfl
      · rw [if_neg hs, if_neg (by omega), Array.getElem?_eq_none (by omega)]
    · have hj' : ¬ (v, k).snd = j := fun h => hj h.symm
      by_cases hc : k + 1 ≤ j ∧ j < k + 1 + l.length ∧ j < a.size
      · rw [if_pos hc, if_pos ⟨by omega, by omega, hc.2.2⟩, show j - k = (j - (k + 1)) + 1 by omega, List.getElem?_cons_succ]
      · rw [if_neg hc, if_neg hj', if_neg (by omega)]
theorem fold_all (l : List Value) (a : Array Value) (h : l.length = a.size) : List.foldl (fun (cs : Array Value) (x : Value × Nat) => cs.setIfInBounds x.2 x.1) a l.zipIdx = l.toArray := by
  apply Array.ext_getElem?
  intro j
  rw [fold_sets]
  by_cases hj : j < l.length
  · rw [if_pos ⟨by omega, by omega, by omega⟩, Nat.sub_zero]; simp
  · rw [if_neg (by omega), Array.getElem?_eq_none (xs := a) (i := j) (by omega), Array.getElem?_eq_none (by simp; omega)]
end Go.Proofs.Ytlhappecjjbopaa
