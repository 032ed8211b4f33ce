/-
  Bits in bytes: numbers of bits, bytes of bits, lists of bits; plain. No condition.
-/
import Derived.Test.YtlhappecjjbopaaLib
namespace Go.Proofs.Ytlhappecjjbopaa
set_option linter.unusedVariables false

/-- by how much a number of so many bits is shifted for its bit at a place -/
def pk (h : Bool) (i c : Nat) : Nat := if h then c - 1 - i else i
theorem pk_lt {h : Bool} {i c : Nat} (hi : i < c) : pk h i c < c := by unfold pk; split <;> omega
def B01 (l : List Int) : Prop := ∀ x ∈ l, x = 0 ∨ x = 1
theorem B01.nil_ : B01 [] := by intro x hx; simp at hx
theorem B01.app {a b : List Int} (h : B01 a) (k : B01 b) : B01 (a ++ b) := fun x hx => by
  rcases List.mem_append.1 hx with hx | hx
  · exact h x hx
  · exact k x hx
theorem B01.one {b : Int} (h : b = 0 ∨ b = 1) : B01 [b] := fun x hx => by simp at hx; subst hx; exact h
theorem B01.take {a : List Int} (h : B01 a) (n : Nat) : B01 (a.take n) := fun x hx => h x (List.mem_of_mem_take hx)
theorem B01.drop {a : List Int} (h : B01 a) (n : Nat) : B01 (a.drop n) := fun x hx => h x (List.mem_of_mem_drop hx)
theorem B01.cons {x : Int} {a : List Int} (h : B01 (x :: a)) : (x = 0 ∨ x = 1) ∧ B01 a := ⟨h x (by simp), fun y hy => h y (by simp [hy])⟩
theorem B01.rep (n : Nat) {b : Int} (h : b = 0 ∨ b = 1) : B01 (List.replicate n b) := fun x hx => by
  rw [(List.mem_replicate.1 hx).2]; exact h

/-- a number of bits: the highest first; the lowest first -/
def hv : List Int → Int
  | [] => 0
  | b :: l => b * 2 ^ l.length + hv l
def lv : List Int → Int
  | [] => 0
  | b :: l => b + 2 * lv l
theorem two_pos (n : Nat) : (1 : Int) ≤ 2 ^ n := by
  have h : ((2 ^ n : Nat) : Int) = (2 : Int) ^ n := by simp
  have := Nat.one_le_two_pow (n := n)
  omega
theorem two_succ (n : Nat) : (2 : Int) ^ (n + 1) = 2 * 2 ^ n := by rw [Int.pow_succ, Int.mul_comm]
theorem two_cast (n : Nat) : ((2 ^ n : Nat) : Int) = (2 : Int) ^ n := by simp
theorem hv_snoc (l : List Int) (b : Int) : hv (l ++ [b]) = 2 * hv l + b := by
  induction l with
  | nil => simp [hv]
  | cons x l ih =>
    show x * 2 ^ (l ++ [b]).length + hv (l ++ [b]) = 2 * (x * 2 ^ l.length + hv l) + b
    rw [ih, List.length_append, List.length_singleton, two_succ, Int.mul_add, ← Int.mul_assoc, ← Int.mul_assoc, Int.mul_comm x 2]
    omega
theorem lv_snoc (l : List Int) (b : Int) : lv (l ++ [b]) = lv l + b * 2 ^ l.length := by
  induction l with
  | nil => simp [lv]
  | cons x l ih =>
    show x + 2 * lv (l ++ [b]) = x + 2 * lv l + b * 2 ^ (l.length + 1)
    rw [ih, two_succ, Int.mul_add, ← Int.mul_assoc, Int.mul_comm 2 b, Int.mul_assoc]
    omega
theorem hv_bd {l : List Int} (h : B01 l) : 0 ≤ hv l ∧ hv l < 2 ^ l.length := by
  induction l with
  | nil => simp [hv]
  | cons x l ih =>
    obtain ⟨hx, hl⟩ := h.cons
    have := ih hl
    show 0 ≤ x * 2 ^ l.length + hv l ∧ x * 2 ^ l.length + hv l < 2 ^ (l.length + 1)
    rw [two_succ]
    rcases hx with rfl | rfl <;> omega
theorem lv_bd {l : List Int} (h : B01 l) : 0 ≤ lv l ∧ lv l < 2 ^ l.length := by
  induction l with
  | nil => simp [lv]
  | cons x l ih =>
    obtain ⟨hx, hl⟩ := h.cons
    have := ih hl
    show 0 ≤ x + 2 * lv l ∧ x + 2 * lv l < 2 ^ (l.length + 1)
    rw [two_succ]
    rcases hx with rfl | rfl <;> omega

/-- the first bits of so many, as a number -/
def part (h : Bool) (c : Nat) (l : List Int) : Int := if h then hv l * 2 ^ (c - l.length) else lv l
theorem part_nil (h : Bool) (c : Nat) : part h c [] = 0 := by unfold part; split <;> simp [hv, lv]
theorem part_snoc (h : Bool) (c : Nat) (l : List Int) (b : Int) (hl : l.length < c) : part h c (l ++ [b]) = part h c l + b * 2 ^ pk h l.length c := by
  unfold part pk
  cases h
  · simp only [Bool.false_eq_true, if_false]
    exact lv_snoc l b
  · simp only [if_true]
    rw [hv_snoc, List.length_append, List.length_singleton, show c - l.length = (c - (l.length + 1)) + 1 by omega, two_succ, show c - 1 - l.length = c - (l.length + 1) by omega, Int.add_mul, ← Int.mul_assoc, Int.mul_comm (hv l) 2]
theorem part_bd {h : Bool} {c : Nat} {l : List Int} (hB : B01 l) (hl : l.length ≤ c) : 0 ≤ part h c l ∧ part h c l < 2 ^ c := by
  unfold part
  cases h
  · simp only [Bool.false_eq_true, if_false]
    have h1 := lv_bd hB
    have h2 : (2 : Int) ^ l.length ≤ 2 ^ c := by
      have := Nat.pow_le_pow_right (show 0 < 2 by omega) hl
      rw [← two_cast, ← two_cast]; omega
    omega
  · simp only [if_true]
    have h1 := hv_bd hB
    have h2 := two_pos (c - l.length)
    have h3 : (2 : Int) ^ c = 2 ^ l.length * 2 ^ (c - l.length) := by rw [← Int.pow_add, show l.length + (c - l.length) = c by omega]
    rw [h3]
    refine ⟨Int.mul_nonneg h1.1 (by omega), Int.mul_lt_mul_of_pos_right h1.2 (by omega)⟩
/-- the next bit's place is free: 'or' is a sum there -/
theorem part_or {h : Bool} {c : Nat} {l : List Int} {b : Int} (hB : B01 l) (hb : b = 0 ∨ b = 1) (hl : l.length < c) :
    (((part h c l).toNat ||| (b * 2 ^ pk h l.length c).toNat : Nat) : Int) = part h c (l ++ [b]) := by
  rw [part_snoc h c l b hl]
  have hbd := part_bd (h := h) hB (Nat.le_of_lt hl)
  have hp := two_pos (pk h l.length c)
  obtain ⟨B, rfl, hB1⟩ : ∃ B : Nat, b = B ∧ B ≤ 1 := by
    rcases hb with rfl | rfl
    · exact ⟨0, rfl, by omega⟩
    · exact ⟨1, rfl, by omega⟩
  have e2 : ((B : Int) * 2 ^ pk h l.length c).toNat = B * 2 ^ pk h l.length c := by rw [← two_cast, ← Int.natCast_mul, Int.toNat_natCast]
  rw [e2]
  unfold part pk at *
  cases h
  · simp only [Bool.false_eq_true, if_false] at *
    have h1 := lv_bd hB
    obtain ⟨q, hq⟩ := Int.eq_ofNat_of_zero_le h1.1
    rw [hq] at h1 ⊢
    rw [Int.toNat_natCast, Nat.or_comm, Nat.mul_comm B, ← Nat.two_pow_add_eq_or_of_lt (by rw [← two_cast] at h1; omega), Int.natCast_add, Int.natCast_mul, two_cast, Int.mul_comm, Int.add_comm]
  · simp only [if_true] at *
    have h1 := hv_bd hB
    obtain ⟨q, hq⟩ := Int.eq_ofNat_of_zero_le h1.1
    rw [hq]
    have e1 : ((q : Int) * 2 ^ (c - l.length)).toNat = 2 ^ (c - l.length) * q := by rw [← two_cast, ← Int.natCast_mul, Int.toNat_natCast, Nat.mul_comm]
    rw [e1, ← Nat.two_pow_add_eq_or_of_lt (by
      rw [show c - l.length = (c - 1 - l.length) + 1 by omega, Nat.pow_succ]
      have := Nat.one_le_two_pow (n := c - 1 - l.length)
      have h4 : B * 2 ^ (c - 1 - l.length) ≤ 1 * 2 ^ (c - 1 - l.length) := Nat.mul_le_mul_right _ hB1
      omega), Int.natCast_add, Int.natCast_mul, two_cast, Int.natCast_mul, two_cast, Int.mul_comm]

/-- a number's bits -/
def digs (h : Bool) : Int → Nat → List Int
  | _, 0 => []
  | n, c + 1 => if h then digs h (n / 2) c ++ [n % 2] else n % 2 :: digs h (n / 2) c
theorem digs_len (h : Bool) : ∀ (n : Int) (c : Nat), (digs h n c).length = c
  | _, 0 => rfl
  | n, c + 1 => by unfold digs; split <;> simp [digs_len h (n / 2) c]
theorem digs_01 (h : Bool) : ∀ (n : Int) (c : Nat), B01 (digs h n c)
  | _, 0 => B01.nil_
  | n, c + 1 => by
    have h1 : n % 2 = 0 ∨ n % 2 = 1 := by omega
    unfold digs; split
    · exact (digs_01 h (n / 2) c).app (B01.one h1)
    · exact (B01.one h1).app (digs_01 h (n / 2) c)
theorem digs_at (h : Bool) : ∀ (c : Nat) (n : Int) (i : Nat), i < c → (digs h n c)[i]? = some (n / 2 ^ pk h i c % 2)
  | c + 1, n, i, hi => by
    have e : ∀ k : Nat, n / 2 / 2 ^ k = n / 2 ^ (k + 1) := fun k => by rw [two_succ, Int.ediv_ediv_of_nonneg (by omega)]
    cases h
    · show (n % 2 :: digs false (n / 2) c)[i]? = _
      match i, hi with
      | 0, _ => simp [pk]
      | i + 1, hi =>
        rw [List.getElem?_cons_succ, digs_at false c (n / 2) i (by omega)]
        simp only [pk, Bool.false_eq_true, if_false]
        rw [e]
    · show (digs true (n / 2) c ++ [n % 2])[i]? = _
      by_cases hlt : i < c
      · rw [List.getElem?_append_left (by rw [digs_len]; exact hlt), digs_at true c (n / 2) i hlt]
        simp only [pk, if_true]
        rw [e, show c - 1 - i + 1 = c + 1 - 1 - i by omega]
      · obtain rfl : i = c := by omega
        rw [List.getElem?_append_right (by rw [digs_len]; omega), digs_len]
        simp [pk]
theorem digs_val (h : Bool) : ∀ (c : Nat) (n : Int), 0 ≤ n → n < 2 ^ c → part h c (digs h n c) = n
  | 0, n, h0, h1 => by
    simp at h1
    have : n = 0 := by omega
    subst this
    exact part_nil h 0
  | c + 1, n, h0, h1 => by
    have ih := digs_val h c (n / 2) (by omega) (by rw [two_succ] at h1; omega)
    unfold part at ih ⊢
    cases h
    · simp only [Bool.false_eq_true, if_false] at ih ⊢
      show n % 2 + 2 * lv (digs false (n / 2) c) = n
      rw [ih]; omega
    · simp only [if_true, digs_len, Nat.sub_self, Int.pow_zero, Int.mul_one] at ih ⊢
      show hv (digs true (n / 2) c ++ [n % 2]) = n
      rw [hv_snoc, ih]; omega
theorem digs_snoc (n : Int) (c : Nat) : digs true n (c + 1) = digs true (n / 2) c ++ [n % 2] := rfl
theorem digs_part (h : Bool) : ∀ (c : Nat) (l : List Int), B01 l → l.length = c → digs h (part h c l) c = l := by
  intro c
  cases h
  · unfold part
    simp only [Bool.false_eq_true, if_false]
    induction c with
    | zero => intro l _ h; rw [List.eq_nil_of_length_eq_zero h]; rfl
    | succ c ih =>
      intro l hB hl
      match l, hl with
      | x :: l, hl =>
        obtain ⟨hx, hB'⟩ := hB.cons
        show (x + 2 * lv l) % 2 :: digs false ((x + 2 * lv l) / 2) c = x :: l
        have e1 : (x + 2 * lv l) % 2 = x := by rcases hx with rfl | rfl <;> omega
        have e2 : (x + 2 * lv l) / 2 = lv l := by rcases hx with rfl | rfl <;> omega
        rw [e1, e2, ih l hB' (by simpa using hl)]
  · unfold part
    simp only [if_true]
    induction c with
    | zero => intro l _ h; rw [List.eq_nil_of_length_eq_zero h]; rfl
    | succ c ih =>
      intro l hB hl
      obtain ⟨a, x, rfl⟩ : ∃ a x, l = a ++ [x] := ⟨l.dropLast, l.getLast (by intro h; simp [h] at hl), (List.dropLast_concat_getLast _).symm⟩
      have hx : x = 0 ∨ x = 1 := hB x (by simp)
      have ha : a.length = c := by simpa using hl
      have ih' := ih a (fun y hy => hB y (by simp [hy])) ha
      rw [ha, Nat.sub_self, Int.pow_zero, Int.mul_one] at ih'
      rw [hl, Nat.sub_self, Int.pow_zero, Int.mul_one, hv_snoc]
      show digs true ((2 * hv a + x) / 2) c ++ [(2 * hv a + x) % 2] = a ++ [x]
      have e1 : (2 * hv a + x) % 2 = x := by rcases hx with rfl | rfl <;> omega
      have e2 : (2 * hv a + x) / 2 = hv a := by rcases hx with rfl | rfl <;> omega
      rw [e1, e2, ih']

theorem bv_get {l : List Int} {i : Nat} (h : i < l.length) : (bv l)[i]? = some (.int .u8 (l.getD i 0)) := by
  simp [bv, h, List.getD_eq_getElem?_getD]

/-- bits as bytes: what is left of the last one is 0 -/
def nby (n : Nat) : Nat := (n + 7) / 8
def pack (h : Bool) (l : List Int) : List Int := (List.range (nby l.length)).map fun k => part h 8 ((l.drop (8 * k)).take 8)
theorem pack_len (h : Bool) (l : List Int) : (pack h l).length = nby l.length := by simp [pack]
theorem part_bs {h : Bool} {l : List Int} (hB : B01 l) (k : Nat) : 0 ≤ part h 8 ((l.drop (8 * k)).take 8) ∧ part h 8 ((l.drop (8 * k)).take 8) ≤ 255 := by
  have h1 := part_bd (h := h) (c := 8) ((hB.drop (8 * k)).take 8) (by rw [List.length_take]; omega)
  simp only [show (2 : Int) ^ 8 = 256 from rfl] at h1
  omega
theorem pack_bs {h : Bool} {l : List Int} (hB : B01 l) : Bs (pack h l) := fun x hx => by
  obtain ⟨k, _, rfl⟩ := List.mem_map.1 hx
  exact part_bs hB k
theorem pack_at (h : Bool) (l : List Int) (k : Nat) (hk : k < nby l.length) : (pack h l)[k]? = some (part h 8 ((l.drop (8 * k)).take 8)) := by
  unfold pack
  rw [List.getElem?_map, List.getElem?_range hk]; rfl
/-- the bytes with one for the next bit -/
def packZ (h : Bool) (l : List Int) : List Int := if l.length % 8 = 0 then pack h l ++ [0] else pack h l
theorem packZ_len (h : Bool) (l : List Int) : (packZ h l).length = l.length / 8 + 1 := by
  unfold packZ; split <;> simp [pack_len, nby] <;> omega
theorem packZ_at (h : Bool) (l : List Int) (k : Nat) (hk : k ≤ l.length / 8) : (packZ h l)[k]? = some (part h 8 ((l.drop (8 * k)).take 8)) := by
  unfold packZ
  split
  · by_cases hlt : k < l.length / 8
    · rw [List.getElem?_append_left (by rw [pack_len, nby]; omega), pack_at h l k (by unfold nby; omega)]
    · obtain rfl : k = l.length / 8 := by omega
      rw [List.getElem?_append_right (by rw [pack_len, nby]; omega), pack_len, List.drop_of_length_le (by omega)]
      rw [show l.length / 8 - nby l.length = 0 by unfold nby; omega]
      simp [part_nil]
  · rw [pack_at h l k (by unfold nby; omega)]
theorem pack_snoc (h : Bool) (l : List Int) (b : Int) :
    pack h (l ++ [b]) = (packZ h l).set (l.length / 8) (part h 8 (l.drop (8 * (l.length / 8)) ++ [b])) := by
  apply List.ext_getElem?
  intro k
  have hn : nby (l ++ [b]).length = l.length / 8 + 1 := by simp [nby]; omega
  by_cases hk : k < l.length / 8 + 1
  · rw [pack_at h _ k (by omega)]
    by_cases he : k = l.length / 8
    · subst he
      rw [List.getElem?_set_self (by rw [packZ_len]; omega), List.drop_append_of_le_length (by omega), List.take_of_length_le (by simp; omega)]
    · rw [List.getElem?_set_ne (by omega), packZ_at h l k (by omega), List.drop_append_of_le_length (by omega), List.take_append_of_le_length (by simp; omega)]
  · rw [List.getElem?_eq_none (by rw [pack_len]; omega), List.getElem?_eq_none (by rw [List.length_set, packZ_len]; omega)]

/-- what is left of the last byte, filled -/
def fill1 (h : Bool) : Int := if h then 1 else 0
def pad (n : Nat) : Nat := (8 - n % 8) % 8
def full (h : Bool) (l : List Int) : List Int := l ++ List.replicate (pad l.length) (fill1 h)
theorem fill1_01 (h : Bool) : fill1 h = 0 ∨ fill1 h = 1 := by unfold fill1; split <;> simp
theorem full_01 {h : Bool} {l : List Int} (hB : B01 l) : B01 (full h l) := hB.app (B01.rep _ (fill1_01 h))
theorem full_len (h : Bool) (l : List Int) : (full h l).length = 8 * nby l.length := by
  unfold full pad nby; simp; omega

/-- bytes as bits -/
def bitsOf (h : Bool) (b : List Int) : List Int := b.flatMap fun x => digs h x 8
theorem bitsOf_len (h : Bool) (b : List Int) : (bitsOf h b).length = 8 * b.length := by
  induction b with
  | nil => rfl
  | cons x b ih => simp only [bitsOf, List.flatMap_cons, List.length_append, digs_len, List.length_cons] at ih ⊢; omega
theorem bitsOf_01 (h : Bool) (b : List Int) : B01 (bitsOf h b) := fun x hx => by
  obtain ⟨y, _, hy⟩ := List.mem_flatMap.1 hx
  exact digs_01 h y 8 x hy
theorem bitsOf_at (h : Bool) : ∀ (b : List Int) (i : Nat), i < 8 * b.length → (bitsOf h b)[i]? = some (b.getD (i / 8) 0 / 2 ^ pk h (i % 8) 8 % 2)
  | x :: b, i, hi => by
    show (digs h x 8 ++ bitsOf h b)[i]? = _
    by_cases hlt : i < 8
    · rw [List.getElem?_append_left (by rw [digs_len]; exact hlt), digs_at h 8 x i hlt, show i / 8 = 0 by omega, show i % 8 = i by omega]; rfl
    · rw [List.getElem?_append_right (by rw [digs_len]; omega), digs_len, bitsOf_at h b (i - 8) (by simp at hi; omega), show i / 8 = (i - 8) / 8 + 1 by omega, show i % 8 = (i - 8) % 8 by omega]
      rfl
  | [], i, hi => by simp at hi
theorem bitsOf_app (h : Bool) (a b : List Int) : bitsOf h (a ++ b) = bitsOf h a ++ bitsOf h b := by simp [bitsOf]
/-- whole bytes of bits give the bits back -/
theorem bitsOf_pack (h : Bool) : ∀ (n : Nat) (l : List Int), B01 l → l.length = 8 * n → bitsOf h (pack h l) = l
  | 0, l, _, hl => by
    rw [show l = [] from List.eq_nil_of_length_eq_zero (by omega)]; rfl
  | n + 1, l, hB, hl => by
    have hp : pack h l = part h 8 (l.take 8) :: pack h (l.drop 8) := by
      unfold pack
      rw [show nby l.length = nby (l.drop 8).length + 1 by simp [nby]; omega, List.range_succ_eq_map, List.map_cons, List.map_map]
      congr 1
      apply List.map_congr_left
      intro k _
      show part h 8 ((l.drop (8 * (k + 1))).take 8) = part h 8 (((l.drop 8).drop (8 * k)).take 8)
      rw [List.drop_drop, show 8 * (k + 1) = 8 + 8 * k by omega]
    rw [hp]
    show digs h (part h 8 (l.take 8)) 8 ++ bitsOf h (pack h (l.drop 8)) = l
    rw [digs_part h 8 _ (hB.take 8) (by simp; omega), bitsOf_pack h n _ (hB.drop 8) (by simp; omega), List.take_append_drop]
end Go.Proofs.Ytlhappecjjbopaa
