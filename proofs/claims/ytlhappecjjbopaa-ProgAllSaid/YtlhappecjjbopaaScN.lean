/-
  ScanReads, first part: what a reading comes to, as a function of the bits; scan.take.
-/
import Derived.Test.YtlhappecjjbopaaScH
import Derived.Test.YtlhappecjjbopaaCaV
namespace Go.Proofs.Ytlhappecjjbopaa
open Go.ChangeShapes Go.WideShapes Go.ChangeAt Go.WideMaps Go.WideElems Go.RowKit Go.Joins
set_option linter.unusedVariables false


open Classical in
/-- the symbol, the bits and the error of a reading, as a function -/
noncomputable def rdF (S Z l : List Int) : Int × Nat × Int := if h : ∃ t : Int × Nat × Int, RdS S Z l t.1 t.2.1 t.2.2 then Classical.choose h else (0, 0, 0)
theorem rdF_eq {S Z l : List Int} (hz : Zs Z) (hl : B01 l) {s : Int} {n : Nat} {e : Int} (h : RdS S Z l s n e) : rdF S Z l = (s, n, e) := by
  have hx : ∃ t : Int × Nat × Int, RdS S Z l t.1 t.2.1 t.2.2 := ⟨(s, n, e), h⟩
  unfold rdF
  rw [dif_pos hx]
  obtain ⟨h1, h2, h3⟩ := (Classical.choose_spec hx).uniq hz hl h
  exact Prod.ext h1 (Prod.ext h2 h3)
theorem RdS.sy_bd {S Z l : List Int} {s : Int} {n : Nat} {e : Int} (hS : ∀ x ∈ S, 0 ≤ x ∧ x ≤ 511) (h : RdS S Z l s n e) : 0 ≤ s ∧ s ≤ 511 := by
  rcases h with ⟨h0, h1, h2, h3⟩ | ⟨h0, k, hc, ⟨h1, h2, h3, h4⟩ | ⟨h1, ⟨i, hi, h2, h3, h4⟩ | ⟨_, _, h2, h3, h4⟩⟩⟩
  · omega
  · omega
  · rw [h2, List.getD_eq_getElem?_getD]
    rcases hq : S[i]? with _ | y
    · simp
    · exact hS y (List.mem_of_getElem? hq)
  · omega

/-- the places from the i-th on, by the bits from the a-th on -/
noncomputable def rdL (S Z b : List Int) (i a : Nat) (out : List Int) : List Int × Nat × Int :=
  if i < 64 then
    if (rdF S Z (b.drop a)).2.2 ≠ 0 then (z64, 0, (rdF S Z (b.drop a)).2.2)
    else if (rdF S Z (b.drop a)).1.toNat = 0 then (out, a + (rdF S Z (b.drop a)).2.1, 0)
    else if (rdF S Z (b.drop a)).1.toNat = 240 then
      if 63 < i + 16 then (z64, 0, 2) else rdL S Z b (i + 16) (a + (rdF S Z (b.drop a)).2.1) out
    else if (rdF S Z (b.drop a)).1.toNat % 16 = 0 ∨ 10 < (rdF S Z (b.drop a)).1.toNat % 16 ∨ 63 < i + (rdF S Z (b.drop a)).1.toNat / 16 then (z64, 0, 2)
    else if b.length < a + (rdF S Z (b.drop a)).2.1 + (rdF S Z (b.drop a)).1.toNat % 16 then (z64, 0, 8)
    else rdL S Z b (i + (rdF S Z (b.drop a)).1.toNat / 16 + 1) (a + (rdF S Z (b.drop a)).2.1 + (rdF S Z (b.drop a)).1.toNat % 16)
      (out.set (zzN (i + (rdF S Z (b.drop a)).1.toNat / 16)) (vaZ (hv ((b.drop (a + (rdF S Z (b.drop a)).2.1)).take ((rdF S Z (b.drop a)).1.toNat % 16))) (((rdF S Z (b.drop a)).1.toNat % 16 : Nat) : Int)))
  else (out, a, 0)
termination_by 64 - i
decreasing_by all_goals omega

section
variable {S Z b : List Int} {i a : Nat} {out : List Int} {s k : Nat} {e : Int}
theorem rdL_out (hi : ¬ i < 64) : rdL S Z b i a out = (out, a, 0) := by rw [rdL, if_neg hi]
theorem rdL_bad (hi : i < 64) (hF : rdF S Z (b.drop a) = ((s : Int), k, e)) (he : e ≠ 0) : rdL S Z b i a out = (z64, 0, e) := by
  rw [rdL, if_pos hi, hF]; exact if_pos he
theorem rdL_eob (hi : i < 64) (hF : rdF S Z (b.drop a) = (((0 : Nat) : Int), k, 0)) : rdL S Z b i a out = (out, a + k, 0) := by
  rw [rdL, if_pos hi, hF]; rfl
theorem rdL_skipbad (hi : i < 64) (hF : rdF S Z (b.drop a) = (((240 : Nat) : Int), k, 0)) (h : 63 < i + 16) : rdL S Z b i a out = (z64, 0, 2) := by
  rw [rdL, if_pos hi, hF, if_neg (by simp), if_neg (by simp), if_pos (by simp), if_pos h]
theorem rdL_skip (hi : i < 64) (hF : rdF S Z (b.drop a) = (((240 : Nat) : Int), k, 0)) (h : ¬ 63 < i + 16) : rdL S Z b i a out = rdL S Z b (i + 16) (a + k) out := by
  rw [rdL, if_pos hi, hF, if_neg (by simp), if_neg (by simp), if_pos (by simp), if_neg h]
theorem rdL_mal (hi : i < 64) (hF : rdF S Z (b.drop a) = ((s : Int), k, 0)) (h0 : s ≠ 0) (h1 : s ≠ 240) (h : s % 16 = 0 ∨ 10 < s % 16 ∨ 63 < i + s / 16) : rdL S Z b i a out = (z64, 0, 2) := by
  rw [rdL, if_pos hi, hF, if_neg (by simp), if_neg (by simpa using h0), if_neg (by simpa using h1), if_pos (by simpa using h)]
theorem rdL_end (hi : i < 64) (hF : rdF S Z (b.drop a) = ((s : Int), k, 0)) (h0 : s ≠ 0) (h1 : s ≠ 240) (h : ¬ (s % 16 = 0 ∨ 10 < s % 16 ∨ 63 < i + s / 16)) (hl : b.length < a + k + s % 16) : rdL S Z b i a out = (z64, 0, 8) := by
  rw [rdL, if_pos hi, hF, if_neg (by simp), if_neg (by simpa using h0), if_neg (by simpa using h1), if_neg (by simpa using h), if_pos (by simpa using hl)]
theorem rdL_go (hi : i < 64) (hF : rdF S Z (b.drop a) = ((s : Int), k, 0)) (h0 : s ≠ 0) (h1 : s ≠ 240) (h : ¬ (s % 16 = 0 ∨ 10 < s % 16 ∨ 63 < i + s / 16)) (hl : ¬ b.length < a + k + s % 16) :
    rdL S Z b i a out = rdL S Z b (i + s / 16 + 1) (a + k + s % 16) (out.set (zzN (i + s / 16)) (vaZ (hv ((b.drop (a + k)).take (s % 16))) ((s % 16 : Nat) : Int))) := by
  rw [rdL, if_pos hi, hF, if_neg (by simp), if_neg (by simpa using h0), if_neg (by simpa using h1), if_neg (by simpa using h), if_neg (by simpa using hl)]; rfl
end

/-- a block, by the bits -/
noncomputable def rdB (S1 Z1 S2 Z2 b : List Int) (ahead : Int) : List Int × Nat × Int :=
  if (rdF S1 Z1 b).2.2 ≠ 0 then (z64, 0, (rdF S1 Z1 b).2.2)
  else if 11 < (rdF S1 Z1 b).1.toNat then (z64, 0, 2)
  else if b.length < (rdF S1 Z1 b).2.1 + (rdF S1 Z1 b).1.toNat then (z64, 0, 8)
  else if DcB (ahead + vaZ (hv ((b.drop (rdF S1 Z1 b).2.1).take (rdF S1 Z1 b).1.toNat)) (((rdF S1 Z1 b).1.toNat : Nat) : Int)) then
    rdL S2 Z2 b 1 ((rdF S1 Z1 b).2.1 + (rdF S1 Z1 b).1.toNat) (z64.set 0 (ahead + vaZ (hv ((b.drop (rdF S1 Z1 b).2.1).take (rdF S1 Z1 b).1.toNat)) (((rdF S1 Z1 b).1.toNat : Nat) : Int)))
  else (z64, 0, 2)
section
variable {S1 Z1 S2 Z2 b : List Int} {ahead : Int} {s k : Nat} {e : Int}
theorem rdB_bad (hF : rdF S1 Z1 b = ((s : Int), k, e)) (he : e ≠ 0) : rdB S1 Z1 S2 Z2 b ahead = (z64, 0, e) := by
  rw [rdB, hF]; exact if_pos he
theorem rdB_big (hF : rdF S1 Z1 b = ((s : Int), k, 0)) (h : 11 < s) : rdB S1 Z1 S2 Z2 b ahead = (z64, 0, 2) := by
  rw [rdB, hF, if_neg (by simp), if_pos (by simpa using h)]
theorem rdB_end (hF : rdF S1 Z1 b = ((s : Int), k, 0)) (h : ¬ 11 < s) (hl : b.length < k + s) : rdB S1 Z1 S2 Z2 b ahead = (z64, 0, 8) := by
  rw [rdB, hF, if_neg (by simp), if_neg (by simpa using h), if_pos (by simpa using hl)]
theorem rdB_dc (hF : rdF S1 Z1 b = ((s : Int), k, 0)) (h : ¬ 11 < s) (hl : ¬ b.length < k + s) (hd : ¬ DcB (ahead + vaZ (hv ((b.drop k).take s)) (s : Int))) : rdB S1 Z1 S2 Z2 b ahead = (z64, 0, 2) := by
  rw [rdB, hF, if_neg (by simp), if_neg (by simpa using h), if_neg (by simpa using hl), if_neg (by simpa using hd)]
theorem rdB_go (hF : rdF S1 Z1 b = ((s : Int), k, 0)) (h : ¬ 11 < s) (hl : ¬ b.length < k + s) (hd : DcB (ahead + vaZ (hv ((b.drop k).take s)) (s : Int))) :
    rdB S1 Z1 S2 Z2 b ahead = rdL S2 Z2 b 1 (k + s) (z64.set 0 (ahead + vaZ (hv ((b.drop k).take s)) (s : Int))) := by
  rw [rdB, hF, if_neg (by simp), if_neg (by simpa using h), if_neg (by simpa using hl), if_pos (by simpa using hd)]; rfl
end

theorem vaN_bd (e : Int) (s : Nat) (hs : s ≤ 15) : -32768 ≤ vaZ e s ∧ vaZ e s ≤ 32768 := by
  have h1 : (2 : Int) ^ s ≤ 32768 := by
    have := Nat.pow_le_pow_right (show 0 < 2 by omega) hs
    rw [show (32768 : Int) = 2 ^ 15 from rfl, ← two_cast, ← two_cast]; omega
  have h2 := two_pos s
  unfold vaZ
  rw [Int.toNat_natCast]
  split
  · omega
  · split
    · omega
    · omega
theorem vaZ_nought (e : Int) : vaZ e ((0 : Nat) : Int) = 0 := by unfold vaZ; rw [if_pos (by omega)]
theorem part_hv (n : Nat) (l : List Int) (h : l.length = n) : part true n l = hv l := by unfold part; rw [if_pos rfl, h]; simp

theorem stake_ok {w : World} {p : Nat} {A : Option Addr} {c m : Nat} {B : List Int} (x : Re w p true A c B m) (hm : B.length ≤ 68719476736) (n : Nat) (hn : n ≤ 15) (hl : ¬ 8 * B.length < m + n) :
    Calls Try.prog 128 #[.pointer (some ⟨p, 0, none⟩), .int .i64 n] w fun e w' => e = .returned (.tuple #[.int .i64 (vaZ (hv (((bitsOf true B).drop m).take n)) n), .nilIface]) ∧ Re w' p true A c B (m + n) ∧ Fp p w w' := by
  have hnl := nxt_len true B m n (by omega)
  have hbd := hv_bd (nxt_01 true B m n)
  rw [hnl] at hbd
  have h1 : (2 : Int) ^ n ≤ 32768 := by
    have := Nat.pow_le_pow_right (show 0 < 2 by omega) hn
    rw [show (32768 : Int) = 2 ^ 15 from rfl, ← two_cast, ← two_cast]; omega
  have ht := take_any x hm n (by omega) (by omega)
  rw [part_hv _ _ hnl] at ht
  unfold nxt at ht hbd
  have HT := Lib.hid ht
  generalize hv (((bitsOf true B).drop m).take n) = y at *
  have hy : -9223372036854775808 ≤ y ∧ y ≤ 9223372036854775807 := by omega
  clear ht hnl hbd h1
  go_enter Try.func128, Try.ntmps128
  go_wp2_with fail
  refine HT.out.mono ?_; rintro e w1 ⟨rfl, hx, hf⟩
  go_wp2_with (go_at_call 40; refine (value_any _ _ hy _).mono ?_; rintro e w' ⟨rfl, rfl⟩)
  go_ret2
  exact ⟨rfl, hx, hf⟩
theorem stake_end {w : World} {p : Nat} {A : Option Addr} {c m : Nat} {B : List Int} (x : Re w p true A c B m) (hm : B.length ≤ 68719476736) (n : Nat) (hn : n ≤ 15) (hl : 8 * B.length < m + n) :
    Calls Try.prog 128 #[.pointer (some ⟨p, 0, none⟩), .int .i64 n] w fun e w' => e = .returned (.tuple #[.int .i64 (vaZ 0 n), errV 8]) ∧ Below w.heap.size w w' := by
  have hle := x.le
  go_enter Try.func128, Try.ntmps128
  go_wp2_with fail
  refine (take_end x hm n (by omega) (by omega)).mono ?_; rintro e w1 ⟨rfl, hb⟩
  go_wp2_with (go_at_call 40; refine (value_any _ _ (by omega) _).mono ?_; rintro e w' ⟨rfl, rfl⟩)
  go_ret2
  exact ⟨rfl, hb⟩
theorem results_row2 {P : Program} {fn : Func} {p u : Tmp} {ty : TypeId} (h : fn.results = #[.cell p ty, .tmp u]) (tmps : Array Value) (w : World) (g : Nat) (t : TypeId) (cs : Array Value) (fr : Nat × Nat) (d : TypeDesc)
    (hp : tmps.getD p undef = .pointer (some ⟨g, 0, none⟩)) (hg : w.heap[g]? = some (.cells cs t fr))
    (hu : P.underlying ty = some d) (hd : (match d with | .struct _ | .array _ _ => true | _ => false) = true) (hi : (P.info? ty).map (·.size) = some cs.size) :
    (results fn tmps).run P w = .ok (.tuple #[.agg cs, tmps.getD u undef]) w := by
  have hp' : tmps[p]?.getD undef = .pointer (some ⟨g, 0, none⟩) := by simpa using hp
  simp [results, h, hp', asAddr, run_loadVar_row w g t ty cs fr d hg hu hd hi]
theorem results_row3 {P : Program} {fn : Func} {p u q : Tmp} {ty : TypeId} (h : fn.results = #[.cell p ty, .tmp u, .tmp q]) (tmps : Array Value) (w : World) (g : Nat) (t : TypeId) (cs : Array Value) (fr : Nat × Nat) (d : TypeDesc)
    (hp : tmps.getD p undef = .pointer (some ⟨g, 0, none⟩)) (hg : w.heap[g]? = some (.cells cs t fr))
    (hu : P.underlying ty = some d) (hd : (match d with | .struct _ | .array _ _ => true | _ => false) = true) (hi : (P.info? ty).map (·.size) = some cs.size) :
    (results fn tmps).run P w = .ok (.tuple #[.agg cs, tmps.getD u undef, tmps.getD q undef]) w := by
  have hp' : tmps[p]?.getD undef = .pointer (some ⟨g, 0, none⟩) := by simpa using hp
  simp [results, h, hp', asAddr, run_loadVar_row w g t ty cs fr d hg hu hd hi]

theorem bp_id {P : Program} {fn : Func} {R : Ending → World → Prop} {e : Exit} {a : Act} {w : World} (h : bodyPost P fn R e a w) : bodyPost P fn R e a w := h
end Go.Proofs.Ytlhappecjjbopaa
