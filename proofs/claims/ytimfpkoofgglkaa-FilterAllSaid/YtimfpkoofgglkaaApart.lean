/-
  Contract of burnishnum's Apart: lists that are each their own. Conditions: at most 1000000 bytes each, at most 100 lists.
-/
import Derived.Test.YtimfpkoofgglkaaCopy
namespace Go.Proofs.Ytimfpkoofgglkaa
open Go.RowKit
set_option linter.unusedVariables false

/-! plain -/
/-- the mark of byte j of list k -/
def mk (k j : Nat) : Int := (29 * (k : Int) + 5 * (j : Int) + 3) % 256
def mkL (k n : Nat) : List Int := (List.range n).map (mk k)
theorem mkL_len (k n : Nat) : (mkL k n).length = n := by simp [mkL]
theorem mkL_succ (k n : Nat) : mkL k (n + 1) = mkL k n ++ [mk k n] := by simp [mkL, List.range_succ]
theorem bvmk_succ (k n : Nat) : bv (mkL k (n + 1)) = bv (mkL k n) ++ [.int .u8 (mk k n)] := by rw [mkL_succ, bv_app]; rfl
theorem bvmk_get {k n j : Nat} (h : j < n) : (bv (mkL k n))[j]? = some (.int .u8 (mk k j)) := by simp [bv, mkL, h]
theorem bvmk_len (k n : Nat) : (bv (mkL k n)).length = n := by rw [bv_len, mkL_len]
theorem bvmk_pre (k n : Nat) : ∀ d, ∃ t, bv (mkL k (n + d)) = bv (mkL k n) ++ t
  | 0 => ⟨[], by simp⟩
  | d + 1 => by
    obtain ⟨t, ht⟩ := bvmk_pre k n d
    exact ⟨t ++ [.int .u8 (mk k (n + d))], by rw [← Nat.add_assoc, bvmk_succ, ht, List.append_assoc]⟩
theorem set_mid (a : List Value) (y u : Value) (t : List Value) (n : Nat) (h : a.length = n) : (a ++ y :: t).set n u = a ++ u :: t := by
  subst h; rw [List.set_append_right (h := Nat.le_refl _), Nat.sub_self]; rfl

/-- lists that are each their own -/
structure Ls (w : World) (base L m : Nat) (vs : Nat → Value) (ns : Nat → Nat) : Prop where
  lt : L < w.heap.size
  base_le : base ≤ L
  cell : ∀ k, k < m → w.cell? ⟨L, k, none⟩ = some (vs k)
  own : ∀ k, k < m → ∃ xs, w.ownsRow base 5 1 (vs k) (ns k) xs
  small : ∀ k, k < m → ns k ≤ 1000000
  apart : ∀ i j b, i < m → j < m → i ≠ j → (vs i).ownBlock = some b → (vs j).ownBlock ≠ some b
  notL : ∀ i b, i < m → (vs i).ownBlock = some b → b ≠ L

/-- the first k lists are marked -/
structure P1 (w : World) (base L m : Nat) (vs : Nat → Value) (ns : Nat → Nat) (k : Nat) (wr : World) : Prop where
  fr : Fr (fun b => base ≤ b ∧ b ≠ L) w wr
  own : ∀ i, i < m → ∃ xs, wr.ownsRow base 5 1 (vs i) (ns i) xs ∧ (i < k → xs = bv (mkL i (ns i)))

theorem P1.step {w wr w2 : World} {base L m k : Nat} {vs : Nat → Value} {ns : Nat → Nat} (hL : Ls w base L m vs ns) (h : P1 w base L m vs ns k wr) (hk : k < m)
    (hr : w2.ownsRow base 5 1 (vs k) (ns k) (bv (mkL k (ns k)))) (hf : Fr (fun b => (vs k).ownBlock = some b) wr w2) : P1 w base L m vs ns (k + 1) w2 := by
  refine ⟨h.fr.trans' hf (fun b hb hs => ?_), fun i hi => ?_⟩
  · obtain ⟨xs, hx, _⟩ := h.own k hk
    exact ⟨(hx.lt b hs).1, hL.notL k b hk hs⟩
  · by_cases hik : i = k
    · subst hik; exact ⟨_, hr, fun _ => rfl⟩
    · obtain ⟨xs, hx, hxk⟩ := h.own i hi
      exact ⟨xs, hf.own hx (fun b hb hs => hL.apart i k b hi hk hik hb hs), fun hlt => hxk (by omega)⟩

/-- the first k lists are grown; r of the grown ones are collected -/
structure Gw (w : World) (base L m : Nat) (vs : Nat → Value) (ns : Nat → Nat) (k r : Nat) (cur : Nat → Value) (gv : Value) (wr : World) : Prop where
  bel : Below base w wr
  ltL : L < wr.heap.size
  cellL : ∀ i, i < m → wr.cell? ⟨L, i, none⟩ = some (vs i)
  own : ∀ i, i < m → wr.ownsRow base 5 1 (cur i) (if i < k then ns i + 10 else ns i) (bv (mkL i (if i < k then ns i + 10 else ns i)))
  same : ∀ i, k ≤ i → cur i = vs i
  old : ∀ i, i < m → ∃ A c, vs i = .slice A (ns i) c ∧ Rd wr wr.heap.size A (bv (mkL i (ns i)))
  ap : ∀ i j b, i < m → j < m → i ≠ j → (cur i).ownBlock = some b → (cur j).ownBlock ≠ some b ∧ (vs j).ownBlock ≠ some b
  notL : ∀ i b, i < m → (cur i).ownBlock = some b → b ≠ L
  rows : wr.ownsRow base 26 1 gv r ((List.range r).map cur)
  gap : ∀ b, gv.ownBlock = some b → b ≠ L ∧ ∀ i, i < m → (cur i).ownBlock ≠ some b ∧ (vs i).ownBlock ≠ some b
  vlt : ∀ i b, i < m → (vs i).ownBlock = some b → b < wr.heap.size
  ro : r ≤ k

theorem own_block {A : Option Addr} {n c b off : Nat} (hA : A = some ⟨b, off, none⟩) : (Value.slice A n c).ownBlock = some b := by subst hA; rfl
theorem Fr.rdv {S : Nat → Prop} {w w' : World} {A : Option Addr} {n c : Nat} {xs : List Value} (h : Fr S w w') (hR : Rd w w.heap.size A xs) (hn : ∀ b, (Value.slice A n c).ownBlock = some b → ¬ S b) : Rd w' w'.heap.size A xs :=
  (h.rd hR (Nat.le_refl _) (fun p hp => hn p.block (by subst hp; rfl))).more h.size
theorem Rd.lt_of {w : World} {A : Option Addr} {xs : List Value} {n c b : Nat} (h : Rd w w.heap.size A xs) (hx : xs ≠ []) (hb : (Value.slice A n c).ownBlock = some b) : b < w.heap.size := by
  rcases h with h | ⟨g, off, hA, hg, _⟩
  · exact absurd h hx
  · subst hA; simp [Value.ownBlock] at hb; omega

theorem Gw.grow {w wr w2 : World} {base L m k : Nat} {vs cur : Nat → Value} {ns : Nat → Nat} {gv v' : Value} (h : Gw w base L m vs ns k k cur gv wr) (hk : k < m) (hLb : base ≤ L)
    (hr : w2.ownsRow base 5 1 v' (ns k + 10) (bv (mkL k (ns k + 10)))) (hf : Fr (fun b => (vs k).ownBlock = some b) wr w2)
    (hv : v'.ownBlock = (vs k).ownBlock ∨ ∃ b, v'.ownBlock = some b ∧ wr.heap.size ≤ b)
    (ho : ∃ A c, vs k = .slice A (ns k) c ∧ Rd w2 w2.heap.size A (bv (mkL k (ns k)))) : Gw w base L m vs ns (k + 1) k (fun i => if i = k then v' else cur i) gv w2 := by
  have hck : cur k = vs k := h.same k (Nat.le_refl _)
  have hlb : ∀ b, (vs k).ownBlock = some b → base ≤ b ∧ b < wr.heap.size := fun b hb => by
    have h1 := h.own k hk
    rw [hck] at h1
    exact h1.lt b hb
  have hkL : ∀ b, (vs k).ownBlock = some b → b ≠ L := fun b hb => h.notL k b hk (by rw [hck]; exact hb)
  have hci : ∀ i, i < m → ∀ b, (cur i).ownBlock = some b → b < wr.heap.size := fun i hi b hb => ((h.own i hi).lt b hb).2
  refine ⟨⟨hf.os.trans h.bel.os, hf.tape.trans h.bel.tape, hf.output.trans h.bel.output, Nat.le_trans h.bel.size hf.size, fun b hb => ?_⟩, Nat.lt_of_lt_of_le h.ltL hf.size, ?_, ?_, ?_, ?_, ?_, ?_, ?_, ?_, ?_, Nat.le_succ_of_le h.ro⟩
  · refine (hf.block b (by have := h.ltL; omega) (fun hs => ?_)).trans (h.bel.block b hb)
    have := (hlb b hs).1
    omega
  · intro i hi
    exact (hf.cell (p := ⟨L, i, none⟩) h.ltL (fun hs => hkL L hs rfl)).trans (h.cellL i hi)
  · intro i hi
    by_cases hik : i = k
    · subst hik
      rw [if_pos (Nat.lt_succ_self _), if_pos rfl]; exact hr
    · have h1 := hf.own (h.own i hi) (fun b hb hs => (h.ap i k b hi hk hik hb).2 hs)
      simp only [if_neg hik]
      by_cases hlt : i < k
      · rw [if_pos hlt] at h1; rw [if_pos (by omega)]; exact h1
      · rw [if_neg hlt] at h1; rw [if_neg (by omega)]; exact h1
  · intro i hi
    rw [if_neg (by omega)]; exact h.same i (by omega)
  · intro i hi
    by_cases hik : i = k
    · subst hik; exact ho
    · obtain ⟨A, c, hA, hR⟩ := h.old i hi
      refine ⟨A, c, hA, hf.rdv (n := ns i) (c := c) hR (fun b hb hs => ?_)⟩
      exact (h.ap k i b hk hi (Ne.symm hik) (by rw [hck]; exact hs)).2 (by rw [hA]; exact hb)
  · intro i j b hi hj hij hb
    by_cases hik : i = k
    · subst hik
      simp only [if_true] at hb
      rw [if_neg (Ne.symm hij)]
      rcases hv with hv | ⟨b', hv, hb'⟩
      · rw [hv] at hb
        exact h.ap i j b hi hj hij (by rw [hck]; exact hb)
      · rw [hv] at hb
        injection hb with hb
        subst hb
        exact ⟨fun hc => by have := hci j hj _ hc; omega, fun hc => by have := h.vlt j _ hj hc; omega⟩
    · rw [if_neg hik] at hb
      have h1 := h.ap i j b hi hj hij hb
      by_cases hjk : j = k
      · subst hjk
        rw [if_pos rfl]
        refine ⟨fun hc => ?_, h1.2⟩
        rcases hv with hv | ⟨b', hv, hb'⟩
        · rw [hv] at hc; exact h1.2 hc
        · rw [hv] at hc
          injection hc with hc
          have := hci i hi b hb
          omega
      · rw [if_neg hjk]; exact h1
  · intro i b hi hb
    by_cases hik : i = k
    · subst hik
      simp only [if_true] at hb
      rcases hv with hv | ⟨b', hv, hb'⟩
      · exact hkL b (by rw [← hv]; exact hb)
      · rw [hv] at hb
        injection hb with hb
        have := h.ltL
        omega
    · rw [if_neg hik] at hb; exact h.notL i b hi hb
  · have h1 := hf.own h.rows (fun b hb hs => ((h.gap b hb).2 k hk).2 hs)
    have h2 : (List.range k).map (fun i => if i = k then v' else cur i) = (List.range k).map cur := by
      apply List.map_congr_left
      intro a ha
      have := List.mem_range.1 ha
      rw [if_neg (by omega)]
    rw [h2]; exact h1
  · intro b hb
    refine ⟨(h.gap b hb).1, fun i hi => ⟨fun hc => ?_, ((h.gap b hb).2 i hi).2⟩⟩
    by_cases hik : i = k
    · subst hik
      simp only [if_true] at hc
      rcases hv with hv | ⟨b', hv, hb'⟩
      · exact ((h.gap b hb).2 i hi).2 (by rw [← hv]; exact hc)
      · rw [hv] at hc
        injection hc with hc
        have := (h.rows.lt b hb).2
        omega
    · rw [if_neg hik] at hc; exact ((h.gap b hb).2 i hi).1 hc
  · intro i b hi hb
    exact Nat.lt_of_lt_of_le (h.vlt i b hi hb) hf.size

/-- memory made on the side -/
theorem Gw.kept {w wr : World} {base L m k r : Nat} {vs cur : Nat → Value} {ns : Nat → Nat} {gv : Value} (h : Gw w base L m vs ns k r cur gv wr) (hb : base ≤ wr.heap.size) (o : Obj) :
    Gw w base L m vs ns k r cur gv (wr.alloc o) := by
  have hf : Fr (fun _ => False) wr (wr.alloc o) := (Fr.refl _ _).alloc o
  refine ⟨?_, Nat.lt_of_lt_of_le h.ltL hf.size, fun i hi => (hf.cell (p := ⟨L, i, none⟩) h.ltL (fun f => f)).trans (h.cellL i hi), fun i hi => hf.own (h.own i hi) (fun _ _ f => f), h.same, fun i hi => ?_, h.ap, h.notL, hf.own h.rows (fun _ _ f => f), h.gap, fun i b hi hb => Nat.lt_of_lt_of_le (h.vlt i b hi hb) hf.size, h.ro⟩
  · exact ⟨h.bel.os, h.bel.tape, h.bel.output, Nat.le_trans h.bel.size hf.size, fun b hb' => (hf.block b (by omega) (fun f => f)).trans (h.bel.block b hb')⟩
  · obtain ⟨A, c, hA, hR⟩ := h.old i hi
    exact ⟨A, c, hA, hf.rdv (n := 0) (c := 0) hR (fun _ _ f => f)⟩

theorem Gw.put {w wr w2 : World} {base L m k : Nat} {vs cur : Nat → Value} {ns : Nat → Nat} {gv gv' : Value} (h : Gw w base L m vs ns (k + 1) k cur gv wr) (hk : k < m) (hLb : base ≤ L)
    (hr : w2.ownsRow base 26 1 gv' (k + 1) ((List.range k).map cur ++ [cur k]))
    (hg : (gv'.ownBlock = gv.ownBlock ∧ wr.grownBy w2 gv.ownBlock) ∨ (gv'.ownBlock = some wr.heap.size ∧ wr.grownBy w2 none)) :
    Gw w base L m vs ns (k + 1) (k + 1) cur gv' w2 := by
  have hf : Fr (fun b => gv.ownBlock = some b) wr w2 := by
    rcases hg with ⟨_, hg⟩ | ⟨_, hg⟩
    · exact (Fr.refl _ _).grown hg (fun b hb => .inl hb)
    · exact (Fr.refl _ _).grown hg (fun b hb => by cases hb)
  have hgb : ∀ b, gv.ownBlock = some b → base ≤ b := fun b hb => (h.rows.lt b hb).1
  refine ⟨⟨hf.os.trans h.bel.os, hf.tape.trans h.bel.tape, hf.output.trans h.bel.output, Nat.le_trans h.bel.size hf.size, fun b hb => ?_⟩, Nat.lt_of_lt_of_le h.ltL hf.size, fun i hi => ?_, fun i hi => ?_, h.same, fun i hi => ?_, h.ap, h.notL, ?_, fun b hb => ?_, fun i b hi hb => Nat.lt_of_lt_of_le (h.vlt i b hi hb) hf.size, Nat.le_refl _⟩
  · refine (hf.block b (by have := h.ltL; omega) (fun hs => ?_)).trans (h.bel.block b hb)
    have := hgb b hs
    omega
  · exact (hf.cell (p := ⟨L, i, none⟩) h.ltL (fun hs => (h.gap L hs).1 rfl)).trans (h.cellL i hi)
  · exact hf.own (h.own i hi) (fun b hb hs => ((h.gap b hs).2 i hi).1 hb)
  · obtain ⟨A, c, hA, hR⟩ := h.old i hi
    refine ⟨A, c, hA, hf.rdv (n := ns i) (c := c) hR (fun b hb hs => ((h.gap b hs).2 i hi).2 (by rw [hA]; exact hb))⟩
  · rw [List.range_succ, List.map_append]; exact hr
  · rcases hg with ⟨he, _⟩ | ⟨he, _⟩
    · exact h.gap b (by rw [← he]; exact hb)
    · rw [he] at hb
      injection hb with hb
      subst hb
      have := h.ltL
      refine ⟨by omega, fun i hi => ⟨fun hc => ?_, fun hc => ?_⟩⟩
      · have := ((h.own i hi).lt _ hc).2
        omega
      · have := h.vlt i _ hi hc
        omega

theorem Gw.start {w wr : World} {base L m : Nat} {vs cur : Nat → Value} {ns : Nat → Nat} {gv : Value} (h : Gw w base L m vs ns 0 0 cur gv wr) (hLb : base ≤ L) :
    Gw w base L m vs ns 0 0 cur (.slice (some ⟨wr.heap.size, 0, none⟩) 0 0) (wr.alloc (.cells #[] 26)) := by
  have h1 := h.kept (by have := h.ltL; omega) (.cells #[] 26)
  refine ⟨h1.bel, h1.ltL, h1.cellL, h1.own, h1.same, h1.old, h1.ap, h1.notL, World.ownsRow_made wr _ 0 (by have := h.ltL; omega) (by unfold maxLen; omega) (by simp), fun b hb => ?_, h1.vlt, h1.ro⟩
  simp only [Value.ownBlock, Option.some.injEq] at hb
  subst hb
  have := h.ltL
  refine ⟨by omega, fun i hi => ⟨fun hc => ?_, fun hc => ?_⟩⟩
  · have := ((h.own i hi).lt _ hc).2
    omega
  · have := h.vlt i _ hi hc
    omega

/-- a slice's length -/
def lenV : Value → Nat
  | .slice _ n _ => n
  | _ => 0

/-- one list is being grown -/
structure Gi (wr : World) (base k n : Nat) (A : Option Addr) (c : Nat) (t : Nat) (v : Value) (w2 : World) : Prop where
  own : w2.ownsRow base 5 1 v t (bv (mkL k t))
  ge : n ≤ t
  at_ : v.ownBlock = (Value.slice A n c).ownBlock ∨ ∃ b, v.ownBlock = some b ∧ wr.heap.size ≤ b
  fr : Fr (fun b => (Value.slice A n c).ownBlock = some b) wr w2
  old : Rd w2 w2.heap.size A (bv (mkL k n))
  base_le : base ≤ wr.heap.size
  vlt : ∀ b, (Value.slice A n c).ownBlock = some b → b < wr.heap.size

theorem Gi.step {wr w2 w' : World} {base k n c t : Nat} {A : Option Addr} {v v' : Value} {o : Obj} (h : Gi wr base k n A c t v w2)
    (hr : w'.ownsRow base 5 1 v' (t + 1) (bv (mkL k (t + 1))))
    (hA : A = none ∨ ∃ g, A = some ⟨g, 0, none⟩)
    (hg : (v'.ownBlock = v.ownBlock ∧ (w2.alloc o).grownBy w' v.ownBlock) ∨ (v'.ownBlock = some (w2.alloc o).heap.size ∧ (w2.alloc o).grownBy w' none)) :
    Gi wr base k n A c (t + 1) v' w' := by
  have hs : (w2.alloc o).heap.size = w2.heap.size + 1 := by simp
  have hsz := h.fr.size
  have hge := h.ge
  obtain ⟨tl, htl⟩ := bvmk_pre k n (t + 1 - n)
  rw [show n + (t + 1 - n) = t + 1 by omega] at htl
  rcases hg with ⟨he, hg⟩ | ⟨he, hg⟩
  · refine ⟨hr, by omega, by rw [he]; exact h.at_, (h.fr.alloc o).grown hg (fun b hb => ?_), ?_, h.base_le, h.vlt⟩
    · rcases h.at_ with ha | ⟨b', ha, hb'⟩
      · exact .inl (by rw [← ha]; exact hb)
      · rw [ha] at hb
        injection hb with hb
        exact .inr (by omega)
    · rcases h.at_ with ha | ⟨b', ha, hb'⟩
      · rcases hA with hA | ⟨g, hA⟩
        · subst hA
          rcases h.old with h0 | ⟨b, off, h0, _⟩
          · exact .inl h0
          · cases h0
        · subst hA
          obtain ⟨g', d, hv', _⟩ := own_pos hr (by omega)
          rw [ha] at he
          rw [hv'] at he hr
          simp only [Value.ownBlock, Option.some.injEq] at he
          subst he
          have h1 := Rd.of_own hr
          rw [htl] at h1
          exact h1.pre
      · have hf : Fr (fun b => b = b') w2 w' := ((Fr.refl _ _).alloc o).grown hg (fun b hb => by
          rw [ha] at hb
          injection hb with hb
          exact .inl hb.symm)
        exact hf.rdv (n := n) (c := c) h.old (fun b hb e => by
          have := h.vlt b hb
          omega)
  · refine ⟨hr, by omega, .inr ⟨_, he, by omega⟩, (h.fr.alloc o).grown hg (fun b hb => by cases hb), ?_, h.base_le, h.vlt⟩
    have hf : Fr (fun _ => False) w2 w' := ((Fr.refl _ _).alloc o).grown hg (fun b hb => by cases hb)
    exact hf.rdv (n := n) (c := c) h.old (fun b hb e => e)

theorem Try.info_bytes : (Try.prog.info? 26).map (fun i => (i.zero, i.size, i.bytes)) = some (some (.slice none 0 0), 1, 24) := by kernel_rfl

set_option maxHeartbeats 1000000 in
theorem aparts_any (w : World) (base L m c : Nat) (vs : Nat → Value) (ns : Nat → Nat) (hL : Ls w base L m vs ns) (hm : m ≤ 100) :
    Calls Try.prog 21 #[.slice (some ⟨L, 0, none⟩) m c] w fun e w' => e = .returned (.bool true) ∧ Below base w w' := by
  obtain ⟨i0, hi, hz0, hz1, hz2⟩ := info_parts Try.info_u8
  obtain ⟨i1, hi1, hy0, hy1, hy2⟩ := info_parts Try.info_bytes
  go_enter Try.func21, Try.ntmps21
  go_wp2_with fail
  go_loopw [15] (fun i wr => ∃ k : Nat, k ≤ m ∧ i = .int .i64 k ∧ P1 w base L m vs ns k wr) (fun i _ => m - (intOf i).toNat)
  case atStart => exact ⟨0, Nat.zero_le _, rfl, Fr.refl _ _, fun i hi => by obtain ⟨xs, hx⟩ := hL.own i hi; exact ⟨xs, hx, fun h => by omega⟩⟩
  case round =>
    obtain ⟨k, hk, rfl, hP⟩ := hrel
    by_cases hlt : k < m
    · obtain ⟨xs, hx, _⟩ := hP.own k hlt
      have hcell : wr.cell? ⟨L, k, none⟩ = some (vs k) := (hP.fr.cell (p := ⟨L, k, none⟩) hL.lt (fun h => h.2 rfl)).trans (hL.cell k hlt)
      have hsm := hL.small k hlt
      have HST := @P1.step
      obtain ⟨A, cv, hv, _⟩ := own_slice hx
      have HV := Lib.hid hv
      rw [hv] at hx hcell
      clear hv
      obtain ⟨n, hn⟩ : ∃ n, n = ns k := ⟨_, rfl⟩
      rw [← hn] at hx hcell hsm
      have HN := Lib.hid hn
      clear hn
      obtain ⟨wo, hwo⟩ : ∃ x, x = wr := ⟨_, rfl⟩
      subst hwo
      go_wp2_with fail
      go_loopw [22] (fun i wr => ∃ (j : Nat) (ys : List Value), j ≤ n ∧ i = .int .i64 j ∧ wr.ownsRow base 5 1 (.slice A n cv) n (bv (mkL k j) ++ ys) ∧ Fr (fun b => (Value.slice A n cv).ownBlock = some b) wo wr) (fun i _ => n - (intOf i).toNat)
      case atStart => exact ⟨0, xs, Nat.zero_le _, rfl, hx, Fr.refl _ _⟩
      case round =>
        obtain ⟨j, ys, hj, rfl, hown, hf⟩ := hrel
        by_cases hltj : j < n
        · obtain ⟨g, d, hv2, hcap, hdm, _, _⟩ := own_pos hown (by omega)
          injection hv2 with hA _ hd
          subst hA hd
          obtain ⟨y, t, rfl⟩ : ∃ y t, ys = y :: t := by
            have h1 := hown.1
            rw [List.length_append, bvmk_len] at h1
            match ys, h1 with
            | [], h1 => simp at h1; omega
            | y :: t, _ => exact ⟨y, t, rfl⟩
          have hcellj : ∃ u, wr.cell? ⟨g, j, none⟩ = some u := ⟨_, by
            rw [hown.cellAt j (by omega), List.getElem?_append_right (by rw [bvmk_len]; omega), bvmk_len, Nat.sub_self]; rfl⟩
          obtain ⟨u0, hcellj⟩ := hcellj
          have hfz := hown.frozenAt j
          go_wp2_with fail
          go_roundw
          case rel =>
            obtain ⟨h1, h2⟩ := hown.stored j (.int .u8 (mk k j))
            refine ⟨j + 1, t, by omega, by go_num, ?_, hf.setCell (p := ⟨g, j, none⟩) (.inl rfl) _⟩
            rw [set_mid _ _ _ _ _ (bvmk_len k j)] at h1
            rw [bvmk_succ, List.append_assoc]
            exact h1
          case measure => simp [intOf]; omega
        · obtain rfl : j = n := by omega
          have hy : ys = [] := by
            have h1 := hown.1
            rw [List.length_append, bvmk_len] at h1
            exact List.eq_nil_of_length_eq_zero (by omega)
          subst hy
          rw [List.append_nil] at hown
          go_wp2_with fail
          go_roundw
          case rel =>
            refine ⟨k + 1, by omega, by go_num, HST hL hP hlt ?_ ?_⟩
            · rw [HV.out, ← HN.out]; exact hown
            · rw [HV.out, ← HN.out]; exact hf
          case measure => simp [intOf]; omega
    · obtain rfl : k = m := by omega
      have hG : Gw w base L k vs ns 0 0 vs (.slice none 0 0) wr := by
        have hlt : L < wr.heap.size := Nat.lt_of_lt_of_le hL.lt hP.fr.size
        have hown : ∀ i, i < k → wr.ownsRow base 5 1 (vs i) (ns i) (bv (mkL i (ns i))) := fun i hi => by
          obtain ⟨xs, hx, he⟩ := hP.own i hi
          rw [he hi] at hx; exact hx
        exact ⟨hP.fr.below (fun b hb hs => by omega) (by have := hL.lt; have := hL.base_le; omega) |> fun x => ⟨x.os, x.tape, x.output, x.size, x.block⟩, hlt,
          fun i hi => (hP.fr.cell (p := ⟨L, i, none⟩) hL.lt (fun h => h.2 rfl)).trans (hL.cell i hi),
          fun i hi => by rw [if_neg (by omega)]; exact hown i hi, fun i _ => rfl,
          fun i hi => own_slice (hown i hi) |> fun ⟨A, c, h1, h2⟩ => ⟨A, c, h1, h2⟩,
          fun i j b hi hj hij hb => ⟨hL.apart i j b hi hj hij hb, hL.apart i j b hi hj hij hb⟩, hL.notL, World.ownsRow_nil _ _ _ _,
          fun b hb => by simp [Value.ownBlock] at hb, fun i b hi hb => ((hown i hi).lt b hb).2, Nat.le_refl _⟩
      have hbs : base ≤ L := hL.base_le
      have hsm := hL.small
      have hG1 := hG.start hbs
      clear hL hP hlt hk hG
      go_wp2_with fail
      generalize wr.alloc (.cells #[] 26) = wb at *
      generalize Value.slice (some ⟨wr.heap.size, 0, none⟩) 0 0 = gb at *
      clear wr
      go_loopw [6, 40] (fun gv i wr => ∃ (r : Nat) (cur : Nat → Value), r ≤ k ∧ i = .int .i64 r ∧ Gw w base L k vs ns r r cur gv wr) (fun _ i _ => k - (intOf i).toNat)
      case atStart => exact ⟨0, vs, Nat.zero_le _, rfl, hG1⟩
      case round =>
        obtain ⟨r, cur, hr, rfl, hG⟩ := hrel
        by_cases hlt : r < k
        · have hcell := hG.cellL r hlt
          have hown := hG.own r hlt
          rw [if_neg (Nat.lt_irrefl _), hG.same r (Nat.le_refl _)] at hown
          obtain ⟨A, cv, hv, hold⟩ := hG.old r hlt
          have hA : A = none ∨ ∃ g, A = some ⟨g, 0, none⟩ := by
            rcases hown.2 with ⟨h1, _⟩ | ⟨g, cap, cu, h1, _⟩
            · rw [hv] at h1; injection h1 with h1; exact .inl h1
            · rw [hv] at h1; injection h1 with h1; exact .inr ⟨g, h1⟩
          have hvl : ∀ b, (Value.slice A (ns r) cv).ownBlock = some b → b < wr.heap.size := fun b hb => hG.vlt r b hlt (by rw [hv]; exact hb)
          have hsr := hsm r hlt
          rw [hv] at hcell hown
          have HV := Lib.hid hv
          clear hv
          obtain ⟨n, hn⟩ : ∃ n, n = ns r := ⟨_, rfl⟩
          rw [← hn] at hcell hown hsr hold hvl
          have hbw : base ≤ wr.heap.size := by have := hG.ltL; omega
          have hGi : Gi wr base r n A cv n (.slice A n cv) wr := ⟨hown, Nat.le_refl _, .inl rfl, Fr.refl _ _, hold, hbw, hvl⟩
          have HN := Lib.hid hn
          clear hn hown hold hvl
          obtain ⟨wo, hwo⟩ : ∃ x, x = wr := ⟨_, rfl⟩
          subst hwo
          have HST := @Gi.step
          have HGR := @Gw.grow
          have HPU := @Gw.put
          go_wp2_with fail
          go_loopw [8] (fun v wr => ∃ t : Nat, t ≤ n + 10 ∧ lenV v = t ∧ Gi wo base r n A cv t v wr) (fun v _ => n + 10 - lenV v)
          case atStart => exact ⟨n, by omega, rfl, hGi⟩
          case round =>
            obtain ⟨t, ht, hlv, hGi2⟩ := hrel
            have hown := hGi2.own
            have hge := hGi2.ge
            obtain ⟨A', c', hv', _⟩ := own_slice hown
            subst hv'
            by_cases hltt : t < n + 10
            · clear hlv
              have hsz := hGi2.fr.size
              go_wp2_with (at_builtin; refine wpList_app2 _ rfl (.tmp 52) (.tmp 61) 26 rfl Try.underlying26 hi hz0 hz1 hz2 rfl (hown.alloc _) rfl rfl (Rd.new1 _ _ _) rfl (by simp [Value.oneCell']) (by omega) (by omega) (by simp; omega) ?_; intro v' w1 hown' hg)
              go_roundw
              case rel =>
                refine ⟨t + 1, by omega, ?_, HST hGi2 (by rw [bvmk_succ]; exact hown') hA hg⟩
                obtain ⟨A'', c'', rfl, _⟩ := own_slice hown'
                rfl
              case measure =>
                obtain ⟨A'', c'', rfl, _⟩ := own_slice hown'
                simp [lenV]; omega
            · obtain rfl : t = n + 10 := by omega
              have hG2 := HGR hG hlt hbs (by rw [← HN.out]; exact hown) (by rw [HV.out, ← HN.out]; exact hGi2.fr) (by rw [HV.out, ← HN.out]; exact hGi2.at_) ⟨A, cv, HV.out, by rw [← HN.out]; exact hGi2.old⟩
              have hG3 := hG2.kept (by have := hG2.ltL; omega) (.cells #[.slice A' (n + 10) c'] 26)
              have hrows := hG3.rows
              clear hG hlv
              go_wp2_with (at_builtin; refine wpList_app2 _ rfl (.tmp 63) (.tmp 65) 41 rfl Try.underlying41 hi1 hy0 hy1 hy2 rfl hrows rfl rfl (Rd.new1 _ _ _) rfl (by simp [Value.oneCell']) (by omega) (by omega) (by have := hG3.ltL; omega) ?_; intro v' w1 hown' hg)
              go_roundw
              case rel => exact ⟨r + 1, _, by omega, by go_num, HPU hG3 hlt hbs (by simpa using hown') hg⟩
              case measure => simp [intOf]; omega
        · obtain rfl : r = k := by omega
          obtain ⟨A', c', hv', hRg⟩ := own_slice hG.rows
          subst hv'
          obtain ⟨wo, hwo⟩ : ∃ x, x = wr := ⟨_, rfl⟩
          subst hwo
          clear hG1
          go_wp2_with fail
          go_loopw [70] (fun i wr => ∃ (s q : Nat), s ≤ r ∧ i = .int .i64 s ∧ wr = wo.drewN q) (fun i _ => r - (intOf i).toNat)
          case atStart => exact ⟨0, 0, Nat.zero_le _, rfl, rfl⟩
          case round =>
            obtain ⟨s, q, hs, rfl, rfl⟩ := hrel
            by_cases hlts : s < r
            · obtain ⟨b, off, rfl, hb, hc⟩ := hRg.at_ (k := s) (by simpa using hlts)
              have hcg : (wo.drewN q).cell? ⟨b, off + s, none⟩ = some (cur s) := hc s _ (by simp [hlts])
              have hown := hG.own s hlts
              rw [if_pos hlts] at hown
              have hsr := hsm s hlts
              obtain ⟨A1, cv, hv1, hold⟩ := hG.old s hlts
              have hcL : (wo).cell? ⟨L, s, none⟩ = some (vs s) := hG.cellL s hlts
              rw [hv1] at hcL
              clear hv1 hc
              generalize ns s = n at *
              generalize cur s = y at *
              obtain ⟨A2, c2, hv2, hR2⟩ := own_slice hown
              subst hv2
              clear hown
              go_wp2_with fail
              go_loopw [77] (fun i wr => ∃ (j q : Nat), j ≤ n + 10 ∧ i = .int .i64 j ∧ wr = wo.drewN q) (fun i _ => n + 10 - (intOf i).toNat)
              case atStart => exact ⟨0, q, Nat.zero_le _, rfl, rfl⟩
              case round =>
                obtain ⟨j, q, hj, rfl, rfl⟩ := hrel
                by_cases hltj : j < n + 10
                · obtain ⟨b2, off2, rfl, hb2, hc2⟩ := hR2.at_ (k := j) (by rw [bvmk_len]; omega)
                  have hc2' : wo.cell? ⟨b2, off2 + j, none⟩ = some (.int .u8 ((29 * (s : Int) + 5 * (j : Int) + 3) % 256)) := hc2 j _ (bvmk_get hltj)
                  clear hc2
                  by_cases hjn : j < n
                  · have hd : decide ((j : Int) < (n : Int)) = true := by simp; omega
                    obtain ⟨b3, off3, rfl, hb3, hc3⟩ := hold.at_ (k := j) (by rw [bvmk_len]; omega)
                    have hc3' : wo.cell? ⟨b3, off3 + j, none⟩ = some (.int .u8 ((29 * (s : Int) + 5 * (j : Int) + 3) % 256)) := hc3 j _ (bvmk_get hjn)
                    clear hc3
                    go_wp2_with fail
                    go_quiet (fail)
                    go_wp2_with fail
                    go_roundw
                    case rel => exact ⟨j + 1, q + nq, by omega, by go_num, rfl⟩
                    case measure => simp [intOf]; omega
                  · have hd : decide ((j : Int) < (n : Int)) = false := by simp; omega
                    go_wp2_with fail
                    go_quiet (fail)
                    go_wp2_with fail
                    go_roundw
                    case rel => exact ⟨j + 1, q + nq, by omega, by go_num, rfl⟩
                    case measure => simp [intOf]; omega
                · go_wp2_with fail
                  go_roundw
                  case rel => exact ⟨s + 1, q, by omega, by go_num, rfl⟩
                  case measure => simp [intOf]; omega
            · go_wp2_with fail
              go_ret
              exact ⟨rfl, below_drewN hG.bel _⟩
end Go.Proofs.Ytimfpkoofgglkaa
