/-
  scan's Write, by a contract. Conditions: fewer than 2^37 bits.
-/
import Derived.Test.YtlhappecjjbopaaCaW
import Derived.Test.YtlhappecjjbopaaScH
namespace Go.Proofs.Ytlhappecjjbopaa
open Go.RowKit
set_option linter.unusedVariables false
set_option maxRecDepth 100000

/-- a book that may be nil -/
def BkO (w : World) (B : Nat) (pv : Option Nat) (ls : List Int) (O : List Nat) (C : List Int) : Prop :=
  (pv = none ∧ ls = []) ∨ ∃ p, pv = some p ∧ BkS w B p ls O C ∧ Ordd ls O C ∧ Vl ls
def ptO (pv : Option Nat) : Value := .pointer (pv.map fun p => ⟨p, 0, none⟩)
theorem BkO.keep {w w' : World} {B : Nat} {pv : Option Nat} {ls : List Int} {O : List Nat} {C : List Int} (h : BkO w B pv ls O C) (hb : Below B w w') : BkO w' B pv ls O C := by
  rcases h with h | ⟨p, h1, h2, h3, h4⟩
  · exact .inl h
  · exact .inr ⟨p, h1, h2.keep hb, h3, h4⟩
theorem BkO.none_ (w : World) (B : Nat) : BkO w B none [] [] [] := .inl ⟨rfl, rfl⟩
theorem lengthO_any {w : World} {B : Nat} {pv : Option Nat} {ls : List Int} {O : List Nat} {C : List Int} (h : BkO w B pv ls O C) (x : Int) :
    Calls Try.prog 45 #[ptO pv, .int .i64 x] w fun e w' => e = .returned (.int .i64 (lenL ls x)) ∧ w' = w := by
  rcases h with ⟨rfl, rfl⟩ | ⟨p, rfl, h2, h3, h4⟩
  · have : lenL [] x = 0 := by unfold lenL; rw [if_neg (fun h => by have := h.2.1; have := h.1; simp at *; omega)]
    rw [this]
    exact length_nil x w
  · exact length_any p ls O C x w h2.get h4
theorem lenL_zero {ls : List Int} (x : Int) : lenL ls x = 0 ↔ ¬ hasL ls x := by
  unfold lenL
  split
  · rename_i h
    have := h.2.2
    exact ⟨fun e => by omega, fun e => absurd h e⟩
  · rename_i h; exact ⟨fun _ => h, fun _ => rfl⟩
theorem hasL_mem {ls : List Int} (hV : Vl ls) {x : Int} (h : hasL ls x) : ∃ s : Nat, x = (s : Int) ∧ s < ls.length ∧ 0 < ls.getD s 0 := by
  obtain ⟨s, rfl⟩ := Int.eq_ofNat_of_zero_le h.1
  exact ⟨s, rfl, by have := h.2.1; omega, by have := h.2.2; rwa [Int.toNat_natCast] at this⟩
/-- an order holds all symbols that have codes -/
def AllO (ls : List Int) (O : List Nat) : Prop := ∀ s, s < ls.length → 0 < ls.getD s 0 → ∃ i : Nat, O[i]? = some s
theorem writeO_any {w : World} {B wp : Nat} {pv : Option Nat} {ls : List Int} {O : List Nat} {C : List Int} (hb : BkO w B pv ls O C) (ha : AllO ls O) {v : Value} {L : List Int} {x : Int} (hx : hasL ls x) (hBw : B ≤ wp) (hvB : ∀ k, v.ownBlock = some k → B ≤ k) (X : Wr w wp true v L) (hL : L.length < 274877906944) :
    Calls Try.prog 65 #[ptO pv, .pointer (some ⟨wp, 0, none⟩), .int .i64 x] w fun e w' => e = .returned .nilIface ∧ ∃ v', Wr w' wp true v' (L ++ co ls C x.toNat) ∧ Turn wp w v w' v' := by
  rcases hb with ⟨rfl, rfl⟩ | ⟨p, rfl, h2, h3, h4⟩
  · exact absurd hx.2.1 (by have := hx.1; simp; omega)
  · obtain ⟨s, rfl, hs1, hs2⟩ := hasL_mem h4 hx
    obtain ⟨i, hi⟩ := ha s hs1 hs2
    have := write_any h2 h3 h4 hBw hvB X hi hL
    rw [h3.co hi] at this
    rw [Int.toNat_natCast]
    exact this
theorem hasL_lt {ls : List Int} {x : Int} (h : hasL ls x) : 0 ≤ x := h.1
/-- a piece that can be written by lengths -/
def OkP (ls : List Int) (p : Pc) : Prop := (0 ≤ p.2.2.2 ∧ p.2.2.2 ≤ 16) ∧ 0 ≤ p.2.2.1 ∧ p.2.2.1 / 2 ^ p.2.2.2.toNat = 0 ∧ (p.2.1 = -1 ∨ hasL ls p.2.1)
instance (ls : List Int) (p : Pc) : Decidable (OkP ls p) := by unfold OkP; infer_instance
def bitsP (ls C : List Int) (p : Pc) : List Int := (if p.2.1 = -1 then [] else co ls C p.2.1.toNat) ++ digs true p.2.2.1 p.2.2.2.toNat
def OkQ (ls1 ls2 : List Int) (p : Pc) : Prop := OkP (if p.1 then ls2 else ls1) p
instance (ls1 ls2 : List Int) (p : Pc) : Decidable (OkQ ls1 ls2 p) := by unfold OkQ; infer_instance
def bitsQ (ls1 C1 ls2 C2 : List Int) (p : Pc) : List Int := if p.1 then bitsP ls2 C2 p else bitsP ls1 C1 p
theorem vl_sixteen {ls : List Int} (hV : Vl ls) (s : Nat) : (ls.getD s 0).toNat ≤ 16 := by
  by_cases h : s < ls.length
  · have := hV _ (getD_in h); omega
  · rw [List.getD_eq_getElem?_getD, List.getElem?_eq_none (by omega)]; decide
theorem bitsP_len {ls : List Int} (C : List Int) (hV : Vl ls) {p : Pc} (h : OkP ls p) : (bitsP ls C p).length ≤ 32 := by
  unfold bitsP
  rw [List.length_append, digs_len]
  have h1 := h.1.2
  have h2 := vl_sixteen hV p.2.1.toNat
  split
  · simp; omega
  · rw [co_len]; omega
def Pib (p : Pc) : Prop := (-9223372036854775808 ≤ p.2.1 ∧ p.2.1 ≤ 9223372036854775807) ∧ (-9223372036854775808 ≤ p.2.2.1 ∧ p.2.2.1 ≤ 9223372036854775807) ∧ (-9223372036854775808 ≤ p.2.2.2 ∧ p.2.2.2 ≤ 9223372036854775807)
/-- the pieces ahead of the first one that cannot be written -/
def goodQ (ls1 ls2 : List Int) (l : List Pc) : List Pc := l.takeWhile fun p => decide (OkQ ls1 ls2 p)
theorem take_while_at {ls1 ls2 : List Int} {l : List Pc} {i : Nat} (h : ∀ j p, j < i → l[j]? = some p → OkQ ls1 ls2 p) (hn : ∀ p, l[i]? = some p → ¬ OkQ ls1 ls2 p) (hi : i ≤ l.length) : goodQ ls1 ls2 l = l.take i := by
  induction i generalizing l with
  | zero =>
    match l with
    | [] => rfl
    | p :: l =>
      unfold goodQ
      rw [List.takeWhile_cons_of_neg (by simpa using hn p rfl)]; rfl
  | succ i ih =>
    match l with
    | [] => simp at hi
    | p :: l =>
      have h0 := h 0 p (by omega) rfl
      unfold goodQ
      rw [List.takeWhile_cons_of_pos (by simpa using h0), List.take_succ_cons]
      congr 1
      exact ih (fun j q hj hq => h (j + 1) q (by omega) (by simpa using hq)) (fun q hq => hn q (by simpa using hq)) (by simpa using hi)
def flatQ (ls1 C1 ls2 C2 : List Int) (l : List Pc) : List Int := l.flatMap (bitsQ ls1 C1 ls2 C2)
theorem flatQ_len {ls1 C1 ls2 C2 : List Int} (h1 : Vl ls1) (h2 : Vl ls2) : ∀ l : List Pc, (∀ p ∈ l, OkQ ls1 ls2 p) → (flatQ ls1 C1 ls2 C2 l).length ≤ 32 * l.length
  | [], _ => by simp [flatQ]
  | p :: l, h => by
    have ih := flatQ_len (C1 := C1) (C2 := C2) h1 h2 l (fun q hq => h q (by simp [hq]))
    have h0 := h p (by simp)
    unfold flatQ at *
    rw [List.flatMap_cons, List.length_append, List.length_cons]
    have : (bitsQ ls1 C1 ls2 C2 p).length ≤ 32 := by
      unfold bitsQ
      unfold OkQ at h0
      cases hp : p.1
      · rw [hp] at h0; exact bitsP_len C1 h1 h0
      · rw [hp] at h0; exact bitsP_len C2 h2 h0
    omega
def WroteP (ls1 C1 ls2 C2 : List Int) (l : List Pc) (wp : Nat) (v : Value) (L : List Int) (w : World) (e : Ending) (w' : World) : Prop :=
  e = .returned (if goodQ ls1 ls2 l = l then .nilIface else errV 6) ∧ ∃ v', Wr w' wp true v' (L ++ flatQ ls1 C1 ls2 C2 (goodQ ls1 ls2 l)) ∧ Turn wp w v w' v'

set_option maxHeartbeats 16000000 in
theorem scanWrite_any {w : World} {B wp n c : Nat} {pv1 pv2 : Option Nat} {ls1 ls2 : List Int} {O1 O2 : List Nat} {C1 C2 : List Int} {A : Option Addr} {l : List Pc} {v : Value} {L : List Int}
    (hb1 : BkO w B pv1 ls1 O1 C1) (ha1 : AllO ls1 O1) (hV1 : Vl ls1) (hb2 : BkO w B pv2 ls2 O2 C2) (ha2 : AllO ls2 O2) (hV2 : Vl ls2) (hB : B ≤ w.heap.size) (hBw : B ≤ wp) (hvB : ∀ k, v.ownBlock = some k → B ≤ k) (X : Wr w wp true v L)
    (hn : l.length = n) (hR : Rd w w.heap.size A (pcRows l)) (hA : ∀ a, A = some a → a.block ≠ wp ∧ v.ownBlock ≠ some a.block) (hI : ∀ p ∈ l, Pib p) (hm : n ≤ 1000000) (hL : L.length < 137438953472) :
    Calls Try.prog 81 #[ptO pv1, ptO pv2, .pointer (some ⟨wp, 0, none⟩), .slice A n c] w (WroteP ls1 C1 ls2 C2 l wp v L w) := by
  have HN := Lib.hid hn
  have HB1 := Lib.hid hb1
  have HB2 := Lib.hid hb2
  have HI := Lib.hid hI
  clear hn hb1 hb2 hI
  unfold ptO
  go_enter Try.func81, Try.ntmps81
  go_wp2
  go_loopw [16] (fun ix wr => ∃ (i : Nat) (v' : Value), i ≤ n ∧ ix = .int .i64 i ∧ (∀ j p, j < i → l[j]? = some p → OkQ ls1 ls2 p) ∧ Wr wr wp true v' (L ++ flatQ ls1 C1 ls2 C2 (l.take i)) ∧ Turn wp w v wr v') (fun ix _ => n - (intOf ix).toNat)
  case atStart => exact ⟨0, v, Nat.zero_le _, rfl, fun j p h => by omega, by simpa [flatQ] using X, Turn.refl _ _ _⟩
  case round =>
    obtain ⟨i, v', hi, rfl, hok, hW, hT⟩ := hrel
    have HOK := Lib.hid hok
    clear hok
    by_cases hlt : i < n
    · have dl : decide (i < n) = true := decide_eq_true hlt
      obtain ⟨p, hp⟩ : ∃ p, l[i]? = some p := ⟨l[i]'(by rw [HN.out]; exact hlt), List.getElem?_eq_getElem _⟩
      have hpl : i * 4 < (pcRows l).length := by rw [pcRows_len, HN.out]; omega
      have hRr := hT.fr.rd hR (Nat.le_refl _) (fun a ha hs => by
        rcases hs with hs | hs
        · exact (hA a ha).1 hs
        · exact (hA a ha).2 hs)
      obtain ⟨b1, o1, rfl, _, hc1⟩ := hRr.at_ hpl
      have hpb := HI.out p (List.mem_of_getElem? hp)
      have hbel := hT.below (B := B) hBw hvB hB
      have hlen : (L ++ flatQ ls1 C1 ls2 C2 (l.take i)).length ≤ L.length + 32 * i := by
        have h1 := flatQ_len (C1 := C1) (C2 := C2) hV1 hV2 (l.take i) (fun q hq => by
          obtain ⟨j, hj⟩ := List.mem_iff_getElem?.1 hq
          rw [List.getElem?_take] at hj
          split at hj
          · exact HOK.out j q (by assumption) hj
          · cases hj)
        rw [List.length_append]
        rw [List.length_take] at h1
        omega
      have htk : l.take (i + 1) = l.take i ++ [p] := by rw [List.take_add_one, hp]; rfl
      have HP := Lib.hid hp
      have HTK := Lib.hid htk
      obtain ⟨ac, sym, ex, bn⟩ := p
      have a0 := hc1 _ _ (pcRows_get hp (j := 0) (u := .bool ac) rfl)
      have a1 := hc1 _ _ (pcRows_get hp (j := 1) (u := .int .i64 sym) rfl)
      have a2 := hc1 _ _ (pcRows_get hp (j := 2) (u := .int .i64 ex) rfl)
      have a3 := hc1 _ _ (pcRows_get hp (j := 3) (u := .int .i64 bn) rfl)
      rw [← Nat.add_assoc] at a0 a1 a2 a3
      rw [Nat.add_zero] at a0
      have hi0 : (0 : Int) ≤ (i : Int) := by omega
      have hi1 : (i : Int) < (n : Int) := by omega
      obtain ⟨⟨hs1, hs2⟩, ⟨he1, he2⟩, hn1, hn2⟩ := hpb
      simp only at hs1 hs2 he1 he2 hn1 hn2
      have hba : Below wr.heap.size wr (wr.alloc (.cells #[.bool ac, .int .i64 sym, .int .i64 ex, .int .i64 bn] 27)) := (Below.refl _ _).alloc (Nat.le_refl _) _
      have hWa := hW.below hba
      have hTa : Turn wp w v (wr.alloc (.cells #[.bool ac, .int .i64 sym, .int .i64 ex, .int .i64 bn] 27)) v' := hT.trans ⟨Fr.of_below hba, fun k h => .inl h⟩
      have hbela : Below B w (wr.alloc (.cells #[.bool ac, .int .i64 sym, .int .i64 ex, .int .i64 bn] 27)) := hbel.trans (hba.mono (by have := hbel.size; omega))
      have hbw : ∀ k, v'.ownBlock = some k → B ≤ k := fun k hk => by
        rcases hT.row k hk with h1 | h1
        · exact hvB k h1
        · omega
      have hXb := Bln.new wr 27 [.bool ac, .int .i64 sym, .int .i64 ex, .int .i64 bn]
      have hbxS : ¬ (wr.heap.size = wp ∨ v'.ownBlock = some wr.heap.size) := fun h => by
        rcases h with h | h
        · have := hW.lt; omega
        · have := (hW.own.lt _ h).2; omega
      have HXB := Lib.hid hXb
      clear hc1 hp hpl htk hRr hXb
      have hbad : ¬ OkQ ls1 ls2 (ac, sym, ex, bn) → goodQ ls1 ls2 l = l.take i ∧ goodQ ls1 ls2 l ≠ l := fun h => by
        have h1 := take_while_at HOK.out (fun q hq => by rw [HP.out] at hq; injection hq with hq; rw [← hq]; exact h) (by rw [HN.out]; exact hi)
        refine ⟨h1, fun e => ?_⟩
        have h2 := congrArg List.length e
        rw [h1, List.length_take, HN.out] at h2
        omega
      have HBAD := Lib.hid hbad
      clear hbad
      cases ac
      · have hlenO := fun x => lengthO_any (HB1.out.keep hbela) x
        unfold ptO at hlenO
        have HLO := Lib.hid hlenO
        clear hlenO
        by_cases g1 : 0 ≤ bn
        · have d1 : decide (bn < 0) = false := decide_eq_false (by omega)
          by_cases g2 : bn ≤ 16
          · have d2 : decide (16 < bn) = false := decide_eq_false (by omega)
            by_cases g3 : 0 ≤ ex
            · have d3 : decide (ex < 0) = false := decide_eq_false (by omega)
              obtain ⟨m, rfl⟩ := Int.eq_ofNat_of_zero_le g1
              by_cases g4 : ex / 2 ^ m = 0
              · have d4 : (ex / 2 ^ m == 0) = true := by simp; exact g4
                have d4' : (ex / 2 ^ m != 0) = false := by simp; exact g4
                have HF : Hid (Fit ex ((m : Nat) : Int)) := Lib.hid ⟨by omega, g3, by rw [Int.toNat_natCast]; exact g4⟩
                have HG4 := Lib.hid g4
                clear g4
                by_cases g5 : sym = -1
                · have d5 : (sym != -1) = false := by simp; exact g5
                  have hbq : bitsQ ls1 C1 ls2 C2 (false, sym, ex, (m : Int)) = digs true ex m := by simp [bitsQ, bitsP, g5]
                  have hoq : OkQ ls1 ls2 (false, sym, ex, (m : Int)) := ⟨⟨g1, g2⟩, g3, by rw [Int.toNat_natCast]; exact HG4.out, .inl g5⟩
                  have HBQ := Lib.hid hbq
                  have HOQ := Lib.hid hoq
                  clear hbq hoq g5
                  go_wp2_with fail
                  refine (put_any wp true v' _ ex m _ hWa HF.out (by omega) (by omega)).mono ?_; rintro e w5 ⟨rfl, v5, hW5, hT5⟩
                  go_wp2
                  go_roundw
                  case rel =>
                    refine ⟨i + 1, v5, by omega, by go_num, fun j q hj hq => ?_, ?_, hTa.trans hT5⟩
                    · rcases Nat.lt_or_ge j i with h1 | h1
                      · exact HOK.out j q h1 hq
                      · obtain rfl : j = i := by omega
                        rw [HP.out] at hq; injection hq with hq; rw [← hq]; exact HOQ.out
                    · rw [HTK.out]; unfold flatQ; rw [List.flatMap_append, List.flatMap_cons, List.flatMap_nil, List.append_nil, HBQ.out, ← List.append_assoc]; exact hW5
                  case measure => simp [intOf]; omega
                · have d5 : (sym != -1) = true := by simp; exact g5
                  by_cases g6 : hasL ls1 sym
                  · have d6 : (lenL ls1 sym == 0) = false := by simp; rw [lenL_zero]; exact fun h => h g6
                    have hbq : bitsQ ls1 C1 ls2 C2 (false, sym, ex, (m : Int)) = co ls1 C1 sym.toNat ++ digs true ex m := by simp [bitsQ, bitsP, g5]
                    have hoq : OkQ ls1 ls2 (false, sym, ex, (m : Int)) := ⟨⟨g1, g2⟩, g3, by rw [Int.toNat_natCast]; exact HG4.out, .inr g6⟩
                    have hcl := co_len ls1 C1 sym.toNat
                    have hcv := vl_sixteen hV1 sym.toNat
                    have hco : (co ls1 C1 sym.toNat).length ≤ 16 := by omega
                    have hwr := writeO_any (HB1.out.keep hbela) ha1 g6 hBw hbw hWa (by omega)
                    unfold ptO at hwr
                    have HWR := Lib.hid hwr
                    have HBQ := Lib.hid hbq
                    have HOQ := Lib.hid hoq
                    clear hbq hoq g5 g6 hcl hcv hwr
                    go_wp2_with (go_at_call 45; refine (HLO.out _).mono ?_; rintro e w' ⟨rfl, rfl⟩)
                    refine HWR.out.mono ?_; rintro e w4 ⟨rfl, v4, hW4, hT4⟩
                    have X4 := HXB.out.keep hT4.fr hbxS
                    have y2 := X4.cell (i := 2) (u := .int .i64 ex) rfl
                    have y3 := X4.cell (i := 3) (u := .int .i64 (m : Int)) rfl
                    clear X4
                    go_wp2_with fail
                    refine (put_any wp true v4 _ ex m _ hW4 HF.out (by omega) (by rw [List.length_append]; omega)).mono ?_; rintro e w5 ⟨rfl, v5, hW5, hT5⟩
                    go_wp2
                    go_roundw
                    case rel =>
                      refine ⟨i + 1, v5, by omega, by go_num, fun j q hj hq => ?_, ?_, hTa.trans (hT4.trans hT5)⟩
                      · rcases Nat.lt_or_ge j i with h1 | h1
                        · exact HOK.out j q h1 hq
                        · obtain rfl : j = i := by omega
                          rw [HP.out] at hq; injection hq with hq; rw [← hq]; exact HOQ.out
                      · rw [HTK.out]; unfold flatQ; rw [List.flatMap_append, List.flatMap_cons, List.flatMap_nil, List.append_nil, HBQ.out, ← List.append_assoc, ← List.append_assoc]; exact hW5
                    case measure => simp [intOf]; omega
                  · have d6 : (lenL ls1 sym == 0) = true := by simp; rw [lenL_zero]; exact g6
                    have hnq : ¬ OkQ ls1 ls2 (false, sym, ex, (m : Int)) := fun h => by rcases h.2.2.2 with h1 | h1; exact g5 h1; exact g6 h1
                    have HNQ := Lib.hid hnq
                    clear hnq
                    clear g5 g6
                    unfold errV at *
                    go_wp2_with (go_at_call 45; refine (HLO.out _).mono ?_; rintro e w' ⟨rfl, rfl⟩)
                    go_ret
                    exact ⟨by rw [if_neg (HBAD.out HNQ.out).2]; rfl, v', by rw [(HBAD.out HNQ.out).1]; exact hWa, hTa⟩
              · have d4 : (ex / 2 ^ m == 0) = false := by simp; exact g4
                have d4' : (ex / 2 ^ m != 0) = true := by simp; exact g4
                have hnq : ¬ OkQ ls1 ls2 (false, sym, ex, (m : Int)) := fun h => g4 (by have := h.2.2.1; simp only [Int.toNat_natCast] at this; exact this)
                have HNQ := Lib.hid hnq
                clear hnq
                clear g4
                go_wp2
                go_ret
                exact ⟨by rw [if_neg (HBAD.out HNQ.out).2]; rfl, v', by rw [(HBAD.out HNQ.out).1]; exact hWa, hTa⟩
            · have d3 : decide (ex < 0) = true := decide_eq_true (by omega)
              have hnq : ¬ OkQ ls1 ls2 (false, sym, ex, bn) := fun h => g3 h.2.1
              have HNQ := Lib.hid hnq
              clear hnq
              go_wp2
              go_ret
              exact ⟨by rw [if_neg (HBAD.out HNQ.out).2]; rfl, v', by rw [(HBAD.out HNQ.out).1]; exact hWa, hTa⟩
          · have d2 : decide (16 < bn) = true := decide_eq_true (by omega)
            have hnq : ¬ OkQ ls1 ls2 (false, sym, ex, bn) := fun h => g2 h.1.2
            have HNQ := Lib.hid hnq
            clear hnq
            go_wp2
            go_ret
            exact ⟨by rw [if_neg (HBAD.out HNQ.out).2]; rfl, v', by rw [(HBAD.out HNQ.out).1]; exact hWa, hTa⟩
        · have d1 : decide (bn < 0) = true := decide_eq_true (by omega)
          have hnq : ¬ OkQ ls1 ls2 (false, sym, ex, bn) := fun h => g1 h.1.1
          have HNQ := Lib.hid hnq
          clear hnq
          go_wp2
          go_ret
          exact ⟨by rw [if_neg (HBAD.out HNQ.out).2]; rfl, v', by rw [(HBAD.out HNQ.out).1]; exact hWa, hTa⟩
      · have hlenO := fun x => lengthO_any (HB2.out.keep hbela) x
        unfold ptO at hlenO
        have HLO := Lib.hid hlenO
        clear hlenO
        by_cases g1 : 0 ≤ bn
        · have d1 : decide (bn < 0) = false := decide_eq_false (by omega)
          by_cases g2 : bn ≤ 16
          · have d2 : decide (16 < bn) = false := decide_eq_false (by omega)
            by_cases g3 : 0 ≤ ex
            · have d3 : decide (ex < 0) = false := decide_eq_false (by omega)
              obtain ⟨m, rfl⟩ := Int.eq_ofNat_of_zero_le g1
              by_cases g4 : ex / 2 ^ m = 0
              · have d4 : (ex / 2 ^ m == 0) = true := by simp; exact g4
                have d4' : (ex / 2 ^ m != 0) = false := by simp; exact g4
                have HF : Hid (Fit ex ((m : Nat) : Int)) := Lib.hid ⟨by omega, g3, by rw [Int.toNat_natCast]; exact g4⟩
                have HG4 := Lib.hid g4
                clear g4
                by_cases g5 : sym = -1
                · have d5 : (sym != -1) = false := by simp; exact g5
                  have hbq : bitsQ ls1 C1 ls2 C2 (true, sym, ex, (m : Int)) = digs true ex m := by simp [bitsQ, bitsP, g5]
                  have hoq : OkQ ls1 ls2 (true, sym, ex, (m : Int)) := ⟨⟨g1, g2⟩, g3, by rw [Int.toNat_natCast]; exact HG4.out, .inl g5⟩
                  have HBQ := Lib.hid hbq
                  have HOQ := Lib.hid hoq
                  clear hbq hoq g5
                  go_wp2_with fail
                  refine (put_any wp true v' _ ex m _ hWa HF.out (by omega) (by omega)).mono ?_; rintro e w5 ⟨rfl, v5, hW5, hT5⟩
                  go_wp2
                  go_roundw
                  case rel =>
                    refine ⟨i + 1, v5, by omega, by go_num, fun j q hj hq => ?_, ?_, hTa.trans hT5⟩
                    · rcases Nat.lt_or_ge j i with h1 | h1
                      · exact HOK.out j q h1 hq
                      · obtain rfl : j = i := by omega
                        rw [HP.out] at hq; injection hq with hq; rw [← hq]; exact HOQ.out
                    · rw [HTK.out]; unfold flatQ; rw [List.flatMap_append, List.flatMap_cons, List.flatMap_nil, List.append_nil, HBQ.out, ← List.append_assoc]; exact hW5
                  case measure => simp [intOf]; omega
                · have d5 : (sym != -1) = true := by simp; exact g5
                  by_cases g6 : hasL ls2 sym
                  · have d6 : (lenL ls2 sym == 0) = false := by simp; rw [lenL_zero]; exact fun h => h g6
                    have hbq : bitsQ ls1 C1 ls2 C2 (true, sym, ex, (m : Int)) = co ls2 C2 sym.toNat ++ digs true ex m := by simp [bitsQ, bitsP, g5]
                    have hoq : OkQ ls1 ls2 (true, sym, ex, (m : Int)) := ⟨⟨g1, g2⟩, g3, by rw [Int.toNat_natCast]; exact HG4.out, .inr g6⟩
                    have hcl := co_len ls2 C2 sym.toNat
                    have hcv := vl_sixteen hV2 sym.toNat
                    have hco : (co ls2 C2 sym.toNat).length ≤ 16 := by omega
                    have hwr := writeO_any (HB2.out.keep hbela) ha2 g6 hBw hbw hWa (by omega)
                    unfold ptO at hwr
                    have HWR := Lib.hid hwr
                    have HBQ := Lib.hid hbq
                    have HOQ := Lib.hid hoq
                    clear hbq hoq g5 g6 hcl hcv hwr
                    go_wp2_with (go_at_call 45; refine (HLO.out _).mono ?_; rintro e w' ⟨rfl, rfl⟩)
                    refine HWR.out.mono ?_; rintro e w4 ⟨rfl, v4, hW4, hT4⟩
                    have X4 := HXB.out.keep hT4.fr hbxS
                    have y2 := X4.cell (i := 2) (u := .int .i64 ex) rfl
                    have y3 := X4.cell (i := 3) (u := .int .i64 (m : Int)) rfl
                    clear X4
                    go_wp2_with fail
                    refine (put_any wp true v4 _ ex m _ hW4 HF.out (by omega) (by rw [List.length_append]; omega)).mono ?_; rintro e w5 ⟨rfl, v5, hW5, hT5⟩
                    go_wp2
                    go_roundw
                    case rel =>
                      refine ⟨i + 1, v5, by omega, by go_num, fun j q hj hq => ?_, ?_, hTa.trans (hT4.trans hT5)⟩
                      · rcases Nat.lt_or_ge j i with h1 | h1
                        · exact HOK.out j q h1 hq
                        · obtain rfl : j = i := by omega
                          rw [HP.out] at hq; injection hq with hq; rw [← hq]; exact HOQ.out
                      · rw [HTK.out]; unfold flatQ; rw [List.flatMap_append, List.flatMap_cons, List.flatMap_nil, List.append_nil, HBQ.out, ← List.append_assoc, ← List.append_assoc]; exact hW5
                    case measure => simp [intOf]; omega
                  · have d6 : (lenL ls2 sym == 0) = true := by simp; rw [lenL_zero]; exact g6
                    have hnq : ¬ OkQ ls1 ls2 (true, sym, ex, (m : Int)) := fun h => by rcases h.2.2.2 with h1 | h1; exact g5 h1; exact g6 h1
                    have HNQ := Lib.hid hnq
                    clear hnq
                    clear g5 g6
                    unfold errV at *
                    go_wp2_with (go_at_call 45; refine (HLO.out _).mono ?_; rintro e w' ⟨rfl, rfl⟩)
                    go_ret
                    exact ⟨by rw [if_neg (HBAD.out HNQ.out).2]; rfl, v', by rw [(HBAD.out HNQ.out).1]; exact hWa, hTa⟩
              · have d4 : (ex / 2 ^ m == 0) = false := by simp; exact g4
                have d4' : (ex / 2 ^ m != 0) = true := by simp; exact g4
                have hnq : ¬ OkQ ls1 ls2 (true, sym, ex, (m : Int)) := fun h => g4 (by have := h.2.2.1; simp only [Int.toNat_natCast] at this; exact this)
                have HNQ := Lib.hid hnq
                clear hnq
                clear g4
                go_wp2
                go_ret
                exact ⟨by rw [if_neg (HBAD.out HNQ.out).2]; rfl, v', by rw [(HBAD.out HNQ.out).1]; exact hWa, hTa⟩
            · have d3 : decide (ex < 0) = true := decide_eq_true (by omega)
              have hnq : ¬ OkQ ls1 ls2 (true, sym, ex, bn) := fun h => g3 h.2.1
              have HNQ := Lib.hid hnq
              clear hnq
              go_wp2
              go_ret
              exact ⟨by rw [if_neg (HBAD.out HNQ.out).2]; rfl, v', by rw [(HBAD.out HNQ.out).1]; exact hWa, hTa⟩
          · have d2 : decide (16 < bn) = true := decide_eq_true (by omega)
            have hnq : ¬ OkQ ls1 ls2 (true, sym, ex, bn) := fun h => g2 h.1.2
            have HNQ := Lib.hid hnq
            clear hnq
            go_wp2
            go_ret
            exact ⟨by rw [if_neg (HBAD.out HNQ.out).2]; rfl, v', by rw [(HBAD.out HNQ.out).1]; exact hWa, hTa⟩
        · have d1 : decide (bn < 0) = true := decide_eq_true (by omega)
          have hnq : ¬ OkQ ls1 ls2 (true, sym, ex, bn) := fun h => g1 h.1.1
          have HNQ := Lib.hid hnq
          clear hnq
          go_wp2
          go_ret
          exact ⟨by rw [if_neg (HBAD.out HNQ.out).2]; rfl, v', by rw [(HBAD.out HNQ.out).1]; exact hWa, hTa⟩
    · have dl : decide (i < n) = false := decide_eq_false hlt
      have hin : i = n := by omega
      have hall : goodQ ls1 ls2 l = l := by
        have h1 := take_while_at (ls1 := ls1) (ls2 := ls2) (l := l) (i := i) HOK.out (fun q hq => by
          have := (List.getElem?_eq_some_iff.1 hq).1
          rw [HN.out] at this; omega) (by rw [HN.out]; exact hi)
        rw [h1, List.take_of_length_le (by rw [HN.out]; omega)]
      have htl : l.take i = l := List.take_of_length_le (by rw [HN.out]; omega)
      rw [htl] at hW
      have HALL := Lib.hid hall
      have HW := Lib.hid hW
      clear hin hall htl hW
      go_wp2
      go_ret
      exact ⟨by rw [if_pos HALL.out]; rfl, v', by rw [HALL.out]; exact HW.out, hT⟩
end Go.Proofs.Ytlhappecjjbopaa
