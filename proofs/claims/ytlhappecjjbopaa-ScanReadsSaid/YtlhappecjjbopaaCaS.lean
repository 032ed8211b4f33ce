/-
  The document's Read, by a contract. Conditions: at most 600 codes.
-/
import Derived.Test.YtlhappecjjbopaaCaR
namespace Go.Proofs.Ytlhappecjjbopaa
open Go.RowKit
set_option linter.unusedVariables false
set_option maxRecDepth 100000

/-- codes that were whole when the heap had K blocks -/
def Cs (w : World) (K : Nat) (A : Option Addr) (syms Z : List Int) : Prop := ∃ w0 rows, Rd w0 w0.heap.size A rows.flatten ∧ Cl w0 0 none rows (codesOf syms Z) ∧ w0.heap.size = K ∧ Below K w0 w
section
variable {w w' : World} {K : Nat} {A : Option Addr} {syms Z : List Int}
theorem Cs.keep (h : Cs w K A syms Z) (hb : Below K w w') : Cs w' K A syms Z := by
  obtain ⟨w0, rows, h1, h2, h3, h4⟩ := h
  exact ⟨w0, rows, h1, h2, h3, h4.trans hb⟩
theorem Cs.size (h : Cs w K A syms Z) : K ≤ w.heap.size := by
  obtain ⟨w0, rows, h1, h2, rfl, h4⟩ := h
  exact h4.size
theorem Cs.get (h : Cs w K A syms Z) : ∃ rows, Rd w w.heap.size A rows.flatten ∧ Cl w 0 none rows (codesOf syms Z) := by
  obtain ⟨w0, rows, h1, h2, rfl, h4⟩ := h
  exact ⟨rows, (h1.below h4).more h4.size, h2.below h4⟩
theorem Cs.of {B : Nat} {X : Option Nat} {rows : List (List Value)} (h : Rd w w.heap.size A rows.flatten) (hc : Cl w B X rows (codesOf syms Z)) : Cs w w.heap.size A syms Z :=
  ⟨w, rows, h, (hc.base (Nat.zero_le _)).x (fun b hb => by cases hb), rfl, Below.refl _ _⟩
end
theorem Cl.cells {w : World} {B : Nat} {X : Option Nat} {rows : List (List Value)} {codes : List (Int × List Int)} (h : Cl w B X rows codes) {A : Option Addr} (hR : Rd w w.heap.size A rows.flatten) {i : Nat} {s : Int} {bits : List Int} (hc : codes[i]? = some (s, bits)) :
    ∃ b off a c, A = some ⟨b, off, none⟩ ∧ w.cell? ⟨b, off + i * 2, none⟩ = some (.int .i64 s) ∧ w.cell? ⟨b, off + i * 2 + 1, none⟩ = some (.slice (some a) bits.length c) ∧ Rd w w.heap.size (some a) (iv bits) := by
  obtain ⟨a, c, h1, h2, _⟩ := h.at_ i s bits hc
  have f0 := flatten_get rows h.two i 0 _ (.int .i64 s) h1 rfl
  have f1 := flatten_get rows h.two i 1 _ (.slice (some a) bits.length c) h1 rfl
  obtain ⟨b, off, hA, _, hc⟩ := hR.at_ (List.getElem?_eq_some_iff.1 f0).1
  exact ⟨b, off, a, c, hA, hc _ _ f0, by rw [Nat.add_assoc]; exact hc _ _ f1, h2⟩

def RefP (syms Z l : List Int) (w : World) (e : Ending) (w' : World) : Prop := ∃ sym n err, RdS syms Z l sym n err ∧ e = .returned (.tuple #[.int .i64 sym, .int .i64 (n : Nat), .int .i64 err]) ∧ Below w.heap.size w w'

theorem take_eq_snoc {a b : List Int} {q : Nat} (ha : q < a.length) (hb : q < b.length) : a.take (q + 1) = b.take (q + 1) ↔ a.take q = b.take q ∧ a.getD q 0 = b.getD q 0 := by
  rw [take_get a q ha, take_get b q hb]
  constructor
  · intro h
    have := List.append_inj h (by simp; omega)
    exact ⟨this.1, by simpa using this.2⟩
  · rintro ⟨h1, h2⟩; rw [h1, h2]

set_option maxHeartbeats 4000000 in
theorem refread_any (A A2 : Option Addr) (n c n2 c2 K : Nat) (syms Z l : List Int) (w : World) (hn : Z.length = n) (hn2 : l.length = n2) (hS : Cs w K A syms Z) (hR2 : Rd w w.heap.size A2 (iv l)) (hz : Zs Z) (hl : B01 l) (hm : n ≤ 100000) (hm2 : n2 ≤ 1099511627776) :
    Calls Try.prog 108 #[.slice A n c, .slice A2 n2 c2] w (RefP syms Z l w) := by
  have HN := Lib.hid hn
  have HN2 := Lib.hid hn2
  have HZ := Lib.hid hz
  by_cases h0 : n = 0
  · subst h0
    have hz0 : Z = [] := List.eq_nil_of_length_eq_zero hn
    have HZ0 := Lib.hid hz0
    clear hn hn2 hz hz0
    go_enter Try.func108, Try.ntmps108
    go_wp2
    exact bodyPost_ret (v := .tuple #[.int .i64 0, .int .i64 0, .int .i64 2]) (by simp [results, Try.results108, go_sem]) rfl ⟨0, 0, 2, .inl ⟨HZ0.out, rfl, rfl, rfl⟩, rfl, Below.refl _ _⟩
  have hzne : Z ≠ [] := fun e => h0 (by rw [← hn, e]; rfl)
  have HZN := Lib.hid hzne
  have hd0 : ((n : Int) == 0) = false := by simp; exact h0
  have hn0 : 0 < n := by omega
  clear hn hn2 hz hzne h0
  go_enter Try.func108, Try.ntmps108
  go_wp2
  go_loopw [7] (fun i wr => ∃ m : Nat, 1 ≤ m ∧ m ≤ 17 ∧ i = .int .i64 m ∧ Cont Z l (m - 1) ∧ Below w.heap.size w wr) (fun i _ => 20 - (intOf i).toNat)
  case atStart => exact ⟨1, by omega, by omega, rfl, Cont.zero _ _, Below.refl _ _⟩
  case round =>
    obtain ⟨m, hm1, hm17, rfl, hC, hb⟩ := hrel
    obtain ⟨wo, rfl⟩ : ∃ wo : World, wo = wr := ⟨_, rfl⟩
    have HC := Lib.hid hC
    clear hC
    by_cases h16 : m ≤ 16
    · have hdm : decide ((m : Int) ≤ 16) = true := decide_eq_true (by omega)
      by_cases hend : m ≤ n2
      · have hde : decide (n2 < m) = false := decide_eq_false (by omega)
        go_wp2
        go_loopw [8, 9] (fun g i wr => ∃ (bg : Bool) (j : Nat), j ≤ n ∧ i = .int .i64 j ∧ g = .bool bg ∧ (bg = true ↔ ∃ t, t < j ∧ Pre Z t (l.take m)) ∧ (∀ t, t < j → ¬ Hit Z t (l.take m)) ∧ Below w.heap.size w wr) (fun _ i _ => n - (intOf i).toNat)
        case atStart => exact ⟨false, 0, Nat.zero_le _, rfl, rfl, ⟨fun h => by (cases h), fun ⟨t, h, _⟩ => by omega⟩, fun t h => by omega, hb⟩
        case round =>
          obtain ⟨bg, j, hj, rfl, rfl, hbg, hno, hb⟩ := hrel
          obtain ⟨wi, rfl⟩ : ∃ wi : World, wi = wr := ⟨_, rfl⟩
          have HBG := Lib.hid hbg
          have HNO := Lib.hid hno
          clear hbg hno
          by_cases hlt : j < n
          · obtain ⟨rows, hRr, hCl⟩ := (hS.keep (hb.mono hS.size)).get
            have hjZ : j < Z.length := by rw [HN.out]; exact hlt
            obtain ⟨b1, o1, a1, c1, rfl, k0, k1, hRb⟩ := hCl.cells hRr (codesOf_at syms Z j hjZ)
            have HJZ := Lib.hid hjZ
            have h01 := cb_01 Z j
            have hl16 := len16 HZ.out hjZ
            generalize hbt : cb Z j = bt at *
            generalize hbl : bt.length = bl at *
            have HBT := Lib.hid hbt
            have HBL := Lib.hid hbl
            have hj0 : (0 : Int) ≤ (j : Int) := by omega
            have hj1 : (j : Int) < (n : Int) := by omega
            clear hbt hbl hCl hRr hjZ
            go_wp2
            go_loopw [11, 12] (fun sv i wr => ∃ (sm : Bool) (q : Nat), q ≤ m ∧ q ≤ bl ∧ i = .int .i64 q ∧ sv = .bool sm ∧ (sm = true ↔ bt.take q = l.take q) ∧ Below wi.heap.size wi wr) (fun _ i _ => m - (intOf i).toNat)
            case atStart => exact ⟨true, 0, Nat.zero_le _, Nat.zero_le _, rfl, rfl, ⟨fun _ => rfl, fun _ => rfl⟩, Below.refl _ _⟩
            case round =>
              obtain ⟨sm, q, hq, hqb, rfl, rfl, hsm, hbi⟩ := hrel
              obtain ⟨wj, rfl⟩ : ∃ wj : World, wj = wr := ⟨_, rfl⟩
              have HSM := Lib.hid hsm
              clear hsm
              have hbo := hb.trans (hbi.mono hb.size)
              have k0' := (hbi.cell (p := ⟨b1, o1 + j * 2, none⟩) (World.block_lt_of_cell? wi _ k0)).trans k0
              have k1' := (hbi.cell (p := ⟨b1, o1 + j * 2 + 1, none⟩) (World.block_lt_of_cell? wi _ k1)).trans k1
              by_cases hg : q < m ∧ q < bl
              · obtain ⟨hg1, hg2⟩ := hg
                obtain ⟨bb, ob, hae, _, hcb⟩ := (hRb.below hbi).at_ (k := q) (by rw [iv_len, HBL.out]; exact hg2)
                injection hae with hae
                subst hae
                have e1 := hcb q _ (iv_get (by rw [HBL.out]; exact hg2))
                obtain ⟨bl2, ol2, rfl, _, hcl⟩ := (hR2.below hbo).at_ (k := q) (by rw [iv_len, HN2.out]; omega)
                have e2 := hcl q _ (iv_get (by rw [HN2.out]; omega))
                have hst := take_eq_snoc (a := bt) (b := l) (q := q) (by rw [HBL.out]; exact hg2) (by rw [HN2.out]; omega)
                have HST := Lib.hid hst
                have hq0 : (0 : Int) ≤ (q : Int) := by omega
                have hq1 : (q : Int) < (bl : Int) := by omega
                have hq2 : (q : Int) < (n2 : Int) := by omega
                clear hcb hcl hst
                generalize bt.getD q 0 = u1 at *
                generalize l.getD q 0 = u2 at *
                cases sm
                · go_wp2
                  go_quiet (fail)
                  go_wp2
                  go_roundw
                  case rel => exact ⟨false, q + 1, by omega, by omega, by go_num, rfl, ⟨fun h => by (cases h), fun h => by have := HSM.out.2 (HST.out.1 h).1; (cases this)⟩, below_drewN hbi _⟩
                  case measure => simp [intOf]; omega
                · go_wp2
                  go_quiet (fail)
                  go_wp2
                  go_roundw
                  case rel => exact ⟨u1 == u2, q + 1, by omega, by omega, by go_num, rfl, ⟨fun h => HST.out.2 ⟨HSM.out.1 (by simp), by simpa using h⟩, fun h => by simpa using (HST.out.1 h).2⟩, below_drewN hbi _⟩
                  case measure => simp [intOf]; omega
              · have hpre : Pre Z j (l.take m) ↔ m < bl ∧ sm = true := by
                  have hlm : (l.take m).length = m := by rw [List.length_take, HN2.out]; omega
                  unfold Pre
                  rw [HBT.out, HBL.out, hlm, HSM.out]
                  constructor
                  · rintro ⟨_, h1, h2⟩
                    refine ⟨h1, ?_⟩
                    rw [show q = m by omega]; exact h2
                  · rintro ⟨h1, h2⟩
                    rw [show q = m by omega] at h2
                    exact ⟨HJZ.out, h1, h2⟩
                have hhit : Hit Z j (l.take m) ↔ bl = m ∧ sm = true := by
                  have hlm : (l.take m).length = m := by rw [List.length_take, HN2.out]; omega
                  unfold Hit
                  rw [HBT.out, HSM.out]
                  constructor
                  · rintro ⟨_, h2⟩
                    have h3 := congrArg List.length h2
                    rw [HBL.out, hlm] at h3
                    refine ⟨h3, ?_⟩
                    rw [show q = m by omega]
                    rw [h2, List.take_take, Nat.min_self]
                  · rintro ⟨h1, h2⟩
                    rw [show q = m by omega] at h2
                    refine ⟨HJZ.out, ?_⟩
                    rw [← h2, List.take_of_length_le (by rw [HBL.out]; omega)]
                have HPR := Lib.hid hpre
                have HHI := Lib.hid hhit
                have hnext : sm = false ∨ bl ≠ m → ∀ t, t < j + 1 → ¬ Hit Z t (l.take m) := fun h t ht hi => by
                  rcases Nat.lt_or_ge t j with h1 | h1
                  · exact HNO.out t h1 hi
                  · obtain rfl : t = j := by omega
                    obtain ⟨h2, h3⟩ := HHI.out.1 hi
                    rcases h with h4 | h4
                    · rw [h3] at h4; cases h4
                    · exact h4 h2
                have hbgn : ∀ b2 : Bool, (b2 = true ↔ bg = true ∨ (m < bl ∧ sm = true)) → (b2 = true ↔ ∃ t, t < j + 1 ∧ Pre Z t (l.take m)) := fun b2 h => by
                  rw [h, HBG.out, ← HPR.out]
                  constructor
                  · rintro (⟨t, h1, h2⟩ | h1)
                    · exact ⟨t, by omega, h2⟩
                    · exact ⟨j, by omega, h1⟩
                  · rintro ⟨t, h1, h2⟩
                    rcases Nat.lt_or_ge t j with h3 | h3
                    · exact .inl ⟨t, h3, h2⟩
                    · obtain rfl : t = j := by omega
                      exact .inr h2
                have HNX := Lib.hid hnext
                have HBN := Lib.hid hbgn
                clear hpre hhit hnext hbgn
                have dq : (decide (q < m) = false) ∨ (decide (q < m) = true ∧ decide (q < bl) = false) := by
                  by_cases h1 : q < m
                  · exact .inr ⟨decide_eq_true h1, decide_eq_false (fun h2 => hg ⟨h1, h2⟩)⟩
                  · exact .inl (decide_eq_false h1)
                clear hg
                rcases Nat.lt_trichotomy bl m with ht | ht | ht
                · have d1 : ((bl : Int) == (m : Int)) = false := by simp; omega
                  have d2 : decide (m < bl) = false := decide_eq_false (by omega)
                  rcases dq with d3 | ⟨d3, d4⟩
                  all_goals
                    cases sm
                    all_goals
                      cases bg
                      all_goals
                        go_wp2
                        go_roundw
                        case rel => exact ⟨_, j + 1, by omega, by go_num, rfl, HBN.out _ (by simp; try omega), HNX.out (.inr (by omega)), hbo⟩
                        case measure => simp [intOf]; omega
                · have ht1 : bl ≤ m := by omega
                  have ht2 : m ≤ bl := by omega
                  clear ht
                  have d1 : ((bl : Int) == (m : Int)) = true := by simp; omega
                  have d2 : decide (m < bl) = false := decide_eq_false (by omega)
                  have hqm : ¬ q < m := by
                    rcases dq with h | ⟨_, h⟩
                    · exact of_decide_eq_false h
                    · have := of_decide_eq_false h; omega
                  have d3 : decide (q < m) = false := decide_eq_false hqm
                  clear dq hqm
                  cases sm
                  · cases bg
                    all_goals
                      go_wp2
                      go_roundw
                      case rel => exact ⟨_, j + 1, by omega, by go_num, rfl, HBN.out _ (by simp; try omega), HNX.out (.inl rfl), hbo⟩
                      case measure => simp [intOf]; omega
                  · have hit := HHI.out.2 ⟨by omega, by simp⟩
                    have HIT := Lib.hid hit
                    clear hit
                    go_wp2
                    refine bodyPost_ret (v := .tuple #[.int .i64 (syms.getD j 0), .int .i64 (m : Nat), .int .i64 0]) (by simp [results, Try.results108, go_sem]) rfl ⟨_, m, 0, .inr ⟨HZN.out, m - 1, HC.out, .inr ⟨by rw [HN2.out]; omega, .inl ⟨j, ?_, rfl, by omega, rfl⟩⟩⟩, rfl, hbo⟩
                    rw [show m - 1 + 1 = m by omega]; exact HIT.out
                · have d1 : ((bl : Int) == (m : Int)) = false := by simp; omega
                  have d2 : decide (m < bl) = true := decide_eq_true (by omega)
                  rcases dq with d3 | ⟨d3, d4⟩
                  all_goals
                    cases sm
                    all_goals
                      cases bg
                      all_goals
                        go_wp2
                        go_roundw
                        case rel => exact ⟨_, j + 1, by omega, by go_num, rfl, HBN.out _ (by simp; try omega), HNX.out (.inr (by omega)), hbo⟩
                        case measure => simp [intOf]; omega
          · cases bg
            · go_wp2
              refine bodyPost_ret (v := .tuple #[.int .i64 0, .int .i64 (m : Nat), .int .i64 2]) (by simp [results, Try.results108, go_sem]) rfl ⟨0, m, 2, .inr ⟨HZN.out, m - 1, HC.out, .inr ⟨by rw [HN2.out]; omega, .inr ⟨?_, ?_, rfl, by omega, rfl⟩⟩⟩, rfl, hb⟩
              · intro i hi
                have := hi.1
                rw [HN.out] at this
                rw [show m - 1 + 1 = m by omega] at hi
                exact HNO.out i (by omega) hi
              · intro i hi
                have := hi.1
                rw [HN.out] at this
                rw [show m - 1 + 1 = m by omega] at hi
                have h1 := HBG.out.2 ⟨i, by omega, hi⟩
                cases h1
            · go_wp2
              go_roundw
              case rel =>
                refine ⟨m + 1, by omega, by omega, by go_num, ?_, hb⟩
                rw [show m + 1 - 1 = m - 1 + 1 by omega]
                refine HC.out.succ (by rw [HN2.out]; omega) (fun i hi => ?_) ?_
                · have := hi.1
                  rw [HN.out] at this
                  rw [show m - 1 + 1 = m by omega] at hi
                  exact HNO.out i (by omega) hi
                · obtain ⟨t, _, ht⟩ := HBG.out.1 rfl
                  rw [show m - 1 + 1 = m by omega]
                  exact ⟨t, ht⟩
              case measure => simp [intOf]; omega
      · have hk : m - 1 = l.length := by
          rw [HN2.out]
          rcases Nat.eq_zero_or_pos (m - 1) with h0 | h0
          · omega
          · have := (HC.out (m - 1) h0 (Nat.le_refl _)).1
            rw [HN2.out] at this; omega
        have hk2 : m - 1 = n2 := by rw [hk, HN2.out]
        have HK := Lib.hid hk
        have HK2 := Lib.hid hk2
        clear hk hk2
        go_wp2
        refine bodyPost_ret (v := .tuple #[.int .i64 0, .int .i64 (n2 : Nat), .int .i64 8]) (by simp [results, Try.results108, go_sem]) rfl ⟨0, n2, 8, .inr ⟨HZN.out, m - 1, HC.out, .inl ⟨HK.out, rfl, HK2.out.symm, rfl⟩⟩, rfl, hb⟩
    · exfalso
      obtain ⟨_, _, i, hi⟩ := HC.out (m - 1) (by omega) (Nat.le_refl _)
      have h1 := len16 HZ.out hi.1
      have h2 := hi.2.1
      have h3 := (HC.out (m - 1) (by omega) (Nat.le_refl _)).1
      rw [List.length_take] at h2
      omega
end Go.Proofs.Ytlhappecjjbopaa
