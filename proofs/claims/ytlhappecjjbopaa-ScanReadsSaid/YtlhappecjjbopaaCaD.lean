/-
  The document's codes: List, Codes, by contracts. Conditions: at most 600 symbols.
-/
import Derived.Test.YtlhappecjjbopaaCaC
import Derived.Deep.CutRange
namespace Go.Proofs.Ytlhappecjjbopaa
open Go.RowKit
set_option linter.unusedVariables false
set_option maxRecDepth 100000

theorem Try.info_code : (Try.prog.info? 57).map (fun i => (i.zero, i.size, i.bytes)) = some (some (.agg #[.int .i64 0, .slice none 0 0]), 2, 32) := by kernel_rfl

/-- rows of a list of codes: each one's bits are readable, and lie in no block of X -/
structure Cl (w : World) (B : Nat) (X : Option Nat) (rows : List (List Value)) (codes : List (Int × List Int)) : Prop where
  len : rows.length = codes.length
  two : ∀ r ∈ rows, r.length = 2
  at_ : ∀ (i : Nat) (s : Int) (bits : List Int), codes[i]? = some (s, bits) → ∃ (a : Addr) (c : Nat), rows[i]? = some [.int .i64 s, .slice (some a) bits.length c] ∧ Rd w w.heap.size (some a) (iv bits) ∧ a.block < w.heap.size ∧ X ≠ some a.block ∧ B ≤ a.block
theorem Cl.keep {S : Nat → Prop} {w w' : World} {B : Nat} {X : Option Nat} {rows : List (List Value)} {codes : List (Int × List Int)} (h : Cl w B X rows codes) (hf : Fr S w w') (hS : ∀ b, b < w.heap.size → S b → X = some b) : Cl w' B X rows codes :=
  ⟨h.len, h.two, fun i s bits hc => by
    obtain ⟨a, c, h1, h2, h3, h4, h5⟩ := h.at_ i s bits hc
    refine ⟨a, c, h1, (hf.rd h2 (Nat.le_refl _) (fun p hp hs => ?_)).more hf.size, Nat.lt_of_lt_of_le h3 hf.size, h4, h5⟩
    injection hp with hp
    subst hp
    exact h4 (hS _ h3 hs)⟩
theorem Cl.below {w w' : World} {B : Nat} {X : Option Nat} {rows : List (List Value)} {codes : List (Int × List Int)} (h : Cl w B X rows codes) (hb : Below w.heap.size w w') : Cl w' B X rows codes :=
  h.keep (S := fun _ => False) (Fr.of_below hb) (fun _ _ f => f.elim)
theorem Cl.x {w : World} {B : Nat} {X X' : Option Nat} {rows : List (List Value)} {codes : List (Int × List Int)} (h : Cl w B X rows codes) (hX : ∀ b, X' = some b → X = some b ∨ w.heap.size ≤ b) : Cl w B X' rows codes :=
  ⟨h.len, h.two, fun i s bits hc => by
    obtain ⟨a, c, h1, h2, h3, h4, h5⟩ := h.at_ i s bits hc
    refine ⟨a, c, h1, h2, h3, fun e => ?_, h5⟩
    rcases hX _ e with h | h
    · exact h4 h
    · omega⟩
theorem Cl.snoc {w : World} {B : Nat} {X : Option Nat} {rows : List (List Value)} {codes : List (Int × List Int)} (h : Cl w B X rows codes) {s : Int} {bits : List Int} {a : Addr} {c : Nat} (hR : Rd w w.heap.size (some a) (iv bits)) (hlt : a.block < w.heap.size) (hX : X ≠ some a.block) (hB : B ≤ a.block) :
    Cl w B X (rows ++ [[.int .i64 s, .slice (some a) bits.length c]]) (codes ++ [(s, bits)]) :=
  ⟨by simp [h.len], fun r hr => by
    rcases List.mem_append.1 hr with hr | hr
    · exact h.two r hr
    · simp at hr; subst hr; rfl, fun i s' bits' hc => by
    by_cases hi : i < codes.length
    · rw [List.getElem?_append_left hi] at hc
      obtain ⟨a', c', h1, h2⟩ := h.at_ i s' bits' hc
      exact ⟨a', c', by rw [List.getElem?_append_left (by rw [h.len]; exact hi)]; exact h1, h2⟩
    · have hl := (List.getElem?_eq_some_iff.1 hc).1
      have he : i = codes.length := by simp at hl; omega
      subst he
      simp at hc
      obtain ⟨rfl, rfl⟩ := hc
      exact ⟨a, c, by rw [← h.len]; simp, hR, hlt, hX, hB⟩⟩
theorem Cl.ap {w w' : World} {B : Nat} {v v' : Value} {rows : List (List Value)} {codes : List (Int × List Int)} (h : Cl w B v.ownBlock rows codes) (hp : Ap w w' v v') : Cl w' B v'.ownBlock rows codes :=
  ⟨h.len, h.two, fun i s bits hc => by
    obtain ⟨a, c, h1, h2, h3, h4, h5⟩ := h.at_ i s bits hc
    refine ⟨a, c, h1, (hp.fr.rd h2 (Nat.le_refl _) (fun p hq hs => ?_)).more hp.fr.size, Nat.lt_of_lt_of_le h3 hp.fr.size, fun e => ?_, h5⟩
    · injection hq with hq
      subst hq
      exact h4 hs
    · rcases hp.row _ e with h | h
      · exact h4 h
      · omega⟩
theorem Cl.base {w : World} {B B' : Nat} {X : Option Nat} {rows : List (List Value)} {codes : List (Int × List Int)} (h : Cl w B X rows codes) (hB : B' ≤ B) : Cl w B' X rows codes :=
  ⟨h.len, h.two, fun i s bits hc => by
    obtain ⟨a, c, h1, h2, h3, h4, h5⟩ := h.at_ i s bits hc
    exact ⟨a, c, h1, h2, h3, h4, Nat.le_trans hB h5⟩⟩
theorem Cl.nil (w : World) (B : Nat) (X : Option Nat) : Cl w B X [] [] := ⟨rfl, by simp, by simp⟩

def codesOf (syms Z : List Int) : List (Int × List Int) := (List.range Z.length).map fun i => (syms.getD i 0, cb Z i)
theorem codesOf_len (syms Z : List Int) : (codesOf syms Z).length = Z.length := by simp [codesOf]
theorem codesOf_at (syms Z : List Int) (i : Nat) (h : i < Z.length) : (codesOf syms Z)[i]? = some (syms.getD i 0, cb Z i) := by
  unfold codesOf
  rw [List.getElem?_map, List.getElem?_range h]; rfl
theorem codesOf_take (syms Z : List Int) (k : Nat) (h : k < Z.length) : (codesOf syms Z).take (k + 1) = (codesOf syms Z).take k ++ [(syms.getD k 0, cb Z k)] := by
  rw [List.take_add_one, codesOf_at syms Z k h]; rfl

set_option maxHeartbeats 4000000 in
theorem list_any (A A2 : Option Addr) (n c n2 c2 : Nat) (syms Z : List Int) (w : World) (hn : syms.length = n) (hn2 : Z.length = n2) (hnn : n2 = n) (hR : Rd w w.heap.size A (iv syms)) (hR2 : Rd w w.heap.size A2 (iv Z)) (hI : Is syms) (hz : Zs Z) (hm : n ≤ 100000) :
    Calls Try.prog 100 #[.slice A n c, .slice A2 n2 c2] w fun e w' => ∃ v rows, e = .returned v ∧ w'.ownsRow w.heap.size 57 2 v n rows.flatten ∧ Cl w' w.heap.size v.ownBlock rows (codesOf syms Z) ∧ Below w.heap.size w w' := by
  subst hnn
  obtain ⟨i0, hi, hz0, hz1, hz2⟩ := info_parts Try.info_code
  obtain ⟨i1, hi1, hy0, hy1, hy2⟩ := info_parts Try.info_int
  have HN := Lib.hid hn
  have HN2 := Lib.hid hn2
  have HZ := Lib.hid hz
  clear hn hn2 hz
  go_enter Try.func100, Try.ntmps100
  go_wp2
  go_loopw [5, 6] (fun v i wr => ∃ k : Nat, k ≤ n2 ∧ i = .int .i64 k ∧ ∃ rows, wr.ownsRow w.heap.size 57 2 v k rows.flatten ∧ Cl wr w.heap.size v.ownBlock rows ((codesOf syms Z).take k) ∧ Below w.heap.size w wr) (fun _ i _ => n2 - (intOf i).toNat)
  case atStart => exact ⟨0, Nat.zero_le _, rfl, [], World.ownsRow_nil _ _ _ _, Cl.nil _ _ _, Below.refl _ _⟩
  case round =>
    obtain ⟨k, hk, rfl, rows, hown, hcl, hb⟩ := hrel
    obtain ⟨wo, rfl⟩ : ∃ wo : World, wo = wr := ⟨_, rfl⟩
    obtain ⟨Av, cv, rfl, hcv1, hcv2, hRv⟩ := own_sliceN hown
    by_cases hlt : k < n2
    · have hsz := hb.size
      have hzk := HZ.out.rng _ (getD_in (l := Z) (k := k) (by rw [HN2.out]; exact hlt))
      obtain ⟨lk, hlk⟩ := Int.eq_ofNat_of_zero_le (show 0 ≤ Z.getD k 0 by omega)
      have hlk16 : 1 ≤ lk ∧ lk ≤ 16 := by omega
      have hcbl : (cb Z k).length = lk := by rw [cb_len, hlk, Int.toNat_natCast]
      have HLK := Lib.hid hlk
      have HCBL := Lib.hid hcbl
      clear hzk hlk hcbl
      go_upto_if 15 with fail
      go_cut [7] from 8 to 41 (fun v wx => ∃ (l0 : Nat) (st : List Int), l0 ≤ lk ∧ wx.ownsRow wo.heap.size 3 1 v l0 (iv st) ∧ Hid (cb Z k = st ++ List.replicate (lk - l0) 0) ∧ Below wo.heap.size wo wx)
      case first =>
        by_cases hk0 : 0 < k
        · obtain ⟨q, hq⟩ : ∃ q, k = q + 1 := ⟨k - 1, by omega⟩
          subst hq
          have hql : q < Z.length := by rw [HN2.out]; omega
          have hct : ((codesOf syms Z).take (q + 1))[q]? = some (syms.getD q 0, cb Z q) := by rw [List.getElem?_take, if_pos (by omega), codesOf_at syms Z q hql]
          obtain ⟨a, ca, hrow, hRa, hal, hax, _⟩ := hcl.at_ q _ _ hct
          have hfl := flatten_get rows hcl.two q 1 _ _ hrow rfl
          obtain ⟨bb, off, rfl, _, hcell⟩ := hRv.at_ (k := q * 2 + 1) (List.getElem?_eq_some_iff.1 hfl).1
          have hc1 := hcell _ _ hfl
          rw [← Nat.add_assoc] at hc1
          obtain ⟨hs1, hs2, hs3⟩ := cb_step HZ.out q (by rw [HN2.out]; exact hlt)
          rw [HLK.out, Int.toNat_natCast] at hs3
          rw [HLK.out] at hs2
          have hl0 := HZ.out.rng _ (getD_in (l := Z) (k := q) hql)
          obtain ⟨lq, hlq⟩ := Int.eq_ofNat_of_zero_le (show 0 ≤ Z.getD q 0 by omega)
          have hcql : (cb Z q).length = lq := by rw [cb_len, hlq, Int.toNat_natCast]
          rw [hlq, Int.toNat_natCast] at hs1 hs3
          rw [hlq] at hs2 hl0
          rw [hcql] at hc1
          have hqi : ((q + 1 : Nat) : Int) - 1 = (q : Int) := by omega
          have h01 := cb_01 Z q
          have HS3 := Lib.hid hs3
          have HS1 := Lib.hid hs1
          have HQL := Lib.hid hcql
          clear hct hrow hcell hfl hs1 hs3 hlq hcql
          go_wp2_with (go_at_call 137; refine (plus_any (some a) lq ca (cb Z q) _ HQL.out hRa h01 (by omega) HS1.out).mono ?_; rintro e w1 ⟨v1, rfl, ho1, hb1⟩)
          go_meet
          exact ⟨lq, _, by omega, ho1, Lib.hid HS3.out, hb1⟩
        · have hk1 : k = 0 := by omega
          have hcz : cb Z k = [] ++ List.replicate (lk - 0) 0 := by
            have h := HLK.out
            rw [hk1] at h ⊢
            rw [cb_zero, h, Int.toNat_natCast]; rfl
          have HCZ := Lib.hid hcz
          clear hk1 hcz
          go_wp2
          go_meet
          exact ⟨0, [], by omega, World.ownsRow_nil _ _ _ _, HCZ, Below.refl _ _⟩
      case rest =>
        obtain ⟨l0, st, hl0, ho, HST, hbc⟩ := hcut
        obtain ⟨b2, o2, rfl, _, hcell2⟩ := hR2.at_ (k := k) (by rw [iv_len, HN2.out]; exact hlt)
        have hcz := hcell2 k _ (ivs_get (by rw [HN2.out]; exact hlt))
        obtain ⟨b1, o1, rfl, _, hcell1⟩ := hR.at_ (k := k) (by rw [iv_len, HN.out]; exact hlt)
        have hcs := hcell1 k _ (ivs_get (by rw [HN.out]; exact hlt))
        rw [HLK.out] at hcz
        have hkz : ∀ W : World, Below w.heap.size w W → W.cell? ⟨b2, o2 + k, none⟩ = some (.int .i64 (lk : Int)) := fun W hW => (hW.cell (p := ⟨b2, o2 + k, none⟩) (World.block_lt_of_cell? w _ hcz)).trans hcz
        have hks : ∀ W : World, Below w.heap.size w W → W.cell? ⟨b1, o1 + k, none⟩ = some (.int .i64 (syms.getD k 0)) := fun W hW => (hW.cell (p := ⟨b1, o1 + k, none⟩) (World.block_lt_of_cell? w _ hcs)).trans hcs
        have HKZ := Lib.hid hkz
        have HKS := Lib.hid hks
        have hstl : st.length = l0 := by have := ho.1; rw [iv_len] at this; omega
        have HSTL := Lib.hid hstl
        clear hcell1 hcell2 hcz hcs hkz hks hstl
        go_wp2
        go_loopw [7] (fun v wr => ∃ j : Nat, l0 ≤ j ∧ j ≤ lk ∧ wr.ownsRow wo.heap.size 3 1 v j (iv (st ++ List.replicate (j - l0) 0)) ∧ Below wo.heap.size wo wr) (fun v _ => lk - (match v with | .slice _ m _ => m | _ => 0))
        case atStart => exact ⟨l0, Nat.le_refl _, hl0, by rw [Nat.sub_self]; simpa using ho, hbc⟩
        case round =>
          obtain ⟨j, hj1, hj2, hoj, hbj⟩ := hrel
          clear ho hbc
          obtain ⟨Aj, cj, rfl, hRj⟩ := own_slice hoj
          have hbw := hb.trans (hbj.mono hsz)
          have hcz := HKZ.out wr hbw
          by_cases hjl : j < lk
          · have hown' := hoj.alloc (.cells #[Value.int .i64 0] 3)
            have hszj := hbj.size
            go_wp2_with (at_builtin; refine wpList_app2 _ rfl (.tmp 30) (.tmp 31) 24 rfl Try.underlying24 hi1 hy0 hy1 hy2 rfl hown' rfl rfl (Rd.new1 _ _ _) rfl (by simp [Value.oneCell']) (by omega) (by omega) (by simp; omega) ?_; intro v1 w1 hown1 hg1; have hb1 : Below wo.heap.size wo w1 := below_app2 (hbj.alloc hszj _) hown' hg1 (Nat.le_refl _) (by simp; omega); obtain ⟨A1, d1, rfl, _⟩ := own_slice hown1)
            go_roundw
            case rel => exact ⟨j + 1, by omega, by omega, by rw [show j + 1 - l0 = (j - l0) + 1 by omega, List.replicate_succ', ← List.append_assoc, iv_app]; exact hown1, hb1⟩
            case measure => simp; omega
          · have hjk : j = lk := by omega
            have hbits : st ++ List.replicate (j - l0) 0 = cb Z k := by rw [hjk]; exact HST.out.symm
            rw [hbits] at hoj
            have hjb : lk ≤ j ∧ j ≤ lk := by omega
            have hcbj : (cb Z k).length = j := by rw [HCBL.out, hjk]
            have HCJ := Lib.hid hcbj
            obtain ⟨gb, gd, hv, hcap, hdm, hgb1, hgb2⟩ := own_pos hoj (by omega)
            injection hv with hv hv2 hv3
            subst hv hv3
            have hRb := Rd.of_own hoj
            have hownj := own_keepN hown hbj
            have hclj := hcl.below hbj
            have hcs := HKS.out wr hbw
            have hct := codesOf_take syms Z k (by rw [HN2.out]; exact hlt)
            have HCT := Lib.hid hct
            clear hjk hbits hcbj hct
            generalize syms.getD k 0 = sy at *
            have hba : Below wr.heap.size wr (wr.alloc (.cells #[.int .i64 sy, .slice (some ⟨gb, 0, none⟩) j cj] 57)) := (Below.refl _ _).alloc (Nat.le_refl _) _
            have howna := own_keepN hownj hba
            have hcla := hclj.below hba
            have hRba := (hRb.below hba).more hba.size
            have hbwa := hbw.trans (hba.mono hbw.size)
            have hgba : gb < (wr.alloc (.cells #[.int .i64 sy, .slice (some ⟨gb, 0, none⟩) j cj] 57)).heap.size := Nat.lt_of_lt_of_le hgb2 hba.size
            have hXg : ∀ b, (Value.slice Av k cv).ownBlock = some b → b < wo.heap.size := fun b hb => (hown.lt b hb).2
            have hszw := hbwa.size
            go_wp2_with (at_builtin; refine wpList_appN _ rfl (.tmp 33) (.tmp 40) 54 rfl Try.underlying54 hi hz0 hz1 hz2 rfl (by omega) howna rfl rfl (Rd.newN wr 57 [.int .i64 sy, .slice (some ⟨gb, 0, none⟩) j cj]) rfl (by simp [Value.oneCell']) (by omega) (by omega) hszw ?_; intro v7 w7 hown7 hap7)
            go_roundw
            case rel =>
              have hcl7 := hcla.ap hap7
              have hR7 : Rd w7 w7.heap.size (some ⟨gb, 0, none⟩) (iv (cb Z k)) := (hap7.fr.rd hRba (Nat.le_refl _) (fun p hq hs => by
                injection hq with hq
                subst hq
                have := hXg _ hs
                simp only at this
                omega)).more hap7.fr.size
              have hX7 : v7.ownBlock ≠ some gb := fun e => by
                rcases hap7.row _ e with h | h
                · have := hXg _ h
                  omega
                · omega
              have hs := hcl7.snoc (s := sy) (bits := cb Z k) (c := cj) hR7 (Nat.lt_of_lt_of_le hgba hap7.fr.size) hX7 (show w.heap.size ≤ gb by omega)
              rw [HCJ.out] at hs
              refine ⟨k + 1, by omega, by go_num, rows ++ [[.int .i64 sy, .slice (some ⟨gb, 0, none⟩) j cj]], ?_, ?_, hbwa.trans (hap7.below (fun b hb => (hown.lt b hb).1) hszw)⟩
              · rw [List.flatten_append]
                simpa using hown7
              · rw [HCT.out]; exact hs
            case measure => simp [intOf]; omega
    · have hkn : k = n2 := by omega
      have htk : (codesOf syms Z).take k = codesOf syms Z := List.take_of_length_le (by rw [codesOf_len, HN2.out]; omega)
      rw [htk] at hcl
      have HKN := Lib.hid hkn
      clear hkn htk
      go_wp2
      go_ret
      rw [HKN.out] at hown hcl ⊢
      exact ⟨_, rows, rfl, hown, hcl, hb⟩
end Go.Proofs.Ytlhappecjjbopaa
