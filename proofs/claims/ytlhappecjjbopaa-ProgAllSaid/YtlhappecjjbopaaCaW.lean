/-
  CanonBack: symbols that are written are read. No condition.
-/
import Derived.Test.YtlhappecjjbopaaCaV
import Derived.Test.YtlhappecjjbopaaCaP
import Derived.Test.YtlhappecjjbopaaFacts
import Derived.Test.YtlhappecjjbopaaLib
namespace Go.Proofs.Ytlhappecjjbopaa
open Go.ChangeShapes Go.WideShapes Go.ChangeAt Go.WideMaps Go.WideElems Go.RowKit Go.Joins
set_option linter.unusedVariables false
set_option maxRecDepth 100000

/-- a symbol's code -/
def co (ls C : List Int) (s : Nat) : List Int := digs true (C.getD s 0) (ls.getD s 0).toNat
theorem Ordd.co {ls : List Int} {O : List Nat} {C : List Int} (h : Ordd ls O C) {i s : Nat} (hi : O[i]? = some s) : cb (sz ls O) i = co ls C s := by
  have h1 := h.lenZ hi
  have h2 := digs_hv (cb_01 (sz ls O) i)
  rw [← h.cod i s hi] at h2
  rw [← h2]
  unfold Go.Proofs.Ytlhappecjjbopaa.co
  congr 1
  omega
theorem co_len (ls C : List Int) (s : Nat) : (co ls C s).length = (ls.getD s 0).toNat := digs_len _ _ _
/-- no code begins another one -/
theorem hit_pre {Z b : List Int} (hz : Zs Z) (hb : B01 b) {i j : Nat} (hj : Hit Z j b) (hi : Pre Z i b) : False := by
  obtain ⟨h1, h2⟩ := (hit_iff hz hj.1 hb).1 hj
  obtain ⟨h3, h4, h5⟩ := (pre_iff hz hi.1 hb).1 hi
  have h6 := acc_succ Z j hj.1
  rw [wt_len hz hj.1, h1, h2] at h6
  rcases Nat.lt_or_ge j i with h | h
  · have h7 := acc_mono hz (show j + 1 ≤ i by omega)
    rw [h6] at h7
    rw [Int.add_mul, Int.one_mul] at h5
    omega
  · have := len_mono hz h hj.1
    omega
/-- a code ahead of whatever is read -/
theorem rd_code {syms Z : List Int} (hz : Zs Z) {i : Nat} (hi : i < Z.length) (rest : List Int) : RdS syms Z (cb Z i ++ rest) (syms.getD i 0) (cb Z i).length 0 := by
  have hl := len16 hz hi
  have hne : Z ≠ [] := fun e => by rw [e] at hi; simp at hi
  obtain ⟨k, hk⟩ : ∃ k, (cb Z i).length = k + 1 := ⟨(cb Z i).length - 1, by omega⟩
  have htk : ∀ m, m ≤ k + 1 → (cb Z i ++ rest).take m = (cb Z i).take m := fun m hm => by rw [List.take_append_of_le_length (by omega)]
  refine .inr ⟨hne, k, fun m h1 h2 => ?_, .inr ⟨by rw [List.length_append]; omega, .inl ⟨i, ?_, rfl, hk, rfl⟩⟩⟩
  · have hp : Pre Z i ((cb Z i ++ rest).take m) := by
      rw [htk m (by omega)]
      refine ⟨hi, ?_, ?_⟩
      · rw [List.length_take]; omega
      · rw [List.length_take, Nat.min_eq_left (by omega)]
    refine ⟨by rw [List.length_append]; omega, fun j hj => hit_pre hz ?_ hj hp, ⟨i, hp⟩⟩
    rw [htk m (by omega)]
    exact (cb_01 Z i).take m
  · rw [htk _ (Nat.le_refl _), ← hk, List.take_length]
    exact ⟨hi, rfl⟩

theorem Wr.keep {w w' : World} {p : Nat} {h : Bool} {v : Value} {L : List Int} {S : Nat → Prop} (x : Wr w p h v L) (hf : Fr S w w') (hp : ¬ S p) (hv : ∀ k, v.ownBlock = some k → ¬ S k) : Wr w' p h v L :=
  ⟨x.blk.keep hf hp, hf.own x.own hv, x.ne, x.b01⟩
theorem Wr.below {w w' : World} {p : Nat} {h : Bool} {v : Value} {L : List Int} (x : Wr w p h v L) (hb : Below w.heap.size w w') : Wr w' p h v L :=
  x.keep (S := fun _ => False) (Fr.of_below hb) (fun f => f) (fun _ _ f => f)

/-- what is written, and of which symbols -/
structure Wn2 (ls C : List Int) (P : List Nat) (L : List Int) : Prop where
  all : ∀ s ∈ P, s < ls.length ∧ 0 < ls.getD s 0
  bits : L = P.flatMap (co ls C)
theorem flat_len {ls C : List Int} (hV : Vl ls) {P : List Nat} (h : ∀ s ∈ P, s < ls.length ∧ 0 < ls.getD s 0) : (P.flatMap (co ls C)).length ≤ 16 * P.length := by
  induction P with
  | nil => simp
  | cons s P ih =>
    have h1 := hV _ (getD_in (h s (by simp)).1)
    have h2 := ih (fun t ht => h t (by simp [ht]))
    rw [List.flatMap_cons, List.length_append, co_len, List.length_cons]
    omega

structure Inv1 (ls C : List Int) (B wp : Nat) (hi : Bool) (w : World) (k : Nat) (sv : Int) (P : List Nat) (v pv : Value) (wr : World) : Prop where
  wn : ∀ s ∈ P, s < ls.length ∧ 0 < ls.getD s 0
  pl : P.length ≤ k
  wr_ : Wr wr wp hi v (P.flatMap (co ls C))
  sz_ : sv = ((P.flatMap (co ls C)).length : Nat)
  put : wr.ownsRow B 3 1 pv P.length (nv P)
  off : ∀ b, pv.ownBlock = some b → v.ownBlock ≠ some b ∧ b ≠ wp
  vB : ∀ b, v.ownBlock = some b → B ≤ b
  bl : Below B w wr

theorem flat_snoc (ls C : List Int) (P : List Nat) (s : Nat) : (P ++ [s]).flatMap (co ls C) = P.flatMap (co ls C) ++ co ls C s := by simp
theorem flat_split (ls C : List Int) {P : List Nat} {k s : Nat} (h : P[k]? = some s) : ∃ r, P.flatMap (co ls C) = (P.take k).flatMap (co ls C) ++ (co ls C s ++ r) ∧ ((P.take (k + 1)).flatMap (co ls C)).length = ((P.take k).flatMap (co ls C)).length + (co ls C s).length := by
  have h1 : P = P.take k ++ (s :: P.drop (k + 1)) := by
    have hk := (List.getElem?_eq_some_iff.1 h)
    obtain ⟨hk, he⟩ := hk
    have h2 := List.drop_eq_getElem_cons hk
    rw [he] at h2
    rw [← h2, List.take_append_drop]
  refine ⟨(P.drop (k + 1)).flatMap (co ls C), ?_, ?_⟩
  · have h2 := congrArg (List.flatMap (co ls C)) h1
    rw [List.flatMap_append, List.flatMap_cons] at h2
    exact h2
  · rw [List.take_add_one, h]
    simp
/-- behind a written symbol -/
theorem Inv1.write {ls C : List Int} {B wp : Nat} {hi : Bool} {w : World} {k : Nat} {sv : Int} {P : List Nat} {v pv : Value} {wr w2 : World} {v2 : Value} {s : Nat} (h : Inv1 ls C B wp hi w k sv P v pv wr) (hs : s < ls.length ∧ 0 < ls.getD s 0) (hBw : B ≤ wp) (hBr : B ≤ wr.heap.size)
    (hW : Wr w2 wp hi v2 (P.flatMap (co ls C) ++ co ls C s)) (hT : Turn wp wr v w2 v2) :
    w2.ownsRow B 3 1 pv P.length (nv P) ∧ (∀ b, pv.ownBlock = some b → v2.ownBlock ≠ some b ∧ b ≠ wp) ∧ (∀ b, v2.ownBlock = some b → B ≤ b) ∧ Below B w w2 := by
  refine ⟨hT.fr.own h.put (fun b hb hs => ?_), fun b hb => ⟨fun e => ?_, (h.off b hb).2⟩, fun b hb => ?_, h.bl.trans (hT.below hBw h.vB hBr)⟩
  · rcases hs with hs | hs
    · exact (h.off b hb).2 hs
    · exact (h.off b hb).1 hs
  · rcases hT.row b e with h1 | h1
    · exact (h.off b hb).1 h1
    · have := (h.put.lt b hb).2; omega
  · rcases hT.row b hb with h1 | h1
    · exact h.vB b h1
    · omega
def InvB (ls C : List Int) (B : Nat) (h : Bool) (w1 : World) (n2 : Nat) (pv sv i : Value) (wr : World) : Prop :=
  ∃ (k : Nat) (size : Int) (P : List Nat) (v : Value), k ≤ n2 ∧ i = .int .i64 k ∧ sv = .int .i64 size ∧ Inv1 ls C B B h w1 k size P v pv wr
def exP (w : World) (e : Ending) (w' : World) : Prop := ∃ p C, e = .returned (.tuple #[.pointer (some ⟨p, 0, none⟩), .nilIface]) ∧ Bk w' p exL (ordU exL 16) C ∧ Below w.heap.size w w'
theorem exBook_any (w : World) : Calls Try.prog 44 #[.slice (some ⟨w.heap.size, 0, none⟩) 8 8] (w.alloc (.cells (iv exL).toArray 3)) (exP (w.alloc (.cells (iv exL).toArray 3))) := by
  have h : Rd (w.alloc (.cells (iv exL).toArray 3)) (w.alloc (.cells (iv exL).toArray 3)).heap.size (some ⟨w.heap.size, 0, none⟩) (iv exL) := (Rd.newN w 3 (iv exL)).more (by simp)
  refine (newBook_any _ 8 8 exL _ rfl h ex_is).mono ?_
  rintro e w2 ⟨h3, _, hb2⟩
  obtain ⟨p1, C1, rfl, hB1, hC1, hp1⟩ := h3 ex_fm
  exact ⟨p1, C1, rfl, hB1, hb2⟩

set_option maxHeartbeats 8000000 in
theorem canonBack_any (w : World) (A : Option Addr) (n c : Nat) (ls : List Int) (hn : ls.length = n) (hcc : n ≤ c) (hmm : c ≤ 9223372036854775807) (hR : Rd w w.heap.size A (iv ls)) (hI : Is ls) (A2 : Option Addr) (n2 c2 : Nat) (ss : List Int) (hn2 : ss.length = n2) (hcc2 : n2 ≤ c2) (hmm2 : c2 ≤ 9223372036854775807) (hR2 : Rd w w.heap.size A2 (iv ss)) (hI2 : Is ss) (h : Bool) :
    Calls Try.prog 14 #[.slice A n c, .slice A2 n2 c2, .bool h] w (ReadsP w) := by
  have HN := Lib.hid hn
  have HN2 := Lib.hid hn2
  clear hn hn2
  by_cases h1 : 600 < n
  · have d1 : decide ((600 : Int) < (n : Int)) = true := decide_eq_true (by omega)
    go_enter Try.func14, Try.ntmps14
    go_wp2
    go_ret
    exact ⟨rfl, Below.refl _ _⟩
  have d1 : decide ((600 : Int) < (n : Int)) = false := decide_eq_false (by omega)
  by_cases h2 : 300 < n2
  · have d2 : decide ((300 : Int) < (n2 : Int)) = true := decide_eq_true (by omega)
    go_enter Try.func14, Try.ntmps14
    go_wp2
    go_ret
    exact ⟨rfl, Below.refl _ _⟩
  have d2 : decide ((300 : Int) < (n2 : Int)) = false := decide_eq_false (by omega)
  go_enter Try.func14, Try.ntmps14
  go_wp2_with fail
  refine (newBook_any A n c ls w HN.out hR hI).mono ?_; rintro e w1 ⟨h3, h4, hb1⟩
  have hs1 := hb1.size
  by_cases hf : Fm ls
  · obtain ⟨p, C, rfl, hBk, hCd, hp⟩ := h3 hf
    have HF := Lib.hid hf
    have HO := Lib.hid (ordd_U hf hCd)
    have HV := Lib.hid hf.2.1
    have hK := BkS.of hBk
    have hRa := (hR.below hb1).more hs1
    have hR2a := (hR2.below hb1).more hs1
    clear h3 h4 hCd hf hBk hp
    go_wp2_with fail
    refine (newWriter_any h w1).mono ?_; rintro e w2 ⟨rfl, hW, hb2⟩
    have hs2 := hb2.size
    have hwp : w1.heap.size < w2.heap.size := hW.lt
    generalize hB : w1.heap.size = B at *
    have HB := Lib.hid hB
    clear hB
    have ho0 : (w2.alloc (.cells #[] 3)).ownsRow B 3 1 (.slice (some ⟨w2.heap.size, 0, none⟩) 0 0) 0 [] :=
      World.ownsRow_made w2 #[] 0 (by omega) (by unfold maxLen; omega) (by simp)
    have hba : Below w2.heap.size w2 (w2.alloc (.cells #[] 3)) := (Below.refl _ _).alloc (Nat.le_refl _) _
    have I0 : Inv1 ls C B B h w1 0 0 [] (.slice none 0 0) (.slice (some ⟨w2.heap.size, 0, none⟩) 0 0) (w2.alloc (.cells #[] 3)) :=
      ⟨by simp, by simp, hW.below hba, rfl, ho0, fun b hb => ⟨by simp [Value.ownBlock], fun e => by
        have h1 : w2.heap.size = b := Option.some.inj hb
        omega⟩, fun b hb => by simp [Value.ownBlock] at hb, hb2.trans (hba.mono hs2)⟩
    clear hW ho0 hba
    have hw1b : w1.heap.size = B := HB.out
    have HW1 := Lib.hid hw1b
    obtain ⟨i0, hi0, hz0, hz1, hz2⟩ := info_parts Try.info_int
    clear hw1b
    go_wp2
    go_loopw [12, 13, 57] (InvB ls C B h w1 n2) (fun _ _ i _ => n2 - (intOf i).toNat)
    case atStart => exact ⟨0, 0, [], _, Nat.zero_le _, rfl, rfl, I0⟩
    case round =>
      obtain ⟨k, size, P, v, hk, rfl, rfl, I⟩ := hrel
      obtain ⟨wo, rfl⟩ : ∃ wo : World, wo = wr := ⟨_, rfl⟩
      clear I0
      have hbo : Below w.heap.size w wo := hb1.trans (I.bl.mono (by omega))
      have hPl := I.pl
      have hfl := flat_len (C := C) HV.out I.wn
      have hBo : B ≤ wo.heap.size := by have := I.bl.size; have := HW1.out; omega
      by_cases hlt : k < n2
      · obtain ⟨b2, o2, rfl, _, hc2⟩ := (hR2.below hbo).at_ (k := k) (by rw [iv_len, HN2.out]; exact hlt)
        have e2 := hc2 k _ (ivs_get (by rw [HN2.out]; exact hlt))
        have hsb := hI2 _ (getD_in (l := ss) (k := k) (by rw [HN2.out]; exact hlt))
        have hk0 : (0 : Int) ≤ (k : Int) := by omega
        have hk1 : (k : Int) < (n2 : Int) := by omega
        clear hc2
        generalize ss.getD k 0 = s at *
        by_cases hg : hasL ls s
        · obtain ⟨sn, rfl⟩ := Int.eq_ofNat_of_zero_le hg.1
          have hg1 : sn < ls.length := by have := hg.2.1; omega
          have hg2 : 0 < ls.getD sn 0 := by have := hg.2.2; rwa [Int.toNat_natCast] at this
          obtain ⟨i, hi, _⟩ := ord_get HV.out hg1 hg2
          have HI := Lib.hid hi
          have HG1 := Lib.hid hg1
          rw [HN.out] at hg1
          have hlv := HV.out _ (getD_in HG1.out)
          clear hg hi
          go_wp2_with fail
          refine (write_any (hK.keep I.bl) HO.out HV.out (Nat.le_refl B) I.vB I.wr_ HI.out (by omega)).mono ?_; rintro e w3 ⟨rfl, v3, hW3, hT3⟩
          rw [HO.out.co HI.out] at hW3
          obtain ⟨ho3, hof3, hvB3, hbl3⟩ := I.write ⟨HG1.out, hg2⟩ (Nat.le_refl B) hBo hW3 hT3
          have hb3 : Below w.heap.size w w3 := hb1.trans (hbl3.mono (by omega))
          obtain ⟨b0, o0, rfl, hbw0, hc0⟩ := (hR.below hb3).at_ (k := sn) (by rw [iv_len, HN.out]; exact hg1)
          have e0 := hc0 sn _ (ivs_get HG1.out)
          have hs0 : (0 : Int) ≤ (sn : Int) := by omega
          have hs1 : (sn : Int) < (n : Int) := by omega
          have d3 : decide ((0 : Int) < ls.getD sn 0) = true := decide_eq_true hg2
          have hsl := (co_len ls C sn)
          have HSL := Lib.hid hsl
          have hsz := I.sz_
          have HSZ := Lib.hid hsz
          clear hc0 hsl hsz
          generalize hlq : ls.getD sn 0 = lv at *
          have HLQ := Lib.hid hlq
          have hszb : 0 ≤ size ∧ size ≤ 100000 := by rw [HSZ.out]; omega
          clear hlq
          have hpv := I.put
          obtain ⟨Ap_, cp_, hpe, _, _, _⟩ := own_sliceN hpv
          subst hpe
          go_upto_region 18 with fail
          have hba : Below w3.heap.size w3 (w3.alloc (.cells #[.int .i64 (sn : Int)] 3)) := (Below.refl _ _).alloc (Nat.le_refl _) _
          have hoa := own_keepN ho3 hba
          have hsza : B ≤ (w3.alloc (.cells #[.int .i64 (sn : Int)] 3)).heap.size := by have := hbl3.size; have := HW1.out; have := hba.size; omega
          go_upto_region 19 with (at_builtin; refine wpList_appN _ rfl (.tmp 95) (.tmp 97) 24 rfl Try.underlying24 hi0 hz0 hz1 hz2 rfl (by omega) hoa rfl rfl (Rd.newN w3 3 [.int .i64 (sn : Int)]) rfl (by simp [Value.oneCell']) (by omega) (by omega) hsza ?_; intro v7 w7 hown7 hap7)
          have hb37 : Below B w3 w7 := (hba.mono (by have := hbl3.size; have := HW1.out; omega)).trans (hap7.below (fun b hb => (hoa.lt b hb).1) hsza)
          have e7 := (hb37.cell (p := ⟨b0, o0 + sn, none⟩) (by show b0 < B; have := HW1.out; omega)).trans e0
          have hWa := hW3.below hba
          have hW7 := hWa.keep hap7.fr (fun e => (hof3 _ e).2 rfl) (fun b hb e => (hof3 b e).1 hb)
          have hof7 : ∀ b, v7.ownBlock = some b → v3.ownBlock ≠ some b ∧ b ≠ B := fun b hb => by
            rcases hap7.row b hb with h1 | h1
            · exact hof3 b h1
            · have h2 := hba.size
              refine ⟨fun e => ?_, ?_⟩
              · have := (hW3.own.lt b e).2; omega
              · have := hW3.lt; omega
          clear hoa e0
          go_wp2
          go_roundw
          case rel =>
            refine ⟨k + 1, size + lv, P ++ [sn], v3, by omega, by go_num, rfl, ⟨fun t ht => ?_, by simp; omega, by rw [flat_snoc]; exact hW7, ?_, ?_, hof7, hvB3, hbl3.trans (hb37.mono (Nat.le_refl _))⟩⟩
            · rcases List.mem_append.1 ht with ht | ht
              · exact I.wn t ht
              · simp only [List.mem_singleton] at ht
                subst ht
                exact ⟨HG1.out, by rw [HLQ.out]; exact hg2⟩
            · rw [flat_snoc, List.length_append, HSL.out, HSZ.out]; omega
            · rw [nv_app, List.length_append]; exact hown7
          case measure => simp [intOf]; omega
        · have d3 : (decide (0 ≤ s) = false) ∨ (0 ≤ s ∧ decide (s < (n : Int)) = false) ∨ ∃ sn : Nat, s = (sn : Int) ∧ sn < n ∧ ls.getD sn 0 ≤ 0 := by
            by_cases g0 : 0 ≤ s
            · by_cases g1 : s < (n : Int)
              · obtain ⟨sn, rfl⟩ := Int.eq_ofNat_of_zero_le g0
                refine .inr (.inr ⟨sn, rfl, by omega, Int.not_lt.1 (fun g2 => hg ⟨g0, by rw [HN.out]; exact g1, by rw [Int.toNat_natCast]; exact g2⟩)⟩)
              · exact .inr (.inl ⟨g0, decide_eq_false g1⟩)
            · exact .inl (decide_eq_false g0)
          have HG := Lib.hid hg
          clear hg
          rcases d3 with d3 | ⟨g0, d3⟩ | ⟨sn, rfl, g1, g2⟩
          · go_wp2_with fail
            refine (write_bad _ p ls _ C s wo (hK.keep I.bl).get HV.out (.inl HG.out)).mono ?_; rintro e w3 ⟨rfl, rfl⟩
            unfold errV
            go_wp2_with fail
            refine (is_err 6 6 (by omega) _).mono ?_; rintro e w' ⟨rfl, rfl⟩
            go_wp2
            go_roundw
            case rel => exact ⟨k + 1, size, P, v, by omega, by go_num, rfl, ⟨I.wn, by omega, I.wr_, I.sz_, I.put, I.off, I.vB, I.bl⟩⟩
            case measure => simp [intOf]; omega
          · go_wp2_with fail
            refine (write_bad _ p ls _ C s wo (hK.keep I.bl).get HV.out (.inl HG.out)).mono ?_; rintro e w3 ⟨rfl, rfl⟩
            unfold errV
            go_wp2_with fail
            refine (is_err 6 6 (by omega) _).mono ?_; rintro e w' ⟨rfl, rfl⟩
            go_wp2
            go_roundw
            case rel => exact ⟨k + 1, size, P, v, by omega, by go_num, rfl, ⟨I.wn, by omega, I.wr_, I.sz_, I.put, I.off, I.vB, I.bl⟩⟩
            case measure => simp [intOf]; omega
          · obtain ⟨b0, o0, rfl, hbw0, hc0⟩ := (hR.below hbo).at_ (k := sn) (by rw [iv_len, HN.out]; exact g1)
            have e0 := hc0 sn _ (ivs_get (by rw [HN.out]; exact g1))
            have hs0 : (0 : Int) ≤ (sn : Int) := by omega
            have hs1 : (sn : Int) < (n : Int) := by omega
            have d3 : decide ((0 : Int) < ls.getD sn 0) = false := decide_eq_false (by omega)
            clear hc0
            generalize ls.getD sn 0 = lv at *
            go_wp2_with fail
            refine (write_bad _ p ls _ C (sn : Int) wo (hK.keep I.bl).get HV.out (.inl HG.out)).mono ?_; rintro e w3 ⟨rfl, rfl⟩
            unfold errV
            go_wp2_with fail
            refine (is_err 6 6 (by omega) _).mono ?_; rintro e w' ⟨rfl, rfl⟩
            go_wp2
            go_roundw
            case rel => exact ⟨k + 1, size, P, v, by omega, by go_num, rfl, ⟨I.wn, by omega, I.wr_, I.sz_, I.put, I.off, I.vB, I.bl⟩⟩
            case measure => simp [intOf]; omega
      · have hkn : k = n2 := by omega
        have hsz := I.sz_
        subst hsz
        clear hkn
        have hfull : bitsOf h (pack h (full h (P.flatMap (co ls C)))) = full h (P.flatMap (co ls C)) := bitsOf_pack h _ _ (full_01 I.wr_.b01) (full_len h _)
        have HFU := Lib.hid hfull
        have hpbs : Bs (pack h (full h (P.flatMap (co ls C)))) := pack_bs (full_01 I.wr_.b01)
        have HPB := Lib.hid hpbs
        have hpl : (pack h (full h (P.flatMap (co ls C)))).length = nby (P.flatMap (co ls C)).length := by
          rw [pack_len, full_len]; simp only [nby]; omega
        have HPL := Lib.hid hpl
        have hnb : nby (P.flatMap (co ls C)).length ≤ 10000 := by unfold nby; omega
        have hput := I.put
        obtain ⟨Ap_, cp_, hpe, _, _, hRp⟩ := own_sliceN hput
        subst hpe
        clear hfull hpbs hpl hput
        go_wp2_with fail
        refine (wlen_any B h v (P.flatMap (co ls C)) wo I.wr_).mono ?_; rintro e w' ⟨rfl, rfl⟩
        go_wp2_with fail
        refine (bytes_any B h v (P.flatMap (co ls C)) wo I.wr_ (by omega)).mono ?_; rintro e w4 ⟨v4, rfl, ho4, hb4⟩
        have hs4 := hb4.size
        obtain ⟨A4, c4, rfl, hR4⟩ := own_slice ho4
        generalize hpk : pack h (full h (P.flatMap (co ls C))) = PB at *
        generalize hnbq : nby (P.flatMap (co ls C)).length = nb at *
        have HPK := Lib.hid hpk
        clear hpk hnbq ho4
        go_wp2_with fail
        refine (newReader_any A4 nb c4 h PB w4 HPL.out hR4 HPB.out (by omega)).mono ?_; rintro e w5 ⟨rp, Ar, cr, rfl, hx5, hrp5, _, hb5⟩
        have hb45 := hb4.trans (hb5.mono hs4)
        have hs5 := hb45.size
        have hbo5 := hbo.trans (hb45.mono hbo.size)
        have hrpo : wo.heap.size ≤ rp := by omega
        clear hR4 hb4 hb5
        go_wp2
        go_loopw [116] (fun i wr => ∃ j : Nat, j ≤ P.length ∧ i = .int .i64 j ∧ Re wr rp h Ar cr PB (((P.take j).flatMap (co ls C)).length) ∧ Fp rp w5 wr) (fun i _ => P.length - (intOf i).toNat)
        case atStart => exact ⟨0, Nat.zero_le _, rfl, hx5, Fp.refl _ _⟩
        case round =>
          obtain ⟨j, hj, rfl, hx, hf⟩ := hrel
          have hbr := hb45.trans (hf.below hrpo hs5)
          by_cases hjl : j < P.length
          · obtain ⟨s, hs⟩ : ∃ s, P[j]? = some s := ⟨P[j], List.getElem?_eq_getElem hjl⟩
            obtain ⟨hs1, hs2⟩ := I.wn s (List.mem_of_getElem? hs)
            obtain ⟨i, hi, _⟩ := ord_get HV.out hs1 hs2
            obtain ⟨r, hr1, hr2⟩ := flat_split ls C hs
            have hdrop : (bitsOf h PB).drop ((P.take j).flatMap (co ls C)).length = cb (sz ls (ordU ls 16)) i ++ (r ++ List.replicate (pad (P.flatMap (co ls C)).length) (fill1 h)) := by
              rw [HFU.out]
              unfold full
              rw [HO.out.co hi]
              conv => lhs; rw [hr1]
              rw [List.append_assoc, List.drop_left', List.append_assoc, ← hr1]
              rfl
            obtain ⟨bp, op, hpe, _, hcp⟩ := (hRp.below hbr).at_ (k := j) (by rw [nv_len]; exact hjl)
            subst hpe
            have ep := hcp j _ (nv_get hs)
            have hj0 : (0 : Int) ≤ (j : Int) := by omega
            have hj1 : (j : Int) < (P.length : Int) := by omega
            have hrd := rd_code (syms := sy (ordU ls 16)) HO.out.zs (HO.out.lenZ hi).1 (r ++ List.replicate (pad (P.flatMap (co ls C)).length) (fill1 h))
            rw [← hdrop, sy_at hi, HO.out.co hi] at hrd
            have hr2' := hr2
            have HRD := Lib.hid hrd
            have HR2 := Lib.hid hr2'
            have hdl := Lib.hid hdrop
            clear hcp hrd hr2 hr2' hdrop hr1 hi hs
            go_wp2_with fail
            refine (read_any (hK.keep (I.bl.trans (hbr.mono hBo))) HO.out (by omega) hx (by rw [HPL.out]; omega)).mono ?_; rintro e w6 ⟨sym, nn, err, hRd, rfl, hx6, hf6⟩
            obtain ⟨rfl, rfl, rfl⟩ := RdS.uniq HO.out.zs ((bitsOf_01 h PB).drop _) HRD.out hRd
            clear hRd
            rw [show errE 0 = .nilIface from rfl]
            go_wp2
            go_roundw
            case rel => exact ⟨j + 1, by omega, by go_num, by rw [HR2.out]; exact hx6, hf.trans hf6⟩
            case measure => simp [intOf]; omega
          · have hbr2 := hbo5.trans (hf.below (B := w.heap.size) (by have := hbo.size; omega) hbo5.size)
            have hsr := hbr2.size
            clear hx
            go_wp2_with fail
            refine (example_any _).mono ?_; rintro e w7 ⟨rfl, hR7, hb7⟩
            go_wp2_with fail
            refine (newBook_any _ 8 8 exL w7 rfl hR7 ex_is).mono ?_; rintro e w8 ⟨h3, _, hb8⟩
            obtain ⟨p1, C1, rfl, hB1, hC1, hp1⟩ := h3 ex_fm
            clear h3 hR7
            have hb8' := hb7.trans (hb8.mono hb7.size)
            go_wp2_with fail
            refine (length_any p1 exL _ C1 6 w8 hB1 ex_fm.2.1).mono ?_; rintro e w9 ⟨rfl, rfl⟩
            rw [show lenL exL 6 = 4 from by decide +kernel]
            go_wp2
            go_ret
            exact ⟨rfl, hbr2.trans (hb8'.mono hsr)⟩
  · obtain rfl := h4 hf
    clear h3 h4 hf
    unfold errV
    go_wp2_with fail
    refine (example_any _).mono ?_; rintro e w7 ⟨rfl, hR7, hb7⟩
    go_wp2_with fail
    refine (newBook_any _ 8 8 exL w7 rfl hR7 ex_is).mono ?_; rintro e w8 ⟨h3, _, hb8⟩
    obtain ⟨p1, C1, rfl, hB1, hC1, hp1⟩ := h3 ex_fm
    clear h3 hR7
    have hb8' := hb7.trans (hb8.mono hb7.size)
    go_wp2_with fail
    refine (length_any p1 exL _ C1 6 w8 hB1 ex_fm.2.1).mono ?_; rintro e w9 ⟨rfl, rfl⟩
    rw [show lenL exL 6 = 4 from by decide +kernel]
    go_wp2
    go_ret
    exact ⟨rfl, hb1.trans (hb8'.mono hs1)⟩
namespace CanonBack
set_option maxRecDepth 100000 in
theorem contract (H : Type) (enc : TypeId × Value → H) (W : World) (base : Nat) (args : Array Value) (ds gs : List (DataW H)) (before : List MemPlace)
    (hval : ∀ (j : Nat) t v, Try.f14.params[j]? = some t → args[j]? = some v → Value.okWide Try.prog W .any base t v)
    (hW : DataW.Whole enc Try.prog Try.f14.params.toList Rows.canonBackSpec.vars false W args.toList ds gs before) :
    Calls Try.prog 14 args W fun e W' => ∃ v, e = .returned v ∧ Rows.canonBackSpec.post enc Try.prog Try.f14 false true false false W args v W' := by
  have hW' := hW
  obtain ⟨p, q, hA0, hV, rfl, hfz, hnd⟩ := hW
  have hA : DataW.TrodAll enc Try.prog W 0 (fun _ => true) true Try.f14.params.toList args.toList ds p := hA0
  rw [Try.params14] at hA hval
  clear hA0
  obtain ⟨v0, vs0, d0, ds0, p0, q0, hargs, rfl, rfl, h0, r0⟩ := trodAll_cons hA
  obtain ⟨v1, vs1, d1, ds1, p1, q1, rfl, rfl, rfl, h1, r1⟩ := trodAll_cons r0
  obtain ⟨v2, vs2, d2, ds2, p2, q2, rfl, rfl, rfl, h2, r2⟩ := trodAll_cons r1
  obtain ⟨rfl, rfl, rfl⟩ := trodAll_nil r2
  obtain rfl : args = #[v0, v1, v2] := by cases args; simp_all
  obtain ⟨rfl, rfl⟩ := trodVars_none hV
  obtain ⟨Ax0, nx0, cx0, rfl⟩ := okWide_slice Try.underlying24 (hval 0 _ _ rfl rfl)
  obtain ⟨fu0, hf0⟩ := h0
  obtain ⟨A', n', c', x0, ev0, hnx0, hcx0, hmx0, hRx0, hwx0⟩ := open_rd Try.underlying24 Try.underlying3 (by kernel_rfl) hf0
  injection ev0 with ea eb ec
  subst ea eb ec
  obtain ⟨Ax1, nx1, cx1, rfl⟩ := okWide_slice Try.underlying24 (hval 1 _ _ rfl rfl)
  obtain ⟨fu1, hf1⟩ := h1
  obtain ⟨A', n', c', x1, ev1, hnx1, hcx1, hmx1, hRx1, hwx1⟩ := open_rd Try.underlying24 Try.underlying3 (by kernel_rfl) hf1
  injection ev1 with ea eb ec
  subst ea eb ec
  obtain ⟨x2, rfl, rfl, rfl⟩ := open_bool Try.underlying4 (hval 2 _ _ rfl rfl) h2
  refine (canonBack_any W Ax0 nx0 cx0 x0 hnx0 hcx0 hmx0 hRx0 (wf_is hwx0) Ax1 nx1 cx1 x1 hnx1 hcx1 hmx1 hRx1 (wf_is hwx1) x2).mono fun e W' ⟨he, hb⟩ => ?_
  subst he
  exact ⟨_, rfl, post_true Facts.laid hW' rfl rfl Try.underlying4 (by kernel_rfl) rfl hb⟩

set_option maxRecDepth 100000 in
theorem lifted (os : Os) (started : os.Started) (H : Type) (enc : TypeId × Value → H) :
    ReturnsInHanded {} Try.checked os 14 .any (Rows.canonBackSpec.pre6 enc Try.prog Try.f14 Rows.canonBackRow.domain false) (Rows.canonBackSpec.post enc Try.prog Try.f14 false true false false) := by
  refine returnsInHanded_of_change (C := Try.checked) Facts.own started (by kernel_rfl) Try.func14
    (ChangeSpec.witness6 (enc := enc) (C := Try.checked) (os := os) false ⟨#[], #[.slice none 0 0, .slice none 0 0, .bool false], []⟩ 8 (by kernel_rfl) (by kernel_rfl) (by kernel_rfl) (by kernel_rfl)) ?_
  intro W base args ds gs before hval hW _ _
  exact contract H enc W base args ds gs before hval hW

theorem k_wf : Rows.canonBackRow.wf (OpenSpec.ofChange Rows.canonBackSpec) = true := by kernel_rfl
theorem k_inp : (Rows.canonBackRow.inPlace == Try.prog.inPlace 14) = true := by kernel_rfl
theorem k_unf : (Rows.canonBackRow.unfollowed == Try.prog.unfollowed 14) = true := by kernel_rfl
theorem k_rec : (Rows.canonBackRow.recurses == Try.prog.recurses 14) = true := by kernel_rfl
theorem k_nam : (Rows.canonBackRow.named == Try.prog.varsNamed 14) = true := by kernel_rfl
theorem k_pk : (Rows.canonBackRow.plainKeys == Try.prog.plainKeys) = true := (congrArg (fun x => Rows.canonBackRow.plainKeys == x) Facts.plainKeys).trans (by kernel_rfl)
theorem k_lf : (Rows.canonBackRow.lifted == Try.prog.liftsFinal) = true := (congrArg (fun x => Rows.canonBackRow.lifted == x) Facts.liftsFinal).trans (by kernel_rfl)
theorem k_mk : (Try.prog.make == some Rows.canonBackRow.make) = true := (congrArg (fun x => x == some Rows.canonBackRow.make) Facts.make).trans (by kernel_rfl)
theorem k_par : (Try.f14.params.all (Try.prog.readableRec ·)) = true := by kernel_rfl
theorem k_maps : (Rows.canonBackRow.maps == (Try.f14.params.toList ++ Rows.canonBackSpec.plain.varTypes Try.prog).any (Try.prog.mapsRec ·)) = true := by kernel_rfl
theorem k_ifs : (Rows.canonBackRow.ifaces == (Try.f14.params.toList ++ Rows.canonBackSpec.plain.varTypes Try.prog).any (Try.prog.ifacesRec ·)) = true := by kernel_rfl
theorem k_lps : (Rows.canonBackRow.loops == (Try.f14.params.toList ++ Rows.canonBackSpec.plain.varTypes Try.prog).any (Try.prog.loopsFrom ·)) = true := by kernel_rfl
theorem k_wk : (Rows.canonBackRow.wideKeys == (Try.f14.params.toList ++ Rows.canonBackSpec.plain.varTypes Try.prog ++ Try.f14.resultTypes.toList).any (Try.prog.wideKeysFrom ·)) = true := by kernel_rfl
theorem k_vl : (Rows.canonBackRow.veiled == (Try.f14.params.toList ++ Rows.canonBackSpec.plain.varTypes Try.prog ++ Try.f14.resultTypes.toList).any (Try.prog.veiledRec ·)) = true := by kernel_rfl
theorem closed : joinedFacts Try.prog 14 Try.f14 Rows.canonBackSpec Rows.canonBackRow = true :=
  Facts.and_i (Facts.and_i (Facts.and_i (Facts.and_i (Facts.and_i (Facts.and_i (Facts.and_i (Facts.and_i (Facts.and_i (Facts.and_i (Facts.and_i (Facts.and_i (Facts.and_i (Facts.and_i (Facts.and_i (Facts.and_i (Facts.and_i (Facts.and_i (Facts.and_i (Facts.and_i (Facts.and_i (Facts.and_i (Facts.and_i (Facts.and_i (Facts.and_i (Facts.and_i (Facts.and_i (Facts.and_i (Facts.and_i (Facts.and_i (Facts.and_i
    k_wf Facts.laid) Facts.mapsRowed_) k_par) rfl) rfl) Facts.stops) rfl) Facts.stopKnobs) k_inp) k_unf) k_rec) k_nam) k_maps) k_ifs) (by kernel_rfl)) k_lps) k_wk) rfl) (by kernel_rfl)) (by kernel_rfl)) (by kernel_rfl)) k_pk) rfl) Facts.stopsHeard) Facts.mayEnter) k_lf) k_mk) (by kernel_rfl)) (by kernel_rfl)) k_vl) (by kernel_rfl)
theorem named : Try.prog.funcNamed Rows.canonBackRow.func = some 14 := by kernel_rfl

theorem proved : Rows.CanonBackSaid :=
  OpenClaim.holds_of_wide 14 Try.f14 rfl rfl rfl rfl rfl rfl rfl ⟨rfl, rfl, rfl, rfl, rfl⟩ rfl rfl rfl rfl rfl named Try.func14 closed
    (of_decide_eq_true (by kernel_rfl)) (by unfold Func.isWrapper; first | (rw [if_pos (by decide +kernel)]; kernel_rfl) | (rw [if_neg (by decide +kernel)]; exact ⟨rfl, rfl⟩))
    (fun os started H enc _ => lifted os started H enc)
end CanonBack
#print axioms CanonBack.proved
end Go.Proofs.Ytlhappecjjbopaa
