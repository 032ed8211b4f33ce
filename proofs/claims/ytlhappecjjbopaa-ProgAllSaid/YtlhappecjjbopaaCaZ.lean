/-
  canon's NewTable, by a contract. Conditions: at most 600 symbols.
-/
import Derived.Test.YtlhappecjjbopaaCaY
import Derived.Test.YtlhappecjjbopaaCbH
import Derived.Deep.MidRow
namespace Go.Proofs.Ytlhappecjjbopaa
open Go.RowKit
set_option linter.unusedVariables false
set_option maxRecDepth 100000

theorem Try.info_arr16 : (Try.prog.info? 84).map (·.size) = some 16 := by kernel_rfl
theorem Bln.range {w : World} {p : Nat} {t : TypeId} {xs : List Value} (h : Bln w p t xs) (o : Nat) (cs : List Value) (hc : ∀ j v, cs[j]? = some v → xs[o + j]? = some v) : w.rangeAt p o cs := fun j v hv => h.cell (hc j v hv)
/-- cells of a list are written over from an index on -/
def setR : List Value → Nat → List Value → List Value
  | xs, _, [] => xs
  | xs, o, v :: r => setR (xs.set o v) (o + 1) r
theorem setR_len : ∀ (vs xs : List Value) (o : Nat), (setR xs o vs).length = xs.length
  | [], xs, o => rfl
  | v :: r, xs, o => by rw [setR, setR_len r, List.length_set]
theorem setR_get : ∀ (vs xs : List Value) (o i : Nat), o + vs.length ≤ xs.length → (setR xs o vs)[i]? = if o ≤ i ∧ i < o + vs.length then vs[i - o]? else xs[i]?
  | [], xs, o, i, _ => by rw [setR, if_neg (by simp)]
  | v :: r, xs, o, i, h => by
    rw [List.length_cons] at h
    rw [setR, setR_get r (xs.set o v) (o + 1) i (by rw [List.length_set]; omega), List.length_cons]
    by_cases h1 : i = o
    · subst h1
      rw [if_neg (by omega), if_pos (by omega), List.getElem?_set_self (by omega), Nat.sub_self]; rfl
    · by_cases h2 : o + 1 ≤ i ∧ i < o + 1 + r.length
      · rw [if_pos h2, if_pos (by omega), show i - o = i - (o + 1) + 1 by omega]; rfl
      · rw [if_neg h2, if_neg (by omega), List.getElem?_set_ne (fun e => h1 e.symm)]
theorem setR_all {xs vs : List Value} (h : vs.length = xs.length) : setR xs 0 vs = vs := by
  refine List.ext_getElem? (fun i => ?_)
  rw [setR_get vs xs 0 i (by omega)]
  split
  · rfl
  · rw [List.getElem?_eq_none (by omega), List.getElem?_eq_none (by omega)]
theorem Bln.sets {p : Nat} {t : TypeId} : ∀ (vs : List Value) (o : Nat) {w : World} {xs : List Value}, Bln w p t xs → Bln (w.setCells p o vs) p t (setR xs o vs)
  | [], _, _, _, h => h
  | v :: r, o, _, _, h => Bln.sets r (o + 1) (h.set o v)
theorem Fr.sets {S : Nat → Prop} {a : World} {p : Nat} (hp : S p ∨ a.heap.size ≤ p) : ∀ (vs : List Value) (o : Nat) {w : World}, Fr S a w → Fr S a (w.setCells p o vs)
  | [], _, _, h => h
  | v :: r, o, _, h => Fr.sets hp r (o + 1) (h.setCell (p := ⟨p, o, none⟩) hp v)
theorem Bln.there {w : World} {p : Nat} {t : TypeId} {xs : List Value} (h : Bln w p t xs) (n : Nat) (hn : n ≤ xs.length) : w.there p 0 n := fun j hj => by
  rw [Nat.zero_add]
  exact ⟨by rw [h.cell (List.getElem?_eq_getElem (show j < xs.length by omega))]; rfl, h.fz (by omega)⟩
/-- a variable of several cells that is made and filled at once -/
theorem Bln.copy (w : World) (t : TypeId) (zs cs : List Value) (hz : zs.length = cs.length) : Bln ((w.alloc (.cells zs.toArray t)).setCells w.heap.size 0 cs) w.heap.size t cs ∧ Below w.heap.size w ((w.alloc (.cells zs.toArray t)).setCells w.heap.size 0 cs) := by
  have h := (Bln.new w t zs).sets cs 0
  rw [setR_all hz.symm] at h
  refine ⟨h, ?_⟩
  have hf : Fr (fun _ => False) w ((w.alloc (.cells zs.toArray t)).setCells w.heap.size 0 cs) := Fr.sets (.inr (Nat.le_refl _)) cs 0 ((Fr.refl _ w).alloc _)
  exact hf.below (fun _ _ f => f) (Nat.le_refl _)
/-- an array of integers, at an index -/
theorem run_index_ints (t e : TypeId) (N : Nat) (ht : Try.prog.underlying t = some (.array N e)) (he : Try.prog.underlying e = some (.int .i64)) (hs : (Try.prog.info? e).map (fun i => (i.zero, i.size, i.bytes)) = some (some (.int .i64 0), 1, 8)) (l : List Int) (hl : l.length = N) (k : Nat) (hk : k < N) (W : World) :
    (Instr.index t (.agg (iv l).toArray) (.int .i64 (k : Int))).run Try.prog W = .ok (.int .i64 (l.getD k 0)) W := by
  obtain ⟨i0, hi, hz0, hz1, hz2⟩ := info_parts hs
  have h0 : (0 : Int) ≤ (k : Int) := by omega
  have h1 : (k : Int) < (N : Int) := by omega
  have hg := ivs_get (l := l) (i := k) (by omega)
  have hsz : (sizeOf e).run Try.prog W = .ok 1 W := by simp [sizeOf, typeInfo, hi, hz1]
  unfold Instr.index
  simp only [asIntOf, Sem.run_bind, Sem.run_pure, Result.andThen_ok, run_underlying ht]
  rw [if_pos ⟨h0, h1⟩]
  simp only [Sem.run_bind, hsz, Result.andThen_ok, Int.toNat_natCast, Nat.mul_one]
  unfold Go.part
  simp [isAgg, run_underlying he, hg, go_sem]

/-- a table in the making, in the heap -/
structure TW (g : Nat) (cn ss : List Int) (i k : Nat) (v : Value) (w : World) (ls : List Int) (O : List Nat) : Prop where
  tb : Tb cn ss i k ls O
  lr : w.ownsRow g 3 1 (.slice (some ⟨g, 0, none⟩) 256 256) 256 (iv ls)
  orow : w.ownsRow g 3 1 v O.length (nv O)
  off : v.ownBlock ≠ some g

def Tabled (cn ss : List Int) (w : World) (e : Ending) (w' : World) : Prop :=
  (TabOk cn ss → ∃ p ls O C, e = .returned (.tuple #[.pointer (some ⟨p, 0, none⟩), .nilIface]) ∧ BkL w' w.heap.size p ls O C ∧ Ordd ls O C ∧ Vl ls ∧ sy O = ss ∧ sz ls O = TzI cn 16 ∧ ∀ s, s ∉ O → ls.getD s 0 = 0) ∧
  (¬ TabOk cn ss → e = .returned (.tuple #[.pointer none, errV 6])) ∧ Below w.heap.size w w'

set_option maxHeartbeats 4000000 in
theorem newTable_any (A : Option Addr) (n c : Nat) (cn ss : List Int) (w : World) (hcn : cn.length = 16) (hIc : Is cn) (hn : ss.length = n) (hR : Rd w w.heap.size A (bv ss)) (hB : Bs ss) (hm : n ≤ 100000) :
    Calls Try.prog 55 #[.agg (iv cn ++ [Value.slice A n c]).toArray] w (Tabled cn ss w) := by
  have HN := Lib.hid hn
  have HCN := Lib.hid hcn
  have X := Bln.new w 86 (iv cn ++ [.slice A n c])
  have x16 := X.cell (i := 16) (u := .slice A n c) (by rw [List.getElem?_append_right (by rw [iv_len, hcn]; omega), iv_len, hcn]; rfl)
  clear hn hcn
  go_enter Try.func55, Try.ntmps55
  have hb0 : Below w.heap.size w (w.alloc (.cells (iv cn ++ [Value.slice A n c]).toArray 86)) := (Below.refl _ _).alloc (Nat.le_refl _) _
  have hR0 := (hR.below hb0).more hb0.size
  have hmk : ∀ W : World, (Instr.makeSlice 24 (.int .i64 256) (.int .i64 256)).run Try.prog W = .ok (.slice (some ⟨W.heap.size, 0, none⟩) 256 256) (W.alloc (.cells (iv (List.replicate 256 0)).toArray 3)) := make_ints 256 (by omega)
  go_upto_region 1 with fail
  generalize w.alloc (.cells (iv cn ++ [Value.slice A n c]).toArray 86) = w0 at *
  generalize hbp : w.heap.size = bp at *
  have HBP := Lib.hid hbp
  have hs0 := hb0.size
  have hxl := X.lt
  have hba : Below w0.heap.size w0 (w0.alloc (.cells (iv (List.replicate 256 0)).toArray 3)) := (Below.refl _ _).alloc (Nat.le_refl _) _
  have ho1 := own_ints w0 (List.replicate 256 0) (by rw [List.length_replicate]; omega)
  rw [List.length_replicate] at ho1
  have X1 := X.below hba
  have hb1 := hb0.trans (hba.mono (by omega))
  have y16 := X1.cell (i := 16) (u := .slice A n c) (by rw [List.getElem?_append_right (by rw [iv_len, HCN.out]; omega), iv_len, HCN.out]; rfl)
  have hra := X1.range 0 (iv cn) (fun j v hv => by rw [Nat.zero_add, List.getElem?_append_left (List.getElem?_eq_some_iff.1 hv).1]; exact hv)
  have hrep : (List.replicate 256 (0 : Int)) = List.replicate 256 0 := rfl
  clear hbp hrep
  generalize hz256 : List.replicate 256 (0 : Int) = Z256 at *
  have HZ := Lib.hid hz256
  clear hz256
  go_upto_region 3 with fail
  generalize w0.alloc (.cells (iv Z256).toArray 3) = w1 at *
  go_wp2_with (refine wpList_load_mid rfl 84 (.tmp 12) rfl _ _ rfl (iv cn) _ hra Try.underlying84 rfl (by rw [iv_len, HCN.out]; exact Try.info_arr16) ?_)
  generalize hg : w0.heap.size = g at *
  have HG := Lib.hid hg
  have hgb : bp < g := by omega
  have hrd1 := hR0.below hba
  have H1 : TW g cn ss 0 0 (.slice none 0 0) w1 Z256 [] := ⟨by rw [← HZ.out]; exact Tb.zero _ _, ho1, World.ownsRow_nil _ _ _ _, by simp [Value.ownBlock]⟩
  obtain ⟨i0, hi0, hz0, hz1, hz2⟩ := info_parts Try.info_int
  have hg0 : bp ≤ g := by omega
  have hbw : Below w.heap.size w w1 := by rw [HBP.out]; exact hb1
  have hgw : w.heap.size ≤ g := by rw [HBP.out]; exact hg0
  clear hg ho1 hb0 hR X1 X x16 hmk hs0 hxl hb1
  go_loopw [14, 5] (fun ix v wr => ∃ (i : Nat) (ls : List Int) (O : List Nat), i ≤ 16 ∧ ix = .int .i64 i ∧ TW g cn ss i 0 v wr ls O ∧ Below g w1 wr) (fun ix _ _ => 16 - (intOf ix).toNat)
  case atStart => exact ⟨0, Z256, [], Nat.zero_le _, rfl, H1, Below.refl _ _⟩
  case round =>
    obtain ⟨i, ls, O, hi, rfl, T, hb⟩ := hrel
    clear H1
    obtain ⟨wo, rfl⟩ : ∃ wo : World, wo = wr := ⟨_, rfl⟩
    have hOl := T.tb.le
    rw [HN.out] at hOl
    obtain ⟨Av, cv, hv, _, _, hRv⟩ := own_sliceN T.orow
    subst hv
    have z16 := (hb.cell (p := ⟨bp, 16, none⟩) hgb).trans y16
    by_cases h16 : i < 16
    · have hd16 : decide ((i : Int) < 16) = true := decide_eq_true (by omega)
      have hix := run_index_ints 84 3 16 Try.underlying84 Try.underlying3 Try.info_int cn HCN.out i h16
      have hci := hIc _ (getD_in (l := cn) (k := i) (by rw [HCN.out]; exact h16))
      generalize hcq : cn.getD i 0 = ci at *
      have HCQ := Lib.hid hcq
      clear hcq
      by_cases hneg : ci < 0
      · have hno := T.tb.neg h16 (by rw [HCQ.out]; exact hneg)
        have HNO := Lib.hid hno
        have dn : decide (ci < 0) = true := decide_eq_true hneg
        clear hno
        go_wp2
        go_ret2
        exact ⟨fun h => absurd h HNO.out, fun _ => rfl, hbw.trans (hb.mono hgw)⟩
      · have dn : decide (ci < 0) = false := decide_eq_false hneg
        by_cases hmany : (n : Int) - (O.length : Int) < ci
        · have hno := T.tb.many h16 (by rw [HCQ.out, HN.out]; exact hmany)
          have HNO := Lib.hid hno
          have dm : decide ((n : Int) - (O.length : Int) < ci) = true := decide_eq_true hmany
          clear hno
          go_wp2
          go_ret2
          exact ⟨fun h => absurd h HNO.out, fun _ => rfl, hbw.trans (hb.mono hgw)⟩
        · have dm : decide ((n : Int) - (O.length : Int) < ci) = false := decide_eq_false hmany
          obtain ⟨N, rfl⟩ := Int.eq_ofNat_of_zero_le (Int.not_lt.1 hneg)
          have hO0 := T.tb.len
          have HO0 := Lib.hid hO0
          have hNn : O.length + N ≤ n := by omega
          generalize hm0 : O.length = m0 at *
          have HM0 := Lib.hid hm0
          clear hneg hmany hO0 hm0
          go_wp2
          go_loopw [32, 5] (fun cx v wr => ∃ (k : Nat) (ls : List Int) (O : List Nat), k ≤ N ∧ cx = .int .i64 k ∧ TW g cn ss i k v wr ls O ∧ Below g w1 wr) (fun cx _ _ => N - (intOf cx).toNat)
          case atStart => exact ⟨0, ls, O, Nat.zero_le _, rfl, T, hb⟩
          case round =>
            clear T hb hRv z16 HM0
            obtain ⟨k, ls, O, hk, rfl, T, hb⟩ := hrel
            obtain ⟨wi, rfl⟩ : ∃ wi : World, wi = wr := ⟨_, rfl⟩
            obtain ⟨Aw, cw, hv, _, _, hRw⟩ := own_sliceN T.orow
            subst hv
            have z16 := (hb.cell (p := ⟨bp, 16, none⟩) hgb).trans y16
            by_cases hkN : k < N
            · have hOm : O.length < n := by have := T.tb.len; have := HO0.out; omega
              obtain ⟨y, hy⟩ : ∃ y, y = ss.getD O.length 0 := ⟨_, rfl⟩
              have hyb : 0 ≤ y ∧ y ≤ 255 := by rw [hy]; exact hB _ (getD_in (by rw [HN.out]; exact hOm))
              obtain ⟨s, rfl⟩ := Int.eq_ofNat_of_zero_le hyb.1
              have hss : ss[O.length]? = some (s : Int) := by
                rw [hy, List.getD_eq_getElem?_getD, List.getElem?_eq_getElem (by rw [HN.out]; exact hOm)]; rfl
              obtain ⟨bs, os, rfl, _, hcs⟩ := (hrd1.below (hb.mono (by omega))).at_ (k := O.length) (by rw [bv_len, HN.out]; exact hOm)
              have es := hcs O.length _ (bv_get (by rw [HN.out]; exact hOm))
              rw [← hy] at es
              have hlz := T.tb.ll
              have el := World.ownsRow.cellAt T.lr s (by omega)
              rw [ivs_get (by rw [hlz]; omega)] at el
              have hfz := World.ownsRow.frozenAt T.lr s
              have hm1 : (O.length : Int) < (n : Int) := by omega
              have hm2 : (0 : Int) ≤ (O.length : Int) := by omega
              have hs0 : (0 : Int) ≤ (s : Int) := by omega
              have hs1 : (s : Int) < 256 := by omega
              have hw8 : IntKind.i64.wrap (s : Int) = (s : Int) := IntWalk.i64_in _ (by omega)
              have HSS := Lib.hid hss
              have hvl := T.tb.vl _ (getD_in (l := ls) (k := s) (by rw [hlz]; omega))
              clear hy hcs hss hlz
              generalize hlq : ls.getD s 0 = lv at *
              have HLQ := Lib.hid hlq
              clear hlq
              by_cases hd : 0 < lv
              · have hno := T.tb.dup HSS.out (by rw [HLQ.out]; exact hd)
                have HNO := Lib.hid hno
                have dl : decide (0 < lv) = true := decide_eq_true hd
                clear hno
                go_wp2
                go_ret2
                exact ⟨fun h => absurd h HNO.out, fun _ => rfl, hbw.trans (hb.mono hgw)⟩
              · have dl : decide (0 < lv) = false := decide_eq_false hd
                have htb := T.tb.step h16 HSS.out (by omega) (by rw [HLQ.out]; omega)
                have HTB := Lib.hid htb
                have HLR := Lib.hid (own_set T.lr s ((i : Int) + 1))
                have HOR := Lib.hid (ownsRow_setCell_other T.orow (a := ⟨g, s, none⟩) T.off (.int .i64 ((i : Int) + 1)))
                have hbs : Below g w1 (wi.setCell ⟨g, s, none⟩ (.int .i64 ((i : Int) + 1))) := hb.setCell (Nat.le_refl _) _
                have hoff := T.off
                have hmm : O.length ≤ 100000 := by omega
                have hgl := (T.lr.lt g rfl).2
                clear htb
                go_upto_region 14 with fail
                generalize wi.setCell ⟨g, s, none⟩ (.int .i64 ((i : Int) + 1)) = w3 at *
                have hba : Below w3.heap.size w3 (w3.alloc (.cells #[.int .i64 (s : Int)] 3)) := (Below.refl _ _).alloc (Nat.le_refl _) _
                have hoa := own_keepN HOR.out hba
                have hg3 := (HLR.out.lt g rfl).2
                have hsza : g ≤ (w3.alloc (.cells #[.int .i64 (s : Int)] 3)).heap.size := by have := hba.size; omega
                go_wp2_with (at_builtin; refine wpList_appN _ rfl (.tmp 52) (.tmp 54) 24 rfl Try.underlying24 hi0 hz0 hz1 hz2 rfl (by omega) hoa rfl rfl (Rd.newN w3 3 [.int .i64 (s : Int)]) rfl (by simp [Value.oneCell']) (by omega) (by omega) hsza ?_; intro v7 w7 hown7 hap7)
                go_roundw
                case rel =>
                  have hb7 : Below g w1 w7 := hbs.trans ((hba.mono (by omega)).trans (hap7.below (fun b hb => (hoa.lt b hb).1) hsza))
                  refine ⟨k + 1, _, O ++ [s], by omega, by go_num, ⟨HTB.out, ?_, ?_, fun e => ?_⟩, hb7⟩
                  · have h1 := hap7.fr.own (own_keep HLR.out hba) (fun b hb e => by
                      have h2 : g = b := Option.some.inj hb
                      rw [← h2] at e
                      exact hoff e)
                    rw [show (((i + 1 : Nat)) : Int) = (i : Int) + 1 by omega]
                    exact h1
                  · rw [nv_app, List.length_append]; exact hown7
                  · rcases hap7.row g e with h1 | h1
                    · exact hoff h1
                    · have := hba.size; omega
                case measure => simp [intOf]; omega
            · have hkN' : k = N := by omega
              have htb : Tb cn ss (i + 1) 0 ls O := by
                have h := T.tb
                rw [hkN'] at h
                exact Tb.next (by rw [HCQ.out, Int.toNat_natCast]; exact h) (by rw [HCQ.out]; omega)
              have HTB := Lib.hid htb
              clear hkN' htb
              go_wp2
              go_roundw
              case rel => exact ⟨i + 1, ls, O, by omega, by go_num, ⟨HTB.out, T.lr, T.orow, T.off⟩, hb⟩
              case measure => simp [intOf]; omega
    · have hi16 : i = 16 := by omega
      have hd16 : decide ((i : Int) < 16) = false := decide_eq_false (by omega)
      have htb : Tb cn ss 16 0 ls O := by have h := T.tb; rw [hi16] at h; exact h
      have HTB := Lib.hid htb
      have hll := T.tb.ll
      have HLL := Lib.hid hll
      have hIl : Is ls := fun x hx => by have := T.tb.vl x hx; omega
      have hRl := Rd.of_own T.lr
      have hvl := Lib.hid T.tb.vl
      clear hi16 htb hll
      go_wp2_with fail
      refine (free_any (some ⟨g, 0, none⟩) 256 256 ls wo.heap.size wo HLL.out hRl hIl).mono ?_; rintro e w4 ⟨h1, h2, rfl⟩
      have HHN := HN.out
      by_cases hf : Fm ls
      · obtain rfl := h1 hf
        have hkr := hf.2.2
        clear h1 h2 HHN
        by_cases hfew : O.length < n
        · have hno := HTB.out.few (by rw [HN.out]; exact hfew)
          have HNO := Lib.hid hno
          have df : decide (O.length < n) = true := decide_eq_true hfew
          clear hno
          go_wp2
          go_ret2
          exact ⟨fun h => absurd h HNO.out, fun _ => rfl, hbw.trans (hb.mono hgw)⟩
        · have df : decide (O.length < n) = false := decide_eq_false hfew
          have hOn : O.length = ss.length := by rw [HN.out]; omega
          have HON := Lib.hid hOn
          have HF := Lib.hid hf
          have h0kr := kr_bd hf.2.1
          clear hOn hf
          generalize hkq : kr ls = kk at *
          have HKQ := Lib.hid hkq
          have hkl : kk ≤ 32768 * 256 := by have := h0kr.2; rw [HLL.out] at this; omega
          have hk0 := h0kr.1
          clear hkq h0kr
          by_cases hfull : kk < 65536
          · have hok := HTB.out.ok HON.out (by rw [HKQ.out]; exact hfull)
            have HOK := Lib.hid hok
            have hO0 := HTB.out.ord0 (by rw [HKQ.out]; omega)
            have HO0 := Lib.hid hO0
            have d0 : (65536 - kk == 0) = false := by simp; omega
            have hOl5 := hO0.len
            clear hok hO0
            go_wp2_with fail
            refine (bindL_any w.heap.size (fun C => Ordd ls O C) (some ⟨g, 0, none⟩) Av 256 256 O.length cv ls O wo HLL.out hRl (by omega) rfl hRv (by omega) (by have := hb.size; have := hbw.size; omega) (fun a ha => by have := (T.orow.lt a.block (by rw [ha]; rfl)).1; omega) (fun s hs => by have := HO0.out.mem s hs; rw [HLL.out] at this; exact this) (fun C hC => ⟨by rw [hC.cln, HLL.out], fun s => by have := hC.bd s; omega⟩) (fun W h1 h2 => assignG_any (some ⟨g, 0, none⟩) Av 256 256 O.length cv ls O W HLL.out h1 HO0.out rfl h2)).mono ?_; rintro e w5 ⟨p, C, rfl, hBk, hC, hp, hb5⟩
            go_wp2
            go_ret2
            exact ⟨fun _ => ⟨p, ls, O, C, rfl, hBk, hC, hvl.out, HTB.out.syms HON.out, by rw [HTB.out.szz, TzK_zero], HTB.out.zr⟩, fun h => absurd HOK.out h, hbw.trans ((hb.mono hgw).trans (hb5.mono (by have := hb.size; have := hbw.size; omega)))⟩
          · have hno : ¬ TabOk cn ss := fun h => by
              have h1 := h.2.2.2
              rw [← HTB.out.sum, HKQ.out] at h1
              exact hfull h1
            have HNO := Lib.hid hno
            have d0 : (65536 - kk == 0) = true := by simp; omega
            clear hno
            go_wp2
            go_ret2
            exact ⟨fun h => absurd h HNO.out, fun _ => rfl, hbw.trans (hb.mono hgw)⟩
      · obtain rfl := h2 hf
        have hno : ¬ TabOk cn ss := fun h => hf ⟨by rw [HLL.out]; omega, hvl.out, by rw [HTB.out.sum]; have := h.2.2.2; omega⟩
        have HNO := Lib.hid hno
        clear h1 h2 HHN hno hf
        unfold errV
        go_wp2
        go_ret2
        exact ⟨fun h => absurd h HNO.out, fun _ => rfl, hbw.trans (hb.mono hgw)⟩
end Go.Proofs.Ytlhappecjjbopaa
