/-
  CanonTables: which JPEG's codes are in form, and what bits come to by them. No condition.
-/
import Derived.Test.YtlhappecjjbopaaCbA
import Derived.Test.YtlhappecjjbopaaCopy
import Derived.Test.YtlhappecjjbopaaCaP
import Derived.Test.YtlhappecjjbopaaFacts
import Derived.Test.YtlhappecjjbopaaArr
namespace Go.Proofs.Ytlhappecjjbopaa
open Go.ChangeShapes Go.WideShapes Go.ChangeAt Go.WideMaps Go.WideElems Go.RowKit Go.Joins
set_option linter.unusedVariables false
set_option maxRecDepth 100000

set_option maxHeartbeats 2000000 in
theorem over_any (g n d m B : Nat) (l : List Int) (w : World) (ho : w.ownsRow B 5 1 (.slice (some ⟨g, 0, none⟩) m d) m (bv l)) (hn : n ≤ m) (hm : m ≤ 2000000) :
    Calls Try.prog 59 #[.slice (some ⟨g, 0, none⟩) n d] w fun e w' => e = .returned (.tuple #[]) ∧ Fr (fun k => k = g) w w' := by
  go_enter Try.func59, Try.ntmps59
  go_wp2
  go_loopw [5] (fun kx wr => ∃ (k : Nat) (l' : List Int), k ≤ n ∧ kx = .int .i64 k ∧ wr.ownsRow B 5 1 (.slice (some ⟨g, 0, none⟩) m d) m (bv l') ∧ Fr (fun k => k = g) w wr) (fun kx _ => n - (intOf kx).toNat)
  case atStart => exact ⟨0, l, Nat.zero_le _, rfl, ho, Fr.refl _ _⟩
  case round =>
    obtain ⟨k, l', hk, rfl, ho', hf⟩ := hrel
    clear ho
    by_cases hlt : k < n
    · have hll := ho'.1
      rw [bv_len, Nat.mul_one] at hll
      have e0 := World.ownsRow.cellAt ho' k (by omega)
      rw [bv_get (by omega)] at e0
      have hfz := World.ownsRow.frozenAt ho' k
      have hk0 : (0 : Int) ≤ (k : Int) := by omega
      have hk1 : (k : Int) < (n : Int) := by omega
      have HLL := Lib.hid hll
      clear hll
      generalize l'.getD k 0 = x at *
      have hst := fun z : Int => (World.ownsRow.stored ho' k (.int .u8 z)).1
      have HST := Lib.hid hst
      clear hst
      go_wp2
      go_roundw
      case rel => exact ⟨k + 1, l'.set k _, by omega, by go_num, by rw [show ∀ z, bv (l'.set k z) = (bv l').set k (.int .u8 z) from fun z => by simp [bv]]; exact HST.out _, hf.setCell (p := ⟨g, k, none⟩) (.inl rfl) _⟩
      case measure => simp [intOf]; omega
    · go_wp2
      go_end0
      exact ⟨rfl, hf⟩

/-- cells of a list are written over from an index on -/
def setR : List Value → Nat → List Value → List Value
  | xs, _, [] => xs
  | xs, o, v :: r => setR (xs.set o v) (o + 1) r
theorem setR_len : ∀ (vs xs : List Value) (o : Nat), (setR xs o vs).length = xs.length
  | [], xs, o => rfl
  | v :: r, xs, o => by rw [setR, setR_len r, List.length_set]
theorem setR_get : ∀ (vs xs : List Value) (o i : Nat), o + vs.length ≤ xs.length → (setR xs o vs)[i]? = if o ≤ i ∧ i < o + vs.length then vs[i - o]? else xs[i]?
  | [], xs, o, i, _ => by rw [setR, if_neg (by simp)]
  | v :: r, xs, o, i, h => by
    rw [List.length_cons] at h
    rw [setR, setR_get r (xs.set o v) (o + 1) i (by rw [List.length_set]; omega), List.length_cons]
    by_cases h1 : i = o
    · subst h1
      rw [if_neg (by omega), if_pos (by omega), List.getElem?_set_self (by omega), Nat.sub_self]; rfl
    · by_cases h2 : o + 1 ≤ i ∧ i < o + 1 + r.length
      · rw [if_pos h2, if_pos (by omega), show i - o = i - (o + 1) + 1 by omega]; rfl
      · rw [if_neg h2, if_neg (by omega), List.getElem?_set_ne (fun e => h1 e.symm)]
theorem setR_all {xs vs : List Value} (h : vs.length = xs.length) : setR xs 0 vs = vs := by
  refine List.ext_getElem? (fun i => ?_)
  rw [setR_get vs xs 0 i (by omega)]
  split
  · rfl
  · rw [List.getElem?_eq_none (by omega), List.getElem?_eq_none (by omega)]
theorem Bln.sets {p : Nat} {t : TypeId} : ∀ (vs : List Value) (o : Nat) {w : World} {xs : List Value}, Bln w p t xs → Bln (w.setCells p o vs) p t (setR xs o vs)
  | [], _, _, _, h => h
  | v :: r, o, _, _, h => Bln.sets r (o + 1) (h.set o v)
theorem Fr.sets {S : Nat → Prop} {a : World} {p : Nat} (hp : S p ∨ a.heap.size ≤ p) : ∀ (vs : List Value) (o : Nat) {w : World}, Fr S a w → Fr S a (w.setCells p o vs)
  | [], _, _, h => h
  | v :: r, o, _, h => Fr.sets hp r (o + 1) (h.setCell (p := ⟨p, o, none⟩) hp v)
theorem Bln.there {w : World} {p : Nat} {t : TypeId} {xs : List Value} (h : Bln w p t xs) (n : Nat) (hn : n ≤ xs.length) : w.there p 0 n := fun j hj => by
  rw [Nat.zero_add]
  exact ⟨by rw [h.cell (List.getElem?_eq_getElem (show j < xs.length by omega))]; rfl, h.fz (by omega)⟩
/-- a variable of several cells that is made and filled at once -/
theorem Bln.copy (w : World) (t : TypeId) (zs cs : List Value) (hz : zs.length = cs.length) : Bln ((w.alloc (.cells zs.toArray t)).setCells w.heap.size 0 cs) w.heap.size t cs ∧ Below w.heap.size w ((w.alloc (.cells zs.toArray t)).setCells w.heap.size 0 cs) := by
  have h := (Bln.new w t zs).sets cs 0
  rw [setR_all hz.symm] at h
  refine ⟨h, ?_⟩
  have hf : Fr (fun _ => False) w ((w.alloc (.cells zs.toArray t)).setCells w.heap.size 0 cs) := Fr.sets (.inr (Nat.le_refl _)) cs 0 ((Fr.refl _ w).alloc _)
  exact hf.below (fun _ _ f => f) (Nat.le_refl _)
def z17 : List Value := [.int .i64 0, .int .i64 0, .int .i64 0, .int .i64 0, .int .i64 0, .int .i64 0, .int .i64 0, .int .i64 0, .int .i64 0, .int .i64 0, .int .i64 0, .int .i64 0, .int .i64 0, .int .i64 0, .int .i64 0, .int .i64 0, .slice none 0 0]

def exCn : List Int := [0, 1, 0, 0, 0, 0, 0, 0, 0, 0, 0, 0, 0, 0, 0, 0]
theorem ex_tab : TabOk exCn [7] := ⟨by decide +kernel, by decide +kernel, by decide +kernel, by decide +kernel⟩
theorem ex_tz : TzI exCn 16 = [2] := by decide +kernel
theorem ex_len7 {ls : List Int} {O : List Nat} {C : List Int} (ho : Ordd ls O C) (h1 : sy O = [7]) (h2 : sz ls O = TzI exCn 16) : lenL ls 7 = 2 := by
  rw [ex_tz] at h2
  match O, h1, h2 with
  | [s], h1, h2 =>
    have hs : (s : Int) = 7 := by simpa [sy] using h1
    have hl : ls.getD s 0 = 2 := by simpa [sz] using h2
    obtain rfl : s = 7 := by omega
    have hm := ho.mem 7 (by simp)
    unfold lenL
    rw [if_pos ⟨by omega, by omega, by show 0 < ls.getD 7 0; omega⟩]
    exact hl

set_option maxHeartbeats 4000000 in
theorem canonTables_any (w : World) (cn : List Int) (hcn : cn.length = 16) (hIc : Is cn) (A : Option Addr) (n c : Nat) (ss : List Int) (hn : ss.length = n) (hcc : n ≤ c) (hmm : c ≤ 9223372036854775807) (hR : Rd w w.heap.size A (bv ss)) (hB : Bs ss) (A2 : Option Addr) (n2 c2 : Nat) (bs : List Int) (hn2 : bs.length = n2) (hcc2 : n2 ≤ c2) (hmm2 : c2 ≤ 9223372036854775807) (hR2 : Rd w w.heap.size A2 (bv bs)) (hB2 : Bs bs) (t : Int) (ht : -9223372036854775808 ≤ t ∧ t ≤ 9223372036854775807) :
    Calls Try.prog 12 #[.agg (iv cn ++ [Value.slice A n c]).toArray, .slice A2 n2 c2, .int .i64 t] w (ReadsP w) := by
  have HN := Lib.hid hn
  have HN2 := Lib.hid hn2
  have HCN := Lib.hid hcn
  have X := Bln.new w 86 (iv cn ++ [Value.slice A n c])
  have x16 := X.cell (i := 16) (u := .slice A n c) (by rw [List.getElem?_append_right (by rw [iv_len, hcn]; omega), iv_len, hcn]; rfl)
  have hb0 : Below w.heap.size w (w.alloc (.cells (iv cn ++ [Value.slice A n c]).toArray 86)) := (Below.refl _ _).alloc (Nat.le_refl _) _
  clear hn hn2 hcn
  by_cases h1 : 600 < n
  · have d1 : decide ((600 : Int) < (n : Int)) = true := decide_eq_true (by omega)
    go_enter Try.func12, Try.ntmps12
    go_wp2
    go_ret
    exact ⟨rfl, hb0⟩
  have d1 : decide ((600 : Int) < (n : Int)) = false := decide_eq_false (by omega)
  by_cases h2 : 200 < n2
  · have d2 : decide ((200 : Int) < (n2 : Int)) = true := decide_eq_true (by omega)
    go_enter Try.func12, Try.ntmps12
    go_wp2
    go_ret
    exact ⟨rfl, hb0⟩
  have d2 : decide ((200 : Int) < (n2 : Int)) = false := decide_eq_false (by omega)
  go_enter Try.func12, Try.ntmps12
  go_upto_region 3 with fail
  generalize w.alloc (.cells (iv cn ++ [Value.slice A n c]).toArray 86) = w0 at *
  have hs0 := hb0.size
  have HX := Lib.hid X
  clear X
  have hba : Below w0.heap.size w0 (w0.alloc (.cells (bv [7]).toArray 5)) := (Below.refl _ _).alloc (Nat.le_refl _) _
  have hR7 : Rd (w0.alloc (.cells (bv [7]).toArray 5)) (w0.alloc (.cells (bv [7]).toArray 5)).heap.size (some ⟨w0.heap.size, 0, none⟩) (bv [7]) := (Rd.newN w0 5 (bv [7])).more (by simp)
  have hb1 := hb0.trans (hba.mono hs0)
  go_wp2_with fail
  refine (newTable_any (some ⟨w0.heap.size, 0, none⟩) 1 1 exCn [7] _ rfl (by intro x hx; simp [exCn] at hx; omega) rfl hR7 (by intro x hx; simp at hx; omega) (by omega)).mono ?_; rintro e w2 ⟨h3, _, hb2⟩
  obtain ⟨p1, ls1, O1, C1, rfl, hB1, ho1, hv1, hsy1, hsz1⟩ := h3 ex_tab
  have hb2' := hb1.trans (hb2.mono hb1.size)
  have hl7 := ex_len7 ho1 hsy1 hsz1
  have HL7 := Lib.hid hl7
  have hs2 := hb2'.size
  clear h3 hR7 hsy1 hsz1 hl7
  go_wp2_with fail
  refine (length_any p1 ls1 O1 C1 7 w2 hB1.bk hv1).mono ?_; rintro e w3 ⟨rfl, rfl⟩
  rw [HL7.out]
  have X3 := HX.out.below ((hba.mono (Nat.le_refl _)).trans (hb2.mono (by simp)))
  clear hB1 ho1 hv1
  go_upto_region 6 with fail
  have hl16 : (iv cn).length = 16 := by rw [iv_len, HCN.out]
  have hr3 := X3.range 0 (iv cn ++ [Value.slice A n c]) (fun j v hv => by rw [Nat.zero_add]; exact hv)
  have hlc : (iv cn ++ [Value.slice A n c]).length = 17 := by rw [List.length_append, hl16]; rfl
  have hsz17 : (iv cn ++ [Value.slice A n c]).toArray.size = 17 := hlc
  have hone : ∀ v ∈ iv cn ++ [Value.slice A n c], v.oneCell' = true := fun v hv => by
    rcases List.mem_append.1 hv with hv | hv
    · exact one_iv cn v hv
    · simp only [List.mem_singleton] at hv; subst hv; rfl
  have hth : (w3.alloc (.cells #[.int .i64 0, .int .i64 0, .int .i64 0, .int .i64 0, .int .i64 0, .int .i64 0, .int .i64 0, .int .i64 0, .int .i64 0, .int .i64 0, .int .i64 0, .int .i64 0, .int .i64 0, .int .i64 0, .int .i64 0, .int .i64 0, .slice none 0 0] 86)).there w3.heap.size 0 (iv cn ++ [Value.slice A n c]).toArray.size := by
    rw [hsz17]
    exact (Bln.new w3 86 z17).there 17 (Nat.le_refl _)
  obtain ⟨XD, hbd⟩ := Bln.copy w3 86 z17 (iv cn ++ [Value.slice A n c]) (by rw [hlc]; rfl)
  go_upto_region 7 with (first | refine wpList_load_mid rfl 86 (.tmp 3) rfl _ _ rfl (iv cn ++ [Value.slice A n c]) _ hr3 Try.underlying86 rfl (by rw [hlc]; kernel_rfl) ?_ | refine wpList_store_mid rfl 86 (.tmp 9) (.tmp 37) rfl _ _ _ rfl rfl hth (by rw [hsz17]; kernel_rfl) (all_oneCell_toArray hone) ?_)
  have hRw := fun (W : World) (h : Below w.heap.size w W) => (hR.below h).more h.size
  have hb3 := hb2'
  have hb4 := hb3.trans (hbd.mono hs2)
  have hX4 := X3.below hbd
  have hlc2 : ∀ g d, (iv cn ++ [Value.slice (some ⟨g, 0, none⟩) n d]).length = 17 := fun g d => by rw [List.length_append, hl16]; rfl
  have hpd : w.heap.size < w3.heap.size := X3.lt
  have HHTH := Lib.hid hth
  have HSZ17 := Lib.hid hsz17
  clear hth hr3 hsz17 hbd X3
  generalize hpq : w3.heap.size = pd at *
  have HPQ := Lib.hid hpq
  clear hpq
  have hw4 : ∃ wd : World, wd = (w3.alloc (.cells #[.int .i64 0, .int .i64 0, .int .i64 0, .int .i64 0, .int .i64 0, .int .i64 0, .int .i64 0, .int .i64 0, .int .i64 0, .int .i64 0, .int .i64 0, .int .i64 0, .int .i64 0, .int .i64 0, .int .i64 0, .int .i64 0, .slice none 0 0] 86)).setCells pd 0 (iv cn ++ [Value.slice A n c]) := ⟨_, rfl⟩
  obtain ⟨wd, hwd⟩ := hw4
  have hwd2 : wd = (w3.alloc (.cells z17.toArray 86)).setCells pd 0 (iv cn ++ [Value.slice A n c]) := hwd
  rw [← hwd2] at XD hb4 hX4
  rw [← hwd]
  clear hwd hwd2 HHTH
  have x16 := hX4.cell (i := 16) (u := .slice A n c) (by rw [List.getElem?_append_right (by rw [hl16]; omega), hl16]; rfl)
  have hs4 := hb4.size
  go_wp2_with fail
  refine (copy_any A n c ss wd HN.out (hRw wd hb4) (by omega)).mono ?_; rintro e w5 ⟨g, d, rfl, ho5, hb5⟩
  have XD5 := XD.below hb5
  have X5 := hX4.below hb5
  have hb5' := hb4.trans (hb5.mono hs4)
  have hpdl := XD5.lt
  have hg5 := (ho5.lt g rfl)
  have y16 := XD5.cell (i := 16) (u := .slice A n c) (by rw [List.getElem?_append_right (by rw [hl16]; omega), hl16]; rfl)
  have f16 := XD5.fz (i := 16) (by rw [hlc]; omega)
  have XD6 := XD5.set 16 (.slice (some ⟨g, 0, none⟩) n d)
  have hset : (iv cn ++ [Value.slice A n c]).set 16 (.slice (some ⟨g, 0, none⟩) n d) = iv cn ++ [Value.slice (some ⟨g, 0, none⟩) n d] := by
    rw [List.set_append_right _ _ (by rw [hl16]; omega), hl16]; rfl
  rw [hset] at XD6
  have hpdw : pd < wd.heap.size := XD.lt
  have ho6 := ownsRow_setCell_other ho5 (a := ⟨pd, 16, none⟩) (fun e => by
    have h1 : g = pd := Option.some.inj e
    omega) (.slice (some ⟨g, 0, none⟩) n d)
  have X6 : Bln (w5.setCell ⟨pd, 16, none⟩ (.slice (some ⟨g, 0, none⟩) n d)) w.heap.size 86 (iv cn ++ [Value.slice A n c]) := X5.keep (S := fun k => k = pd) ((Fr.refl (fun k => k = pd) w5).setCell (p := ⟨pd, 16, none⟩) (.inl rfl) _) (by show ¬ w.heap.size = pd; omega)
  have hb6 : Below w.heap.size w (w5.setCell ⟨pd, 16, none⟩ (.slice (some ⟨g, 0, none⟩) n d)) := hb5'.setCell (p := ⟨pd, 16, none⟩) (by show w.heap.size ≤ pd; omega) _
  clear hset XD XD5 X5 hX4 x16 ho5
  go_upto_region 8 with fail
  generalize w5.setCell ⟨pd, 16, none⟩ (.slice (some ⟨g, 0, none⟩) n d) = w6 at *
  have hr6 := XD6.range 0 (iv cn ++ [Value.slice (some ⟨g, 0, none⟩) n d]) (fun j v hv => by rw [Nat.zero_add]; exact hv)
  have hs6 := hb6.size
  have hR6 : Rd w6 w6.heap.size (some ⟨g, 0, none⟩) (bv ss) := by
    have h := Rd.of_own ho6
    rw [bv_app] at h
    exact h.pre
  go_wp2_with (refine wpList_load_mid rfl 86 (.tmp 9) rfl _ _ rfl (iv cn ++ [Value.slice (some ⟨g, 0, none⟩) n d]) _ hr6 Try.underlying86 rfl (by rw [hlc2]; kernel_rfl) ?_)
  refine (newTable_any (some ⟨g, 0, none⟩) n d cn ss w6 HCN.out hIc HN.out hR6 hB (by omega)).mono ?_; rintro e w7 ⟨h3, h4, hb7⟩
  have hb7' := hb6.trans (hb7.mono hs6)
  have hs7 := hb7'.size
  have ho7 := own_keep ho6 hb7
  have X7 := X6.below hb7
  have XD7 := XD6.below hb7
  have hr7 := X7.range 0 (iv cn ++ [Value.slice A n c]) (fun j v hv => by rw [Nat.zero_add]; exact hv)
  have y16 := XD7.cell (i := 16) (u := .slice (some ⟨g, 0, none⟩) n d) (by rw [List.getElem?_append_right (by rw [hl16]; omega), hl16]; rfl)
  have x16 := X7.cell (i := 16) (u := .slice A n c) (by rw [List.getElem?_append_right (by rw [hl16]; omega), hl16]; rfl)
  have hg6 := (ho6.lt g rfl)
  by_cases hok : TabOk cn ss
  · obtain ⟨p, ls, O, C, rfl, hBk, hO, hV, hsy, hsz⟩ := h3 hok
    have HOK := Lib.hid hok
    have HO := Lib.hid hO
    have hon := hO.len
    have hOn : O.length = n := by rw [← sy_len, hsy, HN.out]
    have HON := Lib.hid hOn
    clear h3 h4 hok hO hV
    go_wp2_with (refine wpList_load_mid rfl 86 (.tmp 3) rfl _ _ rfl (iv cn ++ [Value.slice A n c]) _ hr7 Try.underlying86 rfl (by rw [hlc]; kernel_rfl) ?_)
    refine (refTable_any A n c cn ss w7 HCN.out hIc HN.out (hRw w7 hb7') hB (by omega)).mono ?_; rintro e w8 ⟨h5, _, hb8⟩
    obtain ⟨A8, c8, rfl, hS8⟩ := h5 HOK.out
    rw [HN.out]
    have hb8' := hb7'.trans (hb8.mono hs7)
    have hs8 := hb8'.size
    have y16' := (hb8.cell (p := ⟨pd, 16, none⟩) XD7.lt).trans y16
    have x16' := (hb8.cell (p := ⟨w.heap.size, 16, none⟩) X7.lt).trans x16
    have ho8 := own_keep ho7 hb8
    clear h5 y16 x16 hr7 hr6
    go_wp2_with fail
    refine (kept_any A n c g d wd.heap.size ss w8 HN.out (hRw w8 hb8') hB (by omega) ho8).mono ?_; rintro e w9 ⟨rfl, rfl⟩
    go_wp2_with fail
    refine (over_any g n d (n + 2) wd.heap.size (ss ++ [165, 90]) w8 ho8 (by omega) (by omega)).mono ?_; rintro e w9 ⟨rfl, hf9⟩
    have hb9 : Below wd.heap.size w8 w9 := hf9.below (fun k hk e => by have := (ho8.lt g rfl).1; omega) (by have := (ho8.lt g rfl); omega)
    have hb9' := hb8'.trans (hb9.mono hs4)
    have hK9 : BkS w9 w9.heap.size p ls O C := by
      refine BkS.of (BkL.bk ((hBk.turn (Fr.of_below (hb8.mono (Nat.le_refl _)))).turn (hf9.mono (fun k hk => ?_))))
      have := hg6.2; omega
    have hS9 := (hS8.turn (hf9.mono (fun k hk => by have := hg6.2; have := hb7.size; omega))).cs
    rw [← hsy, ← hsz] at hS9
    have hR29 := (hR2.below hb9').more hb9'.size
    go_wp2_with fail
    refine (reads_any t hK9 HO.out hS9 HON.out HN2.out hR29 hB2 (by omega)).mono ?_; rintro e w10 ⟨rfl, hb10⟩
    go_wp2
    go_ret
    exact ⟨rfl, hb9'.trans (hb10.mono hb9'.size)⟩
  · obtain rfl := h4 hok
    have HNO := Lib.hid hok
    clear h3 h4 hok
    go_wp2_with (refine wpList_load_mid rfl 86 (.tmp 3) rfl _ _ rfl (iv cn ++ [Value.slice A n c]) _ hr7 Try.underlying86 rfl (by rw [hlc]; kernel_rfl) ?_)
    refine (refTable_any A n c cn ss w7 HCN.out hIc HN.out (hRw w7 hb7') hB (by omega)).mono ?_; rintro e w8 ⟨_, h5, hb8⟩
    obtain rfl := h5 HNO.out
    have hb8' := hb7'.trans (hb8.mono hs7)
    have hs8 := hb8'.size
    have y16' := (hb8.cell (p := ⟨pd, 16, none⟩) XD7.lt).trans y16
    have x16' := (hb8.cell (p := ⟨w.heap.size, 16, none⟩) X7.lt).trans x16
    have ho8 := own_keep ho7 hb8
    clear h5 y16 x16 hr7 hr6
    go_wp2_with fail
    refine (kept_any A n c g d wd.heap.size ss w8 HN.out (hRw w8 hb8') hB (by omega) ho8).mono ?_; rintro e w9 ⟨rfl, rfl⟩
    unfold errV
    go_wp2_with fail
    refine (is_err 6 6 (by omega) _).mono ?_; rintro e w' ⟨rfl, rfl⟩
    go_wp2
    go_ret
    exact ⟨rfl, hb8'⟩
namespace CanonTables
set_option maxRecDepth 100000 in
theorem contract (H : Type) (enc : TypeId × Value → H) (W : World) (base : Nat) (args : Array Value) (ds gs : List (DataW H)) (before : List MemPlace)
    (hval : ∀ (j : Nat) t v, Try.f12.params[j]? = some t → args[j]? = some v → Value.okWide Try.prog W .any base t v)
    (hW : DataW.Whole enc Try.prog Try.f12.params.toList Rows.canonTablesSpec.vars false W args.toList ds gs before) :
    Calls Try.prog 12 args W fun e W' => ∃ v, e = .returned v ∧ Rows.canonTablesSpec.post enc Try.prog Try.f12 false true false false W args v W' := by
  have hW' := hW
  obtain ⟨p, q, hA0, hV, rfl, hfz, hnd⟩ := hW
  have hA : DataW.TrodAll enc Try.prog W 0 (fun _ => true) true Try.f12.params.toList args.toList ds p := hA0
  rw [Try.params12] at hA hval
  clear hA0
  obtain ⟨v0, vs0, d0, ds0, p0, q0, hargs, rfl, rfl, h0, r0⟩ := trodAll_cons hA
  obtain ⟨v1, vs1, d1, ds1, p1, q1, rfl, rfl, rfl, h1, r1⟩ := trodAll_cons r0
  obtain ⟨v2, vs2, d2, ds2, p2, q2, rfl, rfl, rfl, h2, r2⟩ := trodAll_cons r1
  obtain ⟨rfl, rfl, rfl⟩ := trodAll_nil r2
  obtain rfl : args = #[v0, v1, v2] := by cases args; simp_all
  obtain ⟨rfl, rfl⟩ := trodVars_none hV
  obtain ⟨l0, rfl, hl0, n0, hf0⟩ := open_str Try.underlying86 (hval 0 _ _ rfl rfl) h0
  rw [show Try.prog.cellsOf 86 = 17 by kernel_rfl] at hl0
  obtain ⟨y0_0, hy0_0⟩ := hf0 0 _ rfl
  replace hy0_0 : DataW.trod enc Try.prog W 0 (fun _ => true) true n0 84 ((l0.drop 0).take 16) = some y0_0 := by have h : DataW.trod enc Try.prog W 0 (fun _ => true) true n0 84 ((l0.drop 0).take (Try.prog.cellsOf 84)) = some y0_0 := hy0_0; rw [show Try.prog.cellsOf 84 = 16 by kernel_rfl] at h; exact h
  obtain ⟨x0, ex0, hlx0, hIx0⟩ := arr_ints Try.underlying84 Try.underlying3 (by kernel_rfl) (by kernel_rfl) hy0_0
  obtain ⟨y0_1, hy0_1⟩ := hf0 1 _ rfl
  replace hy0_1 : DataW.trod enc Try.prog W 0 (fun _ => true) true n0 79 ((l0.drop 16).take 1) = some y0_1 := by have h : DataW.trod enc Try.prog W 0 (fun _ => true) true n0 79 ((l0.drop 16).take (Try.prog.cellsOf 79)) = some y0_1 := hy0_1; rw [show Try.prog.cellsOf 79 = 1 by kernel_rfl] at h; exact h
  obtain ⟨vx1, ex1⟩ := take_one (l := l0) (o := 16) (by omega)
  rw [ex1] at hy0_1
  obtain ⟨Ax1, nx1, cx1, x1, rfl, hnx1, hcx1, hmx1, hRx1, hwx1⟩ := open_rd Try.underlying79 Try.underlying5 (by kernel_rfl) hy0_1
  have e0 := show l0 = _ from parts_cons ex0 (parts_cons ex1 (parts_nil hl0))
  rw [e0] at hW' ⊢
  obtain ⟨Ax2, nx2, cx2, rfl⟩ := okWide_slice Try.underlying79 (hval 1 _ _ rfl rfl)
  obtain ⟨fu1, hf1⟩ := h1
  obtain ⟨A', n', c', x2, ev1, hnx2, hcx2, hmx2, hRx2, hwx2⟩ := open_rd Try.underlying79 Try.underlying5 (by kernel_rfl) hf1
  injection ev1 with ea eb ec
  subst ea eb ec
  obtain ⟨x3, rfl, rfl, rfl, wx3⟩ := open_int Try.underlying3 (hval 2 _ _ rfl rfl) h2
  refine (canonTables_any W x0 hlx0 hIx0 Ax1 nx1 cx1 x1 hnx1 hcx1 hmx1 hRx1 (wf_bs hwx1) Ax2 nx2 cx2 x2 hnx2 hcx2 hmx2 hRx2 (wf_bs hwx2) x3 (wf_i wx3)).mono fun e W' ⟨he, hb⟩ => ?_
  subst he
  exact ⟨_, rfl, post_true Facts.laid hW' rfl rfl Try.underlying4 (by kernel_rfl) rfl hb⟩

set_option maxRecDepth 100000 in
theorem lifted (os : Os) (started : os.Started) (H : Type) (enc : TypeId × Value → H) :
    ReturnsInHanded {} Try.checked os 12 .any (Rows.canonTablesSpec.pre6 enc Try.prog Try.f12 Rows.canonTablesRow.domain false) (Rows.canonTablesSpec.post enc Try.prog Try.f12 false true false false) := by
  refine returnsInHanded_of_change (C := Try.checked) Facts.own started (by kernel_rfl) Try.func12
    (ChangeSpec.witness6 (enc := enc) (C := Try.checked) (os := os) false ⟨#[], #[.agg #[.int .i64 0, .int .i64 0, .int .i64 0, .int .i64 0, .int .i64 0, .int .i64 0, .int .i64 0, .int .i64 0, .int .i64 0, .int .i64 0, .int .i64 0, .int .i64 0, .int .i64 0, .int .i64 0, .int .i64 0, .int .i64 0, .slice none 0 0], .slice none 0 0, .int .i64 0], []⟩ 8 (by kernel_rfl) (by kernel_rfl) (by kernel_rfl) (by kernel_rfl)) ?_
  intro W base args ds gs before hval hW _ _
  exact contract H enc W base args ds gs before hval hW

theorem k_wf : Rows.canonTablesRow.wf (OpenSpec.ofChange Rows.canonTablesSpec) = true := by kernel_rfl
theorem k_inp : (Rows.canonTablesRow.inPlace == Try.prog.inPlace 12) = true := by kernel_rfl
theorem k_unf : (Rows.canonTablesRow.unfollowed == Try.prog.unfollowed 12) = true := by kernel_rfl
theorem k_rec : (Rows.canonTablesRow.recurses == Try.prog.recurses 12) = true := by kernel_rfl
theorem k_nam : (Rows.canonTablesRow.named == Try.prog.varsNamed 12) = true := by kernel_rfl
theorem k_pk : (Rows.canonTablesRow.plainKeys == Try.prog.plainKeys) = true := (congrArg (fun x => Rows.canonTablesRow.plainKeys == x) Facts.plainKeys).trans (by kernel_rfl)
theorem k_lf : (Rows.canonTablesRow.lifted == Try.prog.liftsFinal) = true := (congrArg (fun x => Rows.canonTablesRow.lifted == x) Facts.liftsFinal).trans (by kernel_rfl)
theorem k_mk : (Try.prog.make == some Rows.canonTablesRow.make) = true := (congrArg (fun x => x == some Rows.canonTablesRow.make) Facts.make).trans (by kernel_rfl)
theorem k_par : (Try.f12.params.all (Try.prog.readableRec ·)) = true := by kernel_rfl
theorem k_maps : (Rows.canonTablesRow.maps == (Try.f12.params.toList ++ Rows.canonTablesSpec.plain.varTypes Try.prog).any (Try.prog.mapsRec ·)) = true := by kernel_rfl
theorem k_ifs : (Rows.canonTablesRow.ifaces == (Try.f12.params.toList ++ Rows.canonTablesSpec.plain.varTypes Try.prog).any (Try.prog.ifacesRec ·)) = true := by kernel_rfl
theorem k_lps : (Rows.canonTablesRow.loops == (Try.f12.params.toList ++ Rows.canonTablesSpec.plain.varTypes Try.prog).any (Try.prog.loopsFrom ·)) = true := by kernel_rfl
theorem k_wk : (Rows.canonTablesRow.wideKeys == (Try.f12.params.toList ++ Rows.canonTablesSpec.plain.varTypes Try.prog ++ Try.f12.resultTypes.toList).any (Try.prog.wideKeysFrom ·)) = true := by kernel_rfl
theorem k_vl : (Rows.canonTablesRow.veiled == (Try.f12.params.toList ++ Rows.canonTablesSpec.plain.varTypes Try.prog ++ Try.f12.resultTypes.toList).any (Try.prog.veiledRec ·)) = true := by kernel_rfl
theorem closed : joinedFacts Try.prog 12 Try.f12 Rows.canonTablesSpec Rows.canonTablesRow = true :=
  Facts.and_i (Facts.and_i (Facts.and_i (Facts.and_i (Facts.and_i (Facts.and_i (Facts.and_i (Facts.and_i (Facts.and_i (Facts.and_i (Facts.and_i (Facts.and_i (Facts.and_i (Facts.and_i (Facts.and_i (Facts.and_i (Facts.and_i (Facts.and_i (Facts.and_i (Facts.and_i (Facts.and_i (Facts.and_i (Facts.and_i (Facts.and_i (Facts.and_i (Facts.and_i (Facts.and_i (Facts.and_i (Facts.and_i (Facts.and_i (Facts.and_i
    k_wf Facts.laid) Facts.mapsRowed_) k_par) rfl) rfl) Facts.stops) rfl) Facts.stopKnobs) k_inp) k_unf) k_rec) k_nam) k_maps) k_ifs) (by kernel_rfl)) k_lps) k_wk) rfl) (by kernel_rfl)) (by kernel_rfl)) (by kernel_rfl)) k_pk) rfl) Facts.stopsHeard) Facts.mayEnter) k_lf) k_mk) (by kernel_rfl)) (by kernel_rfl)) k_vl) (by kernel_rfl)
theorem named : Try.prog.funcNamed Rows.canonTablesRow.func = some 12 := by kernel_rfl

theorem proved : Rows.CanonTablesSaid :=
  OpenClaim.holds_of_wide 12 Try.f12 rfl rfl rfl rfl rfl rfl rfl ⟨rfl, rfl, rfl, rfl, rfl⟩ rfl rfl rfl rfl rfl named Try.func12 closed
    (of_decide_eq_true (by kernel_rfl)) (by unfold Func.isWrapper; first | (rw [if_pos (by decide +kernel)]; kernel_rfl) | (rw [if_neg (by decide +kernel)]; exact ⟨rfl, rfl⟩))
    (fun os started H enc _ => lifted os started H enc)
end CanonTables
#print axioms CanonTables.proved
end Go.Proofs.Ytlhappecjjbopaa
