/-
  A block's pieces: the program's, by a contract. No condition.
-/
import Derived.Test.YtlhappecjjbopaaScG
import Derived.Test.YtlhappecjjbopaaLib
namespace Go.Proofs.Ytlhappecjjbopaa
open Go.RowKit
set_option linter.unusedVariables false
set_option maxRecDepth 100000

def skipP : Pc := (true, 240, 0, 0)
def endP : Pc := (true, 0, 0, 0)
def pcRows (l : List Pc) : List Value := l.flatMap pcV
theorem pcV_len (p : Pc) : (pcV p).length = 4 := rfl
theorem pcRows_len (l : List Pc) : (pcRows l).length = l.length * 4 := by
  induction l with
  | nil => rfl
  | cons p l ih => unfold pcRows at *; rw [List.flatMap_cons, List.length_append, ih, pcV_len, List.length_cons]; omega
theorem pcRows_snoc (l : List Pc) (p : Pc) : pcRows (l ++ [p]) = pcRows l ++ pcV p := by simp [pcRows]
theorem pcRows_app (l m : List Pc) : pcRows (l ++ m) = pcRows l ++ pcRows m := by simp [pcRows]
theorem pcRows_get {l : List Pc} {i : Nat} {p : Pc} (h : l[i]? = some p) {j : Nat} {u : Value} (hu : (pcV p)[j]? = some u) : (pcRows l)[i * 4 + j]? = some u := by
  have := flatten_get (m := 4) (l.map pcV) (fun r hr => by obtain ⟨q, _, rfl⟩ := List.mem_map.1 hr; rfl) i j (pcV p) u (by rw [List.getElem?_map, h]; rfl) hu
  rwa [show (l.map pcV).flatten = pcRows l from (List.flatMap_def ..).symm] at this
theorem pcV_one (p : Pc) : ∀ u ∈ pcV p, u.oneCell' = true := fun u hu => by
  simp only [pcV, List.mem_cons, List.not_mem_nil, or_false] at hu
  rcases hu with rfl | rfl | rfl | rfl <;> rfl
/-- the i-th place, and the number there -/
def zzN (i : Nat) : Nat := (zzL.getD i 0).toNat
theorem zzN_bd : ∀ i, i < 64 → zzN i < 64 ∧ zzL.getD i 0 = (zzN i : Int) ∧ (zzN i = 0 ↔ i = 0) := by decide +kernel
/-- pieces of the numbers up to the i-th, and the noughts behind them -/
def pst (b : List Int) : Nat → List Pc × Nat
  | 0 => ([], 0)
  | i + 1 => if b.getD (zzN (i + 1)) 0 = 0 then ((pst b i).1, (pst b i).2 + 1) else ((pst b i).1 ++ List.replicate ((pst b i).2 / 16) skipP ++ [numP true (b.getD (zzN (i + 1)) 0) ((pst b i).2 % 16)], 0)
def tailP (k : Nat) : List Pc := if 0 < k then [endP] else []
def pcs (b : List Int) (ahead : Int) : List Pc := numP false (b.getD 0 0 - ahead) 0 :: ((pst b 63).1 ++ tailP (pst b 63).2)
theorem pst_zero (b : List Int) (i : Nat) (h : b.getD (zzN (i + 1)) 0 = 0) : pst b (i + 1) = ((pst b i).1, (pst b i).2 + 1) := by
  rw [pst, if_pos h]
theorem pst_num (b : List Int) (i : Nat) (h : b.getD (zzN (i + 1)) 0 ≠ 0) : pst b (i + 1) = ((pst b i).1 ++ List.replicate ((pst b i).2 / 16) skipP ++ [numP true (b.getD (zzN (i + 1)) 0) ((pst b i).2 % 16)], 0) := by
  rw [pst, if_neg h]
theorem pst_bd (b : List Int) : ∀ i : Nat, (pst b i).1.length + (pst b i).2 ≤ i
  | 0 => Nat.le_refl _
  | i + 1 => by
    have ih := pst_bd b i
    by_cases h : b.getD (zzN (i + 1)) 0 = 0
    · rw [pst_zero b i h]; show (pst b i).1.length + ((pst b i).2 + 1) ≤ _; omega
    · rw [pst_num b i h]
      simp only [List.length_append, List.length_replicate, List.length_cons, List.length_nil]
      omega
/-- a slice of pieces of a type t, in blocks from B on -/
def PcS (w : World) (B : Nat) (t : TypeId) (v : Value) (l : List Pc) : Prop := w.ownsRow B t 4 v l.length (pcRows l)

theorem Try.info_pc : (Try.prog.info? 27).map (fun i => (i.zero, i.size, i.bytes)) = some (some (.agg #[.bool false, .int .i64 0, .int .i64 0, .int .i64 0]), 4, 32) := by kernel_rfl
theorem PcS.new (w : World) (B : Nat) (hB : B ≤ w.heap.size) (t : TypeId) (p : Pc) : PcS (w.alloc (.cells (pcV p).toArray t)) B t (.slice (some ⟨w.heap.size, 0, none⟩) 1 1) [p] := by
  have := World.ownsRow_lit (e := t) (size := 4) w (pcV p).toArray 1 hB (by unfold maxLen; omega) (by simp [pcV])
  unfold PcS
  simpa [pcRows] using this
theorem PcS.below {w w' : World} {B : Nat} {t : TypeId} {v : Value} {l : List Pc} (h : PcS w B t v l) (hb : Below w.heap.size w w') : PcS w' B t v l := own_keepN h hb

def Pieced (b : List Int) (ahead : Int) (w : World) (e : Ending) (w' : World) : Prop :=
  (GoodB b ∧ DcB ahead → ∃ v, e = .returned (.tuple #[v, .nilIface]) ∧ PcS w' w.heap.size 27 v (pcs b ahead)) ∧ (¬ (GoodB b ∧ DcB ahead) → e = .returned (.tuple #[.slice none 0 0, errV 6])) ∧ Below w.heap.size w w'

set_option maxHeartbeats 8000000 in
theorem pieces_any (b : List Int) (hb : b.length = 64) (hI : Is b) (ahead : Int) (w : World) : Calls Try.prog 48 #[.agg (iv b).toArray, .int .i64 ahead] w (Pieced b ahead w) := by
  obtain ⟨i0, hi0, hz0, hz1, hz2⟩ := info_parts Try.info_pc
  have X := Bln.new w 70 (iv b)
  have hb0 : Below w.heap.size w (w.alloc (.cells (iv b).toArray 70)) := (Below.refl _ _).alloc (Nat.le_refl _) _
  have HB := Lib.hid hb
  have hfo : ∀ q : Pc, List.foldl (fun (cs : Array Value) (x : Value × Nat) => cs.setIfInBounds x.2 x.1) #[.bool false, .int .i64 0, .int .i64 0, .int .i64 0] (pcV q).zipIdx = (pcV q).toArray := fun _ => rfl
  have hp4 : ∀ q : Pc, (pcV q).length = 4 := fun _ => rfl
  clear hb
  go_enter Try.func48, Try.ntmps48
  go_upto_region 1 with fail
  generalize w.alloc (.cells (iv b).toArray 70) = w0 at *
  have hpl : w.heap.size < w0.heap.size := X.lt
  have hr := X.range 0 (iv b) (fun j v hv => by rw [Nat.zero_add]; exact hv)
  generalize hpq : w.heap.size = pb at *
  have HPB := Lib.hid hpq
  clear hpq
  go_wp2_with (refine wpList_load_mid rfl 70 (.tmp 2) rfl _ _ rfl (iv b) _ hr Try.underlying70 rfl (by rw [iv_len, HB.out]; kernel_rfl) ?_)
  refine (check_any b HB.out w0).mono ?_; rintro e w1 ⟨h1, h2, hb1⟩
  have hbw : Below w.heap.size w w1 := by rw [HPB.out]; exact hb0.trans (hb1.mono (by omega))
  have hs1 := hb1.size
  have X1 := X.below hb1
  by_cases hg : GoodB b
  · obtain rfl := h1 hg
    have HG := Lib.hid hg
    clear h1 h2 hg hb0 X hr
    by_cases hd : DcB ahead
    · have HD := Lib.hid (decide_eq_true hd)
      have HDD := Lib.hid hd
      have hcc : ∀ j, j < 64 → w1.cell? ⟨pb, j, none⟩ = some (.int .i64 (b.getD j 0)) := fun j hj => X1.cell (ivs_get (by rw [HB.out]; omega))
      have c0 := hcc 0 (by omega)
      have hd1 := hd.1
      have hd2 := hd.2
      have hg0 := HG.out.2
      generalize hq0 : b.getD 0 0 = b0 at *
      have HQ0 := Lib.hid hq0
      have hg1 := hg0.1
      have hg2 := hg0.2
      have HCC := Lib.hid hcc
      clear hq0 hg0 hd hcc
      go_wp2_with (go_at_call 106; refine (dcIn_any _ _).mono ?_; rintro e w' ⟨rfl, rfl⟩; rw [HD.out])
      refine (numberP_any false (b0 - ahead) 0 (by omega) (by omega) w1).mono ?_; rintro e w2 ⟨rfl, hb2⟩
      have hs2 := hb2.size
      generalize hP0 : numP false (b0 - ahead) 0 = P0 at *
      have HP0 := Lib.hid hP0
      clear hP0
      have hN := PcS.new w2 (pb + 1) (by omega) 27 P0
      have hba : Below w2.heap.size w2 (w2.alloc (.cells (pcV P0).toArray 27)) := (Below.refl _ _).alloc (Nat.le_refl _) _
      go_upto_region 6 with fail
      have hb3 : Below w1.heap.size w1 (w2.alloc (.cells (pcV P0).toArray 27)) := hb2.trans (hba.mono hs2)
      generalize w2.alloc (.cells (pcV P0).toArray 27) = w3 at *
      generalize hvq : Value.slice (some ⟨w2.heap.size, 0, none⟩) 1 1 = v0 at *
      have hs3 := hb3.size
      go_wp2_with fail
      refine (zigzag_any w3).mono ?_; rintro e w4 ⟨rfl, hb4⟩
      have hb14 : Below w1.heap.size w1 w4 := hb3.trans (hb4.mono hs3)
      have hN4 := hN.below hb4
      have hs4 := hb14.size
      obtain ⟨ZL, hZL⟩ : ∃ z, z = zzL := ⟨_, rfl⟩
      rw [← hZL]
      have HZL := Lib.hid hZL
      have hzl : ZL.length = 64 := by rw [hZL]; rfl
      have HZN := Lib.hid hzl
      have hg : pb + 1 ≤ w1.heap.size := by omega
      have hb4' : Below (pb + 1) w1 w4 := hb14.mono hg
      clear hvq hN hba hb2 hb3 hb4 hb14 hZL hzl c0 X1
      go_wp2
      go_loopw [7, 8, 29] (fun v nz ix wr => ∃ i : Nat, i ≤ 64 ∧ ix = .int .i64 i ∧ nz = .int .i64 (((pst b (i - 1)).2 : Nat) : Int) ∧ PcS wr (pb + 1) 27 v (P0 :: (pst b (i - 1)).1) ∧ Below (pb + 1) w1 wr) (fun _ _ ix _ => 64 - (intOf ix).toNat)
      case atStart => exact ⟨0, Nat.zero_le _, rfl, rfl, hN4, hb4'⟩
      case round =>
        obtain ⟨i, hi, rfl, rfl, hP, hb⟩ := hrel
        clear hN4 hb4' hb1 hs1 hs2 hs3 hs4
        obtain ⟨wo, rfl⟩ : ∃ wo : World, wo = wr := ⟨_, rfl⟩
        have hbd := pst_bd b (i - 1)
        by_cases h64 : i < 64
        · have d64 : decide ((i : Int) < 64) = true := decide_eq_true (by omega)
          obtain ⟨hz1', hz2', hz3'⟩ := zzN_bd i h64
          have hix := run_index_ints 39 3 64 Try.underlying39 Try.underlying3 Try.info_int ZL HZN.out i h64
          rw [HZL.out, hz2', ← HZL.out] at hix
          have eat := (hb.cell (p := ⟨pb, zzN i, none⟩) (by show pb < pb + 1; omega)).trans (HCC.out (zzN i) hz1')
          have hst0 := pst_zero b (i - 1)
          have hst1 := pst_num b (i - 1)
          have hnb := hI _ (getD_in (l := b) (k := zzN i) (by rw [HB.out]; exact hz1'))
          have hat0 : (0 : Int) ≤ (zzN i : Int) := by omega
          have hat1 : (zzN i : Int) < 64 := by omega
          generalize hzq : zzN i = z at *
          generalize hnq : b.getD z 0 = n at *
          have HNQ := Lib.hid hnq
          have HZQ := Lib.hid hzq
          have HS0 := Lib.hid hst0
          have HS1 := Lib.hid hst1
          have HZ3 := Lib.hid hz3'
          clear hzq hnq hst0 hst1 hz3' hz2'
          by_cases hi0' : i = 0
          · have hz0' : z = 0 := HZ3.out.2 hi0'
            have dz : ((z : Int) == 0) = true := by simp; exact hz0'
            have HI0 := Lib.hid hi0'
            clear hi0' hz0'
            go_wp2
            go_roundw
            case rel => exact ⟨i + 1, by omega, by go_num, by rw [HI0.out], by rw [HI0.out]; rw [HI0.out] at hP; exact hP, hb⟩
            case measure => simp [intOf]; omega
          · have hz0' : ¬ z = 0 := fun e => hi0' (HZ3.out.1 e)
            have dz : ((z : Int) == 0) = false := by simp; exact hz0'
            have hii : i - 1 + 1 = i := by omega
            have HII := Lib.hid hii
            have hii2 : i + 1 - 1 = i := by omega
            have HII2 := Lib.hid hii2
            generalize hsq : pst b (i - 1) = st at *
            have HSQ := Lib.hid hsq
            clear hi0' hz0' hii hii2 hsq
            by_cases hn0 : n = 0
            · have dn : (n == 0) = true := by simp; exact hn0
              have hnext : pst b i = (st.1, st.2 + 1) := by
                have := HS0.out
                rw [HII.out, HZQ.out, HNQ.out] at this
                exact this hn0
              have HNX := Lib.hid hnext
              clear hnext hn0
              go_wp2
              go_roundw
              case rel => exact ⟨i + 1, by omega, by go_num, by rw [HII2.out, HNX.out]; go_num, by rw [HII2.out, HNX.out]; exact hP, hb⟩
              case measure => simp [intOf]; omega
            · have dn : (n == 0) = false := by simp; exact hn0
              have hnext : pst b i = (st.1 ++ List.replicate (st.2 / 16) skipP ++ [numP true n (st.2 % 16)], 0) := by
                have := HS1.out
                rw [HII.out, HZQ.out, HNQ.out] at this
                exact this hn0
              have HNX := Lib.hid hnext
              obtain ⟨so, K⟩ := st
              simp only at hbd hP hnext ⊢
              clear hnext hn0
              go_wp2
              go_loopw [7, 8] (fun v nz wr => ∃ q : Nat, q ≤ K / 16 ∧ nz = .int .i64 ((K - 16 * q : Nat) : Int) ∧ PcS wr (pb + 1) 27 v (P0 :: so ++ List.replicate q skipP) ∧ Below (pb + 1) w1 wr) (fun _ nz _ => (intOf nz).toNat)
              case atStart => exact ⟨0, Nat.zero_le _, by rw [Nat.mul_zero, Nat.sub_zero], by simpa using hP, hb⟩
              case round =>
                clear hP hb eat
                obtain ⟨q, hq, rfl, hP, hb⟩ := hrel
                obtain ⟨wi, rfl⟩ : ∃ wi : World, wi = wr := ⟨_, rfl⟩
                have hln : (P0 :: so ++ List.replicate q skipP).length ≤ 200 := by simp only [List.cons_append, List.length_cons, List.length_append, List.length_replicate]; omega
                have hlw : pb + 1 ≤ wi.heap.size := Nat.le_trans hg hb.size
                have hqk : K - 16 * q = K - 16 * q := rfl
                generalize hmq : K - 16 * q = m at *
                have hmb : m + 16 * q ≤ K := by omega
                have HMQ := Lib.hid hmq
                clear hqk hmq
                by_cases h16 : 16 ≤ m
                · have d16 : decide ((16 : Int) ≤ (m : Int)) = true := decide_eq_true (by omega)
                  have hba : Below wi.heap.size wi (wi.alloc (.cells (pcV skipP).toArray 27)) := (Below.refl _ _).alloc (Nat.le_refl _) _
                  have hoa := own_keepN hP hba
                  have hsza : pb + 1 ≤ (wi.alloc (.cells (pcV skipP).toArray 27)).heap.size := by have := hba.size; omega
                  obtain ⟨Av, cv, hve, _⟩ := own_sliceN hP
                  subst hve
                  go_wp2_with (at_builtin; refine wpList_appN _ rfl (.tmp 47) (.tmp 49) 23 rfl Try.underlying23 hi0 hz0 hz1 hz2 rfl (by omega) hoa rfl rfl (Rd.newN wi 27 (pcV skipP)) rfl (pcV_one skipP) (by omega) (by omega) hsza ?_; intro v7 w7 hown7 hap7)
                  go_roundw
                  case rel =>
                    refine ⟨q + 1, by have := HMQ.out; omega, by rw [show K - 16 * (q + 1) = m - 16 by have := HMQ.out; omega]; congr 1; omega, ?_, hb.trans ((hba.mono hlw).trans (hap7.below (fun k hk => (hoa.lt k hk).1) hsza))⟩
                    unfold PcS
                    rw [List.replicate_succ', ← List.append_assoc, pcRows_snoc, List.length_append]
                    exact hown7
                  case measure => simp [intOf]; omega
                · have d16 : decide ((16 : Int) ≤ (m : Int)) = false := decide_eq_false (by omega)
                  have hqe : q = K / 16 := by have := HMQ.out; omega
                  have hme : m = K % 16 := by have := HMQ.out; omega
                  have HQE := Lib.hid hqe
                  have HME := Lib.hid hme
                  obtain ⟨ln, hlq⟩ : ∃ ln, ln = (P0 :: so ++ List.replicate q skipP).length := ⟨_, rfl⟩
                  unfold PcS at hP
                  rw [← hlq] at hP hln
                  have HLN := Lib.hid hlq
                  obtain ⟨Av, cv, hve, _⟩ := own_sliceN hP
                  subst hve
                  clear hqe hme hlq
                  go_wp2_with fail
                  refine (numberP_any true n m hnb (by omega) wi).mono ?_; rintro e w5 ⟨rfl, hb5⟩
                  generalize hPn : numP true n m = Pn at *
                  have HPN := Lib.hid hPn
                  clear hPn
                  have hP5 := own_keepN hP hb5
                  have hl5 : pb + 1 ≤ w5.heap.size := Nat.le_trans hlw hb5.size
                  have hba : Below w5.heap.size w5 (w5.alloc (.cells (pcV Pn).toArray 27)) := (Below.refl _ _).alloc (Nat.le_refl _) _
                  have hoa := own_keepN hP5 hba
                  have hsza : pb + 1 ≤ (w5.alloc (.cells (pcV Pn).toArray 27)).heap.size := by have := hba.size; omega
                  go_wp2_with (at_builtin; refine wpList_appN _ rfl (.tmp 51) (.tmp 55) 23 rfl Try.underlying23 hi0 hz0 hz1 hz2 rfl (by omega) hoa rfl rfl (Rd.newN w5 27 (pcV Pn)) rfl (pcV_one Pn) (by omega) (by omega) hsza ?_; intro v7 w7 hown7 hap7)
                  go_roundw
                  case rel =>
                    refine ⟨i + 1, by omega, by go_num, by rw [HII2.out, HNX.out]; rfl, ?_, hb.trans ((hb5.mono hlw).trans ((hba.mono hl5).trans (hap7.below (fun k hk => (hoa.lt k hk).1) hsza)))⟩
                    rw [HII2.out, HNX.out, ← HME.out, ← HQE.out, HPN.out]
                    show PcS w7 (pb + 1) _ v7 (P0 :: so ++ List.replicate q skipP ++ [Pn])
                    unfold PcS
                    rw [pcRows_snoc, List.length_append, ← HLN.out]
                    exact hown7
                  case measure => simp [intOf]; omega
        · have hi64 : i = 64 := by omega
          have d64 : decide ((i : Int) < 64) = false := decide_eq_false (by omega)
          subst hi64
          have hlw : pb + 1 ≤ wo.heap.size := Nat.le_trans hg hb.size
          have hpcs : pcs b ahead = P0 :: (pst b 63).1 ++ tailP (pst b 63).2 := by
            show numP false (b.getD 0 0 - ahead) 0 :: _ = _
            rw [HQ0.out, HP0.out]; rfl
          have HPC := Lib.hid hpcs
          obtain ⟨Av, cv, hve, _⟩ := own_sliceN hP
          subst hve
          rw [show (64 : Nat) - 1 = 63 from rfl] at hbd hP ⊢
          generalize hsq : pst b 63 = st at *
          obtain ⟨so, K⟩ := st
          have hbw2 := hbw.trans (hb.mono (by rw [HPB.out]; omega))
          simp only at hbd hP ⊢
          clear hpcs hsq
          by_cases hK : 0 < K
          · have dk : decide ((0 : Int) < (K : Int)) = true := decide_eq_true (by omega)
            have hln : (P0 :: so).length ≤ 200 := by simp only [List.length_cons]; omega
            have hba : Below wo.heap.size wo (wo.alloc (.cells (pcV endP).toArray 27)) := (Below.refl _ _).alloc (Nat.le_refl _) _
            have hoa := own_keepN hP hba
            have hsza : pb + 1 ≤ (wo.alloc (.cells (pcV endP).toArray 27)).heap.size := by have := hba.size; omega
            go_wp2_with (at_builtin; refine wpList_appN _ rfl (.tmp 60) (.tmp 62) 23 rfl Try.underlying23 hi0 hz0 hz1 hz2 rfl (by omega) hoa rfl rfl (Rd.newN wo 27 (pcV endP)) rfl (pcV_one endP) (by omega) (by omega) hsza ?_; intro v7 w7 hown7 hap7)
            go_ret2
            refine ⟨fun _ => ⟨v7, rfl, ?_⟩, fun h => absurd ⟨HG.out, HDD.out⟩ h, hbw2.trans (((hba.mono hlw).trans (hap7.below (fun k hk => (hoa.lt k hk).1) hsza)).mono (by rw [HPB.out]; omega))⟩
            rw [HPC.out]
            have ht : tailP K = [endP] := if_pos hK
            show PcS w7 _ _ v7 (P0 :: so ++ tailP K)
            rw [ht]
            unfold PcS
            rw [pcRows_snoc, List.length_append]
            exact own_baseN hown7 (fun k hk => by have := (hown7.lt k hk).1; rw [HPB.out]; omega)
          · have dk : decide ((0 : Int) < (K : Int)) = false := decide_eq_false (by omega)
            go_wp2
            go_ret2
            refine ⟨fun _ => ⟨_, rfl, ?_⟩, fun h => absurd ⟨HG.out, HDD.out⟩ h, hbw2⟩
            rw [HPC.out]
            have ht : tailP K = [] := if_neg hK
            show PcS wo _ _ _ (P0 :: so ++ tailP K)
            rw [ht, List.append_nil]
            exact own_baseN hP (fun k hk => by have := (hP.lt k hk).1; rw [HPB.out]; omega)
    · have HD := Lib.hid (decide_eq_false hd)
      have HND := Lib.hid hd
      clear hd
      go_wp2_with (go_at_call 106; refine (dcIn_any _ _).mono ?_; rintro e w' ⟨rfl, rfl⟩; rw [HD.out])
      go_ret2
      exact ⟨fun h => absurd h.2 HND.out, fun _ => rfl, hbw⟩
  · obtain rfl := h2 hg
    have HNG := Lib.hid hg
    unfold errV
    clear h1 h2 hg
    go_wp2
    go_ret2
    exact ⟨fun h => absurd h.1 HNG.out, fun _ => rfl, hbw⟩
end Go.Proofs.Ytlhappecjjbopaa
