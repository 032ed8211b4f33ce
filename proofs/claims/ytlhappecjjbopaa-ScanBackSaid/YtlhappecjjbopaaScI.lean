/-
  A block's pieces: the document's, and whether two lists are the same, by contracts. No condition.
-/
import Derived.Test.YtlhappecjjbopaaScH
import Derived.Test.YtlhappecjjbopaaScB
namespace Go.Proofs.Ytlhappecjjbopaa
open Go.RowKit
set_option linter.unusedVariables false
set_option maxRecDepth 100000

theorem Try.info_rpc : (Try.prog.info? 26).map (fun i => (i.zero, i.size, i.bytes)) = some (some (.agg #[.bool false, .int .i64 0, .int .i64 0, .int .i64 0]), 4, 32) := by kernel_rfl

set_option maxHeartbeats 8000000 in
theorem refPieces_any (b : List Int) (hb : b.length = 64) (hI : Is b) (hg : GoodB b) (ahead : Int) (hd : DcB ahead) (w : World) : Calls Try.prog 53 #[.agg (iv b).toArray, .int .i64 ahead] w fun e w' => ∃ v, e = .returned v ∧ PcS w' w.heap.size 26 v (pcs b ahead) ∧ Below w.heap.size w w' := by
  obtain ⟨i0, hi0, hz0, hz1, hz2⟩ := info_parts Try.info_rpc
  have hal : ∀ W : World, W.alloc (.cells #[.int .i64 0, .int .i64 0, .int .i64 0, .int .i64 0, .int .i64 0, .int .i64 0, .int .i64 0, .int .i64 0, .int .i64 0, .int .i64 0, .int .i64 0, .int .i64 0, .int .i64 0, .int .i64 0, .int .i64 0, .int .i64 0, .int .i64 0, .int .i64 0, .int .i64 0, .int .i64 0, .int .i64 0, .int .i64 0, .int .i64 0, .int .i64 0, .int .i64 0, .int .i64 0, .int .i64 0, .int .i64 0, .int .i64 0, .int .i64 0, .int .i64 0, .int .i64 0, .int .i64 0, .int .i64 0, .int .i64 0, .int .i64 0, .int .i64 0, .int .i64 0, .int .i64 0, .int .i64 0, .int .i64 0, .int .i64 0, .int .i64 0, .int .i64 0, .int .i64 0, .int .i64 0, .int .i64 0, .int .i64 0, .int .i64 0, .int .i64 0, .int .i64 0, .int .i64 0, .int .i64 0, .int .i64 0, .int .i64 0, .int .i64 0, .int .i64 0, .int .i64 0, .int .i64 0, .int .i64 0, .int .i64 0, .int .i64 0, .int .i64 0, .int .i64 0] 39) = W.alloc (.cells (iv z64).toArray 39) := fun _ => rfl
  have X := Bln.new w 70 (iv b)
  have hb0 : Below w.heap.size w (w.alloc (.cells (iv b).toArray 70)) := (Below.refl _ _).alloc (Nat.le_refl _) _
  have HB := Lib.hid hb
  have HG := Lib.hid hg
  have hd1 := hd.1
  have hd2 := hd.2
  have hg1 := hg.2.1
  have hg2 := hg.2.2
  clear hb hg hd
  go_enter Try.func53, Try.ntmps53
  go_upto_region 1 with fail
  generalize w.alloc (.cells (iv b).toArray 70) = w1 at *
  have hpl : w.heap.size < w1.heap.size := X.lt
  generalize hpq : w.heap.size = pb at *
  have HPB := Lib.hid hpq
  clear hpq
  have hcc : ∀ j, j < 64 → w1.cell? ⟨pb, j, none⟩ = some (.int .i64 (b.getD j 0)) := fun j hj => X.cell (ivs_get (by rw [HB.out]; omega))
  have c0 := hcc 0 (by omega)
  generalize hq0 : b.getD 0 0 = b0 at *
  have HQ0 := Lib.hid hq0
  have HCC := Lib.hid hcc
  have hbw : Below w.heap.size w w1 := by rw [HPB.out]; exact hb0
  clear hq0 hcc hb0 X
  go_upto_region 2 with fail
  have hS := fun W => rsize_any (b0 - ahead) W
  have hE := fun W => rextra_any (b0 - ahead) W
  have hpv : pcV (numP false (b0 - ahead) 0) = [.bool false, .int .i64 (szN (b0 - ahead)), .int .i64 (exZ (b0 - ahead)), .int .i64 (szN (b0 - ahead))] := by simp [pcV, numP]
  have hN := PcS.new w1 (pb + 1) (by omega) 26 (numP false (b0 - ahead) 0)
  have hba : Below w1.heap.size w1 (w1.alloc (.cells (pcV (numP false (b0 - ahead) 0)).toArray 26)) := (Below.refl _ _).alloc (Nat.le_refl _) _
  have hpcs : ∀ st, pst b 63 = st → pcs b ahead = numP false (b0 - ahead) 0 :: st.1 ++ tailP st.2 := fun st h => by
    show numP false (b.getD 0 0 - ahead) 0 :: _ = _
    rw [HQ0.out, ← h]; rfl
  generalize hP0 : numP false (b0 - ahead) 0 = P0 at *
  rw [hpv] at hN hba
  have HP0 := Lib.hid hpv
  have HPC := Lib.hid hpcs
  have HS := Lib.hid hS
  have HE := Lib.hid hE
  generalize szN (b0 - ahead) = s0 at *
  generalize exZ (b0 - ahead) = e0 at *
  clear hpv hpcs hS hE hP0
  go_upto_region 3 with (first | (go_at_call 41; refine (HS.out _).mono ?_; rintro e w' ⟨rfl, rfl⟩) | (go_at_call 42; refine (HE.out _).mono ?_; rintro e w' ⟨rfl, rfl⟩))
  generalize w1.alloc (.cells #[.bool false, .int .i64 s0, .int .i64 e0, .int .i64 s0] 26) = w3 at *
  have hb3 := hba
  have hs3 := hb3.size
  go_wp2_with fail
  refine (order_ref w3).mono ?_; rintro e w4 ⟨rfl, hb4⟩
  have hb14 : Below w1.heap.size w1 w4 := hb3.trans (hb4.mono hs3)
  have hN4 := own_keepN hN hb4
  have hzl : (iv zzL).length = 64 := by rw [iv_len]; rfl
  obtain ⟨ZL, hZL⟩ : ∃ z, z = zzL := ⟨_, rfl⟩
  rw [← hZL] at hzl ⊢
  have HZL := Lib.hid hZL
  have hsz : (iv ZL).toArray.size = 64 := hzl
  have hll : ZL.length = 64 := by rw [← iv_len]; exact hzl
  have HLL := Lib.hid hll
  obtain ⟨XD, hbd⟩ := Bln.copy w4 39 (iv z64) (iv ZL) (by rw [hzl, iv_len]; rfl)
  have hth : (w4.alloc (.cells (iv z64).toArray 39)).there w4.heap.size 0 (iv ZL).toArray.size := by
    rw [hsz]
    exact (Bln.new w4 39 (iv z64)).there 64 (by rw [iv_len]; decide)
  have hone := one_iv ZL
  have HSZ := Lib.hid hsz
  have hN5 := own_keepN hN4 hbd
  have hb15 := hb14.trans (hbd.mono hb14.size)
  have hgo : w1.heap.size < w4.heap.size := by have := (hN4.lt w1.heap.size rfl).2; omega
  have hg : pb + 1 ≤ w1.heap.size := by omega
  have hb5' := hb15.mono hg
  clear hZL hsz hzl hll hN hN4 hba hb3 hb4 hb14 hs3 c0
  go_upto_region 4 with (refine wpList_store_mid rfl 39 (.tmp 7) (.tmp 24) rfl _ _ (iv ZL).toArray rfl rfl hth (by rw [HSZ.out]; exact Try.info_block) (all_oneCell_toArray hone) ?_)
  generalize (w4.alloc (.cells (iv z64).toArray 39)).setCells w4.heap.size 0 (iv ZL) = w5 at *
  generalize w4.heap.size = ob at *
  generalize hg0q : w1.heap.size = g0 at *
  have HG0 := Lib.hid hg0q
  clear hg0q
  have hNp : PcS w5 (pb + 1) 26 (.slice (some ⟨g0, 0, none⟩) 1 1) [P0] := by
    unfold PcS
    rw [show pcRows [P0] = pcV P0 by simp [pcRows], HP0.out]
    rw [show pcRows [P0] = pcV P0 by simp [pcRows], HP0.out] at hN5
    exact hN5
  have hne5 : (Value.slice (some ⟨g0, 0, none⟩) 1 1).ownBlock ≠ some ob := fun e => by
    have h1 : g0 = ob := Option.some.inj e
    omega
  clear hN5 hth hbd hb15 hal hone hgo
  go_wp2
  go_loopw [6, 8, 9] (fun v la ix wr => ∃ i : Nat, 1 ≤ i ∧ i ≤ 64 ∧ ix = .int .i64 i ∧ la = .int .i64 (((i - 1 - (pst b (i - 1)).2 : Nat)) : Int) ∧ PcS wr (pb + 1) 26 v (P0 :: (pst b (i - 1)).1) ∧ v.ownBlock ≠ some ob ∧ Bln wr ob 39 (iv ZL) ∧ Below (pb + 1) w1 wr) (fun _ _ ix _ => 64 - (intOf ix).toNat)
  case atStart => exact ⟨1, Nat.le_refl _, by omega, rfl, rfl, hNp, hne5, XD, hb5'⟩
  case round =>
    obtain ⟨i, hi1, hi, rfl, rfl, hP, hne, X, hb⟩ := hrel
    clear hNp hne5 XD hb5'
    obtain ⟨wo, rfl⟩ : ∃ wo : World, wo = wr := ⟨_, rfl⟩
    have hbd := pst_bd b (i - 1)
    by_cases h64 : i < 64
    · have d64 : decide ((i : Int) < 64) = true := decide_eq_true (by omega)
      obtain ⟨hz1', hz2', hz3'⟩ := zzN_bd i h64
      have eo := X.cell (i := i) (ivs_get (by rw [HLL.out]; exact h64))
      rw [HZL.out, hz2'] at eo
      have eat := (hb.cell (p := ⟨pb, zzN i, none⟩) (by show pb < pb + 1; omega)).trans (HCC.out (zzN i) hz1')
      have hst0 := pst_zero b (i - 1)
      have hst1 := pst_num b (i - 1)
      have hnb := hI _ (getD_in (l := b) (k := zzN i) (by rw [HB.out]; exact hz1'))
      have hat0 : (0 : Int) ≤ (zzN i : Int) := by omega
      have hat1 : (zzN i : Int) < 64 := by omega
      have hi0' : (0 : Int) ≤ (i : Int) := by omega
      have hi1' : (i : Int) < 64 := by omega
      generalize hzq : zzN i = z at *
      generalize hnq : b.getD z 0 = n at *
      have HNQ := Lib.hid hnq
      have HZQ := Lib.hid hzq
      have HS0 := Lib.hid hst0
      have HS1 := Lib.hid hst1
      have hii : i - 1 + 1 = i := by omega
      have HII := Lib.hid hii
      have hii2 : i + 1 - 1 = i := by omega
      have HII2 := Lib.hid hii2
      generalize hsq : pst b (i - 1) = st at *
      clear hzq hnq hst0 hst1 hz3' hz2' hii hii2 hsq
      by_cases hn0 : n = 0
      · have dn : (n == 0) = true := by simp; exact hn0
        have hnext : pst b i = (st.1, st.2 + 1) := by
          have := HS0.out
          rw [HII.out, HZQ.out, HNQ.out] at this
          exact this hn0
        have HNX := Lib.hid hnext
        clear hnext hn0
        go_wp2
        go_roundw
        case rel => exact ⟨i + 1, by omega, by omega, by go_num, by rw [HII2.out, HNX.out]; congr 1; simp only; omega, by rw [HII2.out, HNX.out]; exact hP, hne, X, hb⟩
        case measure => simp [intOf]; omega
      · have dn : (n == 0) = false := by simp; exact hn0
        have hnext : pst b i = (st.1 ++ List.replicate (st.2 / 16) skipP ++ [numP true n (st.2 % 16)], 0) := by
          have := HS1.out
          rw [HII.out, HZQ.out, HNQ.out] at this
          exact this hn0
        have HNX := Lib.hid hnext
        obtain ⟨so, K⟩ := st
        simp only at hbd hP hnext ⊢
        obtain ⟨L, hL⟩ : ∃ L, L = i - 1 - K := ⟨_, rfl⟩
        rw [← hL]
        have hL1 : L + K + 1 ≤ i := by omega
        have hL2 : i ≤ L + K + 1 := by omega
        clear hnext hn0 hL
        go_wp2
        go_loopw [6, 10] (fun v nz wr => ∃ q : Nat, q ≤ K / 16 ∧ nz = .int .i64 ((K - 16 * q : Nat) : Int) ∧ PcS wr (pb + 1) 26 v (P0 :: so ++ List.replicate q skipP) ∧ v.ownBlock ≠ some ob ∧ Bln wr ob 39 (iv ZL) ∧ Below (pb + 1) w1 wr) (fun _ nz _ => (intOf nz).toNat)
        case atStart => exact ⟨0, Nat.zero_le _, by rw [Nat.mul_zero, Nat.sub_zero]; congr 1; omega, by simpa using hP, hne, X, hb⟩
        case round =>
          clear hP hne X hb eat eo
          obtain ⟨q, hq, rfl, hP, hne, X, hb⟩ := hrel
          obtain ⟨wi, rfl⟩ : ∃ wi : World, wi = wr := ⟨_, rfl⟩
          have hln : (P0 :: so ++ List.replicate q skipP).length ≤ 200 := by simp only [List.cons_append, List.length_cons, List.length_append, List.length_replicate]; omega
          have hlw : pb + 1 ≤ wi.heap.size := by have := hb.size; have := HG0.out; omega
          have hol := X.lt
          generalize hmq : K - 16 * q = m at *
          have hmb : m + 16 * q ≤ K := by omega
          have HMQ := Lib.hid hmq
          clear hmq
          obtain ⟨ln, hlq⟩ : ∃ ln, ln = (P0 :: so ++ List.replicate q skipP).length := ⟨_, rfl⟩
          unfold PcS at hP
          rw [← hlq] at hP hln
          have HLN := Lib.hid hlq
          obtain ⟨Av, cv, hve, _⟩ := own_sliceN hP
          subst hve
          clear hlq
          by_cases h16 : 16 ≤ m
          · have d16 : decide ((16 : Int) ≤ (m : Int)) = true := decide_eq_true (by omega)
            have hba : Below wi.heap.size wi (wi.alloc (.cells (pcV skipP).toArray 26)) := (Below.refl _ _).alloc (Nat.le_refl _) _
            have hoa := own_keepN hP hba
            have Xa := X.below hba
            have hsza : pb + 1 ≤ (wi.alloc (.cells (pcV skipP).toArray 26)).heap.size := by have := hba.size; omega
            go_wp2_with (at_builtin; refine wpList_appN _ rfl (.tmp 41) (.tmp 43) 22 rfl Try.underlying22 hi0 hz0 hz1 hz2 rfl (by omega) hoa rfl rfl (Rd.newN wi 26 (pcV skipP)) rfl (pcV_one skipP) (by omega) (by omega) hsza ?_; intro v7 w7 hown7 hap7)
            go_roundw
            case rel =>
              refine ⟨q + 1, by have := HMQ.out; omega, by rw [show K - 16 * (q + 1) = m - 16 by have := HMQ.out; omega]; congr 1; omega, ?_, fun e => ?_, Xa.keep hap7.fr hne, hb.trans ((hba.mono hlw).trans (hap7.below (fun k hk => (hoa.lt k hk).1) hsza))⟩
              · unfold PcS
                rw [List.replicate_succ', ← List.append_assoc, pcRows_snoc, List.length_append, ← HLN.out]
                exact hown7
              · rcases hap7.row ob e with h1 | h1
                · exact hne h1
                · have h2 : (wi.alloc (.cells (pcV skipP).toArray 26)).heap.size ≤ ob := h1
                  have := hba.size; omega
            case measure => simp [intOf]; omega
          · have d16 : decide ((16 : Int) ≤ (m : Int)) = false := decide_eq_false (by omega)
            have hqe : q = K / 16 := by have := HMQ.out; omega
            have hme : m = K % 16 := by have := HMQ.out; omega
            have HQE := Lib.hid hqe
            have HME := Lib.hid hme
            have eo := X.cell (i := i) (ivs_get (by rw [HLL.out]; exact h64))
            have hz2' := (zzN_bd i h64).2.1
            rw [HZL.out, hz2', HZQ.out] at eo
            have eat := (hb.cell (p := ⟨pb, z, none⟩) (by show pb < pb + 1; omega)).trans (HCC.out z hz1')
            rw [HNQ.out] at eat
            have hS := fun W => rsize_any n W
            have hE := fun W => rextra_any n W
            have hsb := szN_bd n
            have heb := exZ_bd2 n
            have hpv : pcV (numP true n m) = [.bool true, .int .i64 (16 * (m : Int) + (szN n : Int)), .int .i64 (exZ n), .int .i64 (szN n)] := rfl
            have hba : Below wi.heap.size wi (wi.alloc (.cells (pcV (numP true n m)).toArray 26)) := (Below.refl _ _).alloc (Nat.le_refl _) _
            have hRn := Rd.newN wi 26 (pcV (numP true n m))
            have hon := pcV_one (numP true n m)
            have hoa := own_keepN hP hba
            have Xa := X.below hba
            have hsza : pb + 1 ≤ (wi.alloc (.cells (pcV (numP true n m)).toArray 26)).heap.size := by have := hba.size; omega
            rw [hpv] at hba hRn hon hoa Xa hsza
            generalize hPn : numP true n m = Pn at *
            have HPN := Lib.hid hPn
            have HPV := Lib.hid hpv
            have HS := Lib.hid hS
            have HE := Lib.hid hE
            generalize szN n = sn at *
            generalize exZ n = en at *
            clear hqe hme hPn hpv hS hE hz2'
            go_wp2_with (first | (go_at_call 41; refine (HS.out _).mono ?_; rintro e w' ⟨rfl, rfl⟩) | (go_at_call 42; refine (HE.out _).mono ?_; rintro e w' ⟨rfl, rfl⟩) | (at_builtin; refine wpList_appN _ rfl (.tmp 52) (.tmp 63) 22 rfl Try.underlying22 hi0 hz0 hz1 hz2 rfl (by omega) hoa rfl rfl hRn rfl hon (by omega) (by omega) hsza ?_; intro v7 w7 hown7 hap7))
            go_roundw
            case rel =>
              refine ⟨i + 1, by omega, by omega, by go_num, by rw [HII2.out, HNX.out]; congr 1, ?_, fun e => ?_, Xa.keep hap7.fr hne, hb.trans ((hba.mono hlw).trans (hap7.below (fun k hk => (hoa.lt k hk).1) hsza))⟩
              · rw [HII2.out, HNX.out, ← HME.out, ← HQE.out, HPN.out]
                show PcS w7 (pb + 1) _ v7 (P0 :: so ++ List.replicate q skipP ++ [Pn])
                unfold PcS
                rw [pcRows_snoc, List.length_append, ← HLN.out, HPV.out]
                exact hown7
              · rcases hap7.row ob e with h1 | h1
                · exact hne h1
                · have := hba.size; omega
            case measure => simp [intOf]; omega
    · have hi64 : i = 64 := by omega
      have d64 : decide ((i : Int) < 64) = false := decide_eq_false (by omega)
      subst hi64
      have hlw : pb + 1 ≤ wo.heap.size := by have := hb.size; have := HG0.out; omega
      have hpc := HPC.out
      rw [show (64 : Nat) - 1 = 63 from rfl] at hbd hP ⊢
      generalize hsq : pst b 63 = st at *
      obtain ⟨so, K⟩ := st
      have HPC2 := Lib.hid (hpc _ rfl)
      have hbw2 := hbw.trans (hb.mono (by rw [HPB.out]; omega))
      simp only at hbd hP ⊢
      obtain ⟨L, hL⟩ : ∃ L, L = 63 - K := ⟨_, rfl⟩
      rw [← hL]
      have hL1 : L + K ≤ 63 := by omega
      have hL2 : 63 ≤ L + K := by omega
      obtain ⟨ln, hlq⟩ : ∃ ln, ln = (P0 :: so).length := ⟨_, rfl⟩
      have hln : ln ≤ 200 := by rw [hlq]; simp only [List.length_cons]; omega
      unfold PcS at hP
      rw [← hlq] at hP
      have HLN := Lib.hid hlq
      obtain ⟨Av, cv, hve, _⟩ := own_sliceN hP
      subst hve
      clear hpc hsq hL hlq
      by_cases hK : 0 < K
      · have dk : decide ((L : Int) < 63) = true := decide_eq_true (by omega)
        have hba : Below wo.heap.size wo (wo.alloc (.cells (pcV endP).toArray 26)) := (Below.refl _ _).alloc (Nat.le_refl _) _
        have hoa := own_keepN hP hba
        have hsza : pb + 1 ≤ (wo.alloc (.cells (pcV endP).toArray 26)).heap.size := by have := hba.size; omega
        go_wp2_with (at_builtin; refine wpList_appN _ rfl (.tmp 68) (.tmp 70) 22 rfl Try.underlying22 hi0 hz0 hz1 hz2 rfl (by omega) hoa rfl rfl (Rd.newN wo 26 (pcV endP)) rfl (pcV_one endP) (by omega) (by omega) hsza ?_; intro v7 w7 hown7 hap7)
        go_ret
        refine ⟨v7, rfl, ?_, hbw2.trans (((hba.mono hlw).trans (hap7.below (fun k hk => (hoa.lt k hk).1) hsza)).mono (by rw [HPB.out]; omega))⟩
        rw [HPC2.out]
        have ht : tailP K = [endP] := if_pos hK
        show PcS w7 _ _ v7 (P0 :: so ++ tailP K)
        rw [ht]
        unfold PcS
        rw [pcRows_snoc, List.length_append, ← HLN.out]
        exact own_baseN hown7 (fun k hk => by have := (hown7.lt k hk).1; rw [HPB.out]; omega)
      · have dk : decide ((L : Int) < 63) = false := decide_eq_false (by omega)
        go_wp2
        go_ret
        refine ⟨_, rfl, ?_, hbw2⟩
        rw [HPC2.out]
        have ht : tailP K = [] := if_neg hK
        show PcS wo _ _ _ (P0 :: so ++ tailP K)
        rw [ht, List.append_nil]
        unfold PcS
        rw [← HLN.out]
        exact own_baseN hP (fun k hk => by have := (hP.lt k hk).1; rw [HPB.out]; omega)

set_option maxHeartbeats 4000000 in
theorem same21_any (A1 A2 : Option Addr) (n c1 c2 : Nat) (l : List Pc) (w : World) (hn : l.length = n) (h1 : Rd w w.heap.size A1 (pcRows l)) (h2 : Rd w w.heap.size A2 (pcRows l)) (hm : n ≤ 100000) :
    Calls Try.prog 52 #[.slice A1 n c1, .slice A2 n c2] w fun e w' => e = .returned (.bool true) ∧ Below w.heap.size w w' := by
  have HN := Lib.hid hn
  clear hn
  go_enter Try.func52, Try.ntmps52
  go_wp2
  go_loopw [13] (fun ix wr => ∃ i : Nat, i ≤ n ∧ ix = .int .i64 i ∧ Below w.heap.size w wr) (fun ix _ => n - (intOf ix).toNat)
  case atStart => exact ⟨0, Nat.zero_le _, rfl, Below.refl _ _⟩
  case round =>
    obtain ⟨i, hi, rfl, hb⟩ := hrel
    by_cases hlt : i < n
    · have dl : decide (i < n) = true := decide_eq_true hlt
      obtain ⟨p, hp⟩ : ∃ p, l[i]? = some p := ⟨l[i]'(by rw [HN.out]; exact hlt), List.getElem?_eq_getElem _⟩
      have hpl : i * 4 < (pcRows l).length := by rw [pcRows_len, HN.out]; omega
      obtain ⟨b1, o1, rfl, _, hc1⟩ := (h1.below hb).at_ hpl
      obtain ⟨b2, o2, rfl, _, hc2⟩ := (h2.below hb).at_ hpl
      obtain ⟨x0, x1, x2, x3⟩ := p
      have a0 := hc1 _ _ (pcRows_get hp (j := 0) (u := .bool x0) rfl)
      have a1 := hc1 _ _ (pcRows_get hp (j := 1) (u := .int .i64 x1) rfl)
      have a2 := hc1 _ _ (pcRows_get hp (j := 2) (u := .int .i64 x2) rfl)
      have a3 := hc1 _ _ (pcRows_get hp (j := 3) (u := .int .i64 x3) rfl)
      have e0 := hc2 _ _ (pcRows_get hp (j := 0) (u := .bool x0) rfl)
      have e1 := hc2 _ _ (pcRows_get hp (j := 1) (u := .int .i64 x1) rfl)
      have e2 := hc2 _ _ (pcRows_get hp (j := 2) (u := .int .i64 x2) rfl)
      have e3 := hc2 _ _ (pcRows_get hp (j := 3) (u := .int .i64 x3) rfl)
      rw [← Nat.add_assoc] at a0 a1 a2 a3 e0 e1 e2 e3
      rw [Nat.add_zero] at a0 e0
      have hi0 : (0 : Int) ≤ (i : Int) := by omega
      have hi1 : (i : Int) < (n : Int) := by omega
      have db : (x0 != x0) = false := by simp
      have d1 : (x1 != x1) = false := by simp
      have d2 : (x2 != x2) = false := by simp
      have d3 : (x3 != x3) = false := by simp
      clear hc1 hc2 hp hpl
      go_wp2
      go_quiet (fail)
      go_wp2
      go_roundw
      case rel => exact ⟨i + 1, by omega, by go_num, below_drewN hb _⟩
      case measure => simp [intOf]; omega
    · have dl : decide (i < n) = false := decide_eq_false hlt
      go_wp2
      go_ret
      exact ⟨rfl, hb⟩

theorem z64_good : GoodB z64 := by
  have h : ∀ j, z64.getD j 0 = 0 := fun j => by rw [z64, List.getD_eq_getElem?_getD, List.getElem?_replicate]; split <;> rfl
  exact ⟨fun j _ _ => by rw [h]; omega, by rw [h]; unfold DcB; omega⟩
theorem z64_pcs : pcs z64 5 = [(false, 3, 2, 3), (true, 0, 0, 0)] := by decide +kernel
set_option maxHeartbeats 4000000 in
theorem alive21_any (w : World) : Calls Try.prog 47 #[] w fun e w' => e = .returned (.bool true) ∧ Below w.heap.size w w' := by
  go_enter Try.func47, Try.ntmps47
  go_wp2_with fail
  refine (pieces_any z64 rfl (by intro x hx; have := (List.mem_replicate.1 hx).2; omega) 5 w).mono ?_; rintro e w1 ⟨h1, _, hb1⟩
  obtain ⟨v, rfl, hP⟩ := h1 ⟨z64_good, by unfold DcB; omega⟩
  rw [z64_pcs] at hP
  obtain ⟨Av, cv, hve, _, _, hR⟩ := own_sliceN hP
  obtain ⟨b1, o1, hA, _, hc1⟩ := hR.at_ (k := 0) (by decide)
  subst hA
  subst hve
  have a0 := hc1 0 (.bool false) rfl
  have a1 := hc1 1 (.int .i64 3) rfl
  have a2 := hc1 2 (.int .i64 2) rfl
  have a3 := hc1 3 (.int .i64 3) rfl
  have a4 := hc1 4 (.bool true) rfl
  have a5 := hc1 5 (.int .i64 0) rfl
  have a6 := hc1 6 (.int .i64 0) rfl
  have a7 := hc1 7 (.int .i64 0) rfl
  rw [Nat.add_zero] at a0
  clear hc1 hR hP h1
  go_wp2
  go_ret
  exact ⟨rfl, hb1⟩
end Go.Proofs.Ytlhappecjjbopaa
