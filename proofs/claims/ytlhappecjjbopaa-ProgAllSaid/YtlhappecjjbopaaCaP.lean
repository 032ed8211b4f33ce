/-
  CanonPrefix: no code begins another one, and codes rise with their lengths. No condition.
-/
import Derived.Test.YtlhappecjjbopaaCaB
import Derived.Test.YtlhappecjjbopaaFacts
namespace Go.Proofs.Ytlhappecjjbopaa
open Go.ChangeShapes Go.WideShapes Go.ChangeAt Go.WideMaps Go.WideElems Go.RowKit Go.Joins
set_option linter.unusedVariables false
set_option maxRecDepth 100000

def exL : List Int := [3, 3, 3, 3, 3, 2, 4, 4]
theorem ex_fm : Fm exL := by decide +kernel
theorem ex_is : Is exL := by intro x hx; simp [exL] at hx; omega
theorem example_any (w : World) : Calls Try.prog 30 #[] w fun e w' => e = .returned (.slice (some ⟨w.heap.size, 0, none⟩) 8 8) ∧ Rd w' w'.heap.size (some ⟨w.heap.size, 0, none⟩) (iv exL) ∧ Below w.heap.size w w' := by
  go_enter Try.func30, Try.ntmps30
  go_wp2
  go_ret
  refine ⟨rfl, ?_, (Below.refl _ _).alloc (Nat.le_refl _) _⟩
  have h : Rd (w.alloc (.cells (iv exL).toArray 3)) (w.heap.size + 1) (some ⟨w.heap.size, 0, none⟩) (iv exL) := by
    refine .inr ⟨_, 0, rfl, by omega, fun k u hu => ?_⟩
    rw [World.cell?_alloc_at _ _ _ _ rfl, Nat.zero_add]
    simpa using hu
  have h2 : (w.alloc (.cells (iv exL).toArray 3)).heap.size = w.heap.size + 1 := by simp
  show Rd (w.alloc (.cells (iv exL).toArray 3)) (w.alloc (.cells (iv exL).toArray 3)).heap.size _ _
  rw [h2]; exact h
/-- the codes of the chapter's lengths -/
theorem ex_codes {C : List Int} (h : Cd exL C) : C = [2, 3, 4, 5, 6, 0, 14, 15] := by
  obtain ⟨hl, hc, _⟩ := h
  have h5 := (hc 0 5 (by decide +kernel)).2
  have h0 := (hc 1 0 (by decide +kernel)).2
  have h1 := (hc 2 1 (by decide +kernel)).2
  have h2 := (hc 3 2 (by decide +kernel)).2
  have h3 := (hc 4 3 (by decide +kernel)).2
  have h4 := (hc 5 4 (by decide +kernel)).2
  have h6 := (hc 6 6 (by decide +kernel)).2
  have h7 := (hc 7 7 (by decide +kernel)).2
  rw [show wt (exL.getD 5 0) = 16384 from by decide +kernel, show at_ exL 0 = 0 from rfl] at h5
  rw [show wt (exL.getD 0 0) = 8192 from by decide +kernel, show at_ exL 1 = 16384 from by decide +kernel] at h0
  rw [show wt (exL.getD 1 0) = 8192 from by decide +kernel, show at_ exL 2 = 24576 from by decide +kernel] at h1
  rw [show wt (exL.getD 2 0) = 8192 from by decide +kernel, show at_ exL 3 = 32768 from by decide +kernel] at h2
  rw [show wt (exL.getD 3 0) = 8192 from by decide +kernel, show at_ exL 4 = 40960 from by decide +kernel] at h3
  rw [show wt (exL.getD 4 0) = 8192 from by decide +kernel, show at_ exL 5 = 49152 from by decide +kernel] at h4
  rw [show wt (exL.getD 6 0) = 4096 from by decide +kernel, show at_ exL 6 = 57344 from by decide +kernel] at h6
  rw [show wt (exL.getD 7 0) = 4096 from by decide +kernel, show at_ exL 7 = 61440 from by decide +kernel] at h7
  have hl8 : C.length = 8 := hl
  match C, hl8 with
  | [a, b, c, d, e, f, g, k], _ =>
    simp only [List.getD_eq_getElem?_getD, List.getElem?_cons_zero, List.getElem?_cons_succ, Option.getD_some] at h0 h1 h2 h3 h4 h5 h6 h7
    simp only [List.cons.injEq, and_true]
    refine ⟨?_, ?_, ?_, ?_, ?_, ?_, ?_, ?_⟩ <;> omega

set_option maxHeartbeats 4000000 in
theorem canonPrefix_any (w : World) (A : Option Addr) (n c : Nat) (ls : List Int) (hn : ls.length = n) (hcc : n ≤ c) (hmm : c ≤ 9223372036854775807) (hR : Rd w w.heap.size A (iv ls)) (hI : Is ls) :
    Calls Try.prog 7 #[.slice A n c] w fun e w' => e = .returned (.bool true) ∧ Below w.heap.size w w' := by
  have HN := Lib.hid hn
  clear hn
  go_enter Try.func7, Try.ntmps7
  go_wp2_with fail
  refine (example_any w).mono ?_; rintro e w1 ⟨rfl, hR1, hb1⟩
  go_wp2_with fail
  refine (codes_any _ 8 8 exL w1 rfl hR1 ex_is).mono ?_; rintro e w2 ⟨h1, _, hb2⟩
  obtain ⟨C, g, rfl, hoC, hCd⟩ := h1 ex_fm
  rw [ex_codes hCd] at hoC
  have hb2' := hb1.trans (hb2.mono hb1.size)
  have hc7 : w2.cell? ⟨g, 7, none⟩ = some (.int .i64 15) := by rw [hoC.cellAt 7 (by omega)]; rfl
  clear h1 hR1 hoC hCd
  by_cases hn6 : 600 < n
  · go_wp2
    go_ret
    exact ⟨rfl, hb2'⟩
  have hdn : decide ((600 : Int) < (n : Int)) = false := by simp; omega
  have hs2 := hb2'.size
  go_wp2_with fail
  refine (codes_any A n c ls w2 HN.out ((hR.below hb2').more hs2) hI).mono ?_; rintro e w3 ⟨h1, h2, hb3⟩
  have hb3' := hb2'.trans (hb3.mono hs2)
  clear hc7
  by_cases hf : Fm ls
  · obtain ⟨C, gc, rfl, hoC, hCd⟩ := h1 hf
    have HV := Lib.hid hf.2.1
    have HCD := Lib.hid hCd
    have hCl : C.length = n := by rw [hCd.1, HN.out]
    have HCL := Lib.hid hCl
    clear h1 h2 hf hCd hCl
    generalize w2.heap.size = B2 at *
    go_wp2
    go_loopw [41] (fun i wr => ∃ a : Nat, a ≤ n ∧ i = .int .i64 a ∧ wr.ownsRow B2 3 1 (.slice (some ⟨gc, 0, none⟩) n n) n (iv C) ∧ Below w.heap.size w wr) (fun i _ => n - (intOf i).toNat)
    case atStart => exact ⟨0, Nat.zero_le _, rfl, hoC, hb3'⟩
    case round =>
      obtain ⟨a, ha, rfl, ho, hb⟩ := hrel
      obtain ⟨wo, rfl⟩ : ∃ wo : World, wo = wr := ⟨_, rfl⟩
      clear hoC hb3'
      by_cases hlt : a < n
      · obtain ⟨b1, o1, rfl, _, hcell1⟩ := (hR.below hb).at_ (k := a) (by rw [iv_len, HN.out]; exact hlt)
        have hc1 := hcell1 a _ (ivs_get (by rw [HN.out]; exact hlt))
        have hmv := HV.out _ (getD_in (l := ls) (k := a) (by rw [HN.out]; exact hlt))
        obtain ⟨m, hm⟩ := Int.eq_ofNat_of_zero_le hmv.1
        rw [hm] at hc1 hmv
        have HM := Lib.hid hm
        clear hcell1 hm
        go_wp2
        go_loopw [48] (fun i wr => ∃ b : Nat, b ≤ n ∧ i = .int .i64 b ∧ wr.ownsRow B2 3 1 (.slice (some ⟨gc, 0, none⟩) n n) n (iv C) ∧ Below w.heap.size w wr) (fun i _ => n - (intOf i).toNat)
        case atStart => exact ⟨0, Nat.zero_le _, rfl, ho, hb⟩
        case round =>
          obtain ⟨b, hbn, rfl, ho, hb⟩ := hrel
          by_cases hltb : b < n
          · have hc1' := (hR.below hb)
            obtain ⟨b2, o2, hbe, _, hcell2⟩ := (hR.below hb).at_ (k := b) (by rw [iv_len, HN.out]; exact hltb)
            injection hbe with hbe
            injection hbe with hbe1 hbe2
            subst hbe1 hbe2
            have hc2 := hcell2 b _ (ivs_get (by rw [HN.out]; exact hltb))
            have hnv := HV.out _ (getD_in (l := ls) (k := b) (by rw [HN.out]; exact hltb))
            have hpre := cd_prefix (a := a) (b := b) HV.out HCD.out (by rw [HN.out]; exact hlt) (by rw [HN.out]; exact hltb)
            have hris := cd_rise (a := a) (b := b) HV.out HCD.out (by rw [HN.out]; exact hlt) (by rw [HN.out]; exact hltb)
            rw [HM.out] at hpre hris
            obtain ⟨q, hq⟩ := Int.eq_ofNat_of_zero_le hnv.1
            rw [hq] at hc2 hnv hpre hris
            have hca := World.ownsRow.cellAt ho a (by omega)
            rw [ivs_get (by rw [HCL.out]; exact hlt)] at hca
            have hcb := World.ownsRow.cellAt ho b (by omega)
            rw [ivs_get (by rw [HCL.out]; exact hltb)] at hcb
            have hab2 : a = b → m = q := fun e => by
              subst e
              have := HM.out
              rw [hq] at this; omega
            clear hcell2 hc1' hq
            generalize C.getD a 0 = ca at *
            generalize C.getD b 0 = cb at *
            have hkd : ∀ nq, World.ownsRow (wr.drewN nq) B2 3 1 (.slice (some ⟨gc, 0, none⟩) n n) n (iv C) := fun nq => own_keep ho (below_drewN (Below.refl wr.heap.size wr) nq)
            have HKD := Lib.hid hkd
            have ia0 : (0 : Int) ≤ (a : Int) := by omega
            have ia1 : (a : Int) < (n : Int) := by omega
            have ib0 : (0 : Int) ≤ (b : Int) := by omega
            have ib1 : (b : Int) < (n : Int) := by omega
            clear hkd ho
            by_cases hab : a = b
            · have hmq := hab2 hab
              have d1 : ((a : Int) != (b : Int)) = false := by simp; omega
              have d2 : decide ((m : Int) < (q : Int)) = false := by simp; omega
              have d2n : decide (m < q) = false := by simp; omega
              clear hab hmq hab2 hpre hris
              by_cases hm0 : 0 < m
              · have d3 : decide ((0 : Int) < (m : Int)) = true := by simp; omega
                have d3n : decide (0 < m) = true := by simp; omega
                go_wp2
                go_quiet (fail)
                go_wp2
                go_quiet (fail)
                go_wp2
                go_roundw
                case rel => exact ⟨b + 1, by omega, by go_num, HKD.out _, below_drewN hb _⟩
                case measure => simp [intOf]; omega
              · have d3 : decide ((0 : Int) < (m : Int)) = false := by simp; omega
                have d3n : decide (0 < m) = false := by simp; omega
                go_wp2
                go_quiet (fail)
                go_wp2
                go_quiet (fail)
                go_wp2
                go_roundw
                case rel => exact ⟨b + 1, by omega, by go_num, HKD.out _, below_drewN hb _⟩
                case measure => simp [intOf]; omega
            · have d1 : ((a : Int) != (b : Int)) = true := by simp; omega
              by_cases hm0 : 0 < m
              · have d3 : decide ((0 : Int) < (m : Int)) = true := by simp; omega
                have d3n : decide (0 < m) = true := by simp; omega
                by_cases hqm : m ≤ q
                · have d4 : decide ((m : Int) ≤ (q : Int)) = true := by simp; omega
                  have d4n : decide (m ≤ q) = true := by simp; omega
                  have hp := hpre hab (by omega) (by omega)
                  have hsub : IntKind.i64.wrap ((q : Int) - (m : Int)) = ((q - m : Nat) : Int) := by rw [IntWalk.i64_in _ (by omega)]; omega
                  have hu : IntKind.u64.wrap ((q - m : Nat) : Int) = ((q - m : Nat) : Int) := by simp [IntKind.wrap, IntKind.bits, IntKind.signed]; omega
                  rw [show ((q : Int) - (m : Int)).toNat = q - m by omega] at hp
                  have e1 : (cb / 2 ^ (q - m) == ca) = false := by simpa using hp
                  have e2 : (cb / 2 ^ min (q - m) 64 == ca) = false := by rw [Nat.min_eq_left (by omega)]; exact e1
                  have hqm16 : q - m ≤ 16 := by omega
                  by_cases hqm2 : m < q
                  · have hr := hris (by omega) (by omega)
                    have d2 : decide ((m : Int) < (q : Int)) = true := by simp; omega
                    have d2n : decide (m < q) = true := by simp; omega
                    have e3 : decide (cb ≤ ca) = false := by simp; omega
                    clear hab hab2 hpre hris hp hr
                    go_wp2
                    go_quiet (fail)
                    go_wp2
                    go_quiet (fail)
                    go_wp2
                    go_roundw
                    case rel => exact ⟨b + 1, by omega, by go_num, HKD.out _, below_drewN hb _⟩
                    case measure => simp [intOf]; omega
                  · have d2 : decide ((m : Int) < (q : Int)) = false := by simp; omega
                    have d2n : decide (m < q) = false := by simp; omega
                    clear hab hab2 hpre hris hp
                    go_wp2
                    go_quiet (fail)
                    go_wp2
                    go_quiet (fail)
                    go_wp2
                    go_roundw
                    case rel => exact ⟨b + 1, by omega, by go_num, HKD.out _, below_drewN hb _⟩
                    case measure => simp [intOf]; omega
                · have d4 : decide ((m : Int) ≤ (q : Int)) = false := by simp; omega
                  have d4n : decide (m ≤ q) = false := by simp; omega
                  have d2 : decide ((m : Int) < (q : Int)) = false := by simp; omega
                  have d2n : decide (m < q) = false := by simp; omega
                  clear hab hab2 hpre hris
                  go_wp2
                  go_quiet (fail)
                  go_wp2
                  go_quiet (fail)
                  go_wp2
                  go_roundw
                  case rel => exact ⟨b + 1, by omega, by go_num, HKD.out _, below_drewN hb _⟩
                  case measure => simp [intOf]; omega
              · have d3 : decide ((0 : Int) < (m : Int)) = false := by simp; omega
                have d3n : decide (0 < m) = false := by simp; omega
                clear hab hab2 hpre hris
                go_wp2
                go_quiet (fail)
                go_wp2
                go_quiet (fail)
                go_wp2
                go_roundw
                case rel => exact ⟨b + 1, by omega, by go_num, HKD.out _, below_drewN hb _⟩
                case measure => simp [intOf]; omega
          · go_wp2
            go_roundw
            case rel => exact ⟨a + 1, by omega, by go_num, ho, hb⟩
            case measure => simp [intOf]; omega
      · go_wp2
        go_ret
        exact ⟨rfl, hb⟩
  · obtain rfl := h2 hf
    unfold errV
    go_wp2
    go_ret
    exact ⟨rfl, hb3'⟩
namespace CanonPrefix
set_option maxRecDepth 100000 in
theorem contract (H : Type) (enc : TypeId × Value → H) (W : World) (base : Nat) (args : Array Value) (ds gs : List (DataW H)) (before : List MemPlace)
    (hval : ∀ (j : Nat) t v, Try.f7.params[j]? = some t → args[j]? = some v → Value.okWide Try.prog W .any base t v)
    (hW : DataW.Whole enc Try.prog Try.f7.params.toList Rows.canonPrefixSpec.vars false W args.toList ds gs before) :
    Calls Try.prog 7 args W fun e W' => ∃ v, e = .returned v ∧ Rows.canonPrefixSpec.post enc Try.prog Try.f7 false true false false W args v W' := by
  have hW' := hW
  obtain ⟨p, q, hA0, hV, rfl, hfz, hnd⟩ := hW
  have hA : DataW.TrodAll enc Try.prog W 0 (fun _ => true) true Try.f7.params.toList args.toList ds p := hA0
  rw [Try.params7] at hA hval
  clear hA0
  obtain ⟨v0, vs0, d0, ds0, p0, q0, hargs, rfl, rfl, h0, r0⟩ := trodAll_cons hA
  obtain ⟨rfl, rfl, rfl⟩ := trodAll_nil r0
  obtain rfl : args = #[v0] := by cases args; simp_all
  obtain ⟨rfl, rfl⟩ := trodVars_none hV
  obtain ⟨Ax0, nx0, cx0, rfl⟩ := okWide_slice Try.underlying24 (hval 0 _ _ rfl rfl)
  obtain ⟨fu0, hf0⟩ := h0
  obtain ⟨A', n', c', x0, ev0, hnx0, hcx0, hmx0, hRx0, hwx0⟩ := open_rd Try.underlying24 Try.underlying3 (by kernel_rfl) hf0
  injection ev0 with ea eb ec
  subst ea eb ec
  refine (canonPrefix_any W Ax0 nx0 cx0 x0 hnx0 hcx0 hmx0 hRx0 (wf_is hwx0)).mono fun e W' ⟨he, hb⟩ => ?_
  subst he
  exact ⟨_, rfl, post_true Facts.laid hW' rfl rfl Try.underlying4 (by kernel_rfl) rfl hb⟩

set_option maxRecDepth 100000 in
theorem lifted (os : Os) (started : os.Started) (H : Type) (enc : TypeId × Value → H) :
    ReturnsInHanded {} Try.checked os 7 .any (Rows.canonPrefixSpec.pre6 enc Try.prog Try.f7 Rows.canonPrefixRow.domain false) (Rows.canonPrefixSpec.post enc Try.prog Try.f7 false true false false) := by
  refine returnsInHanded_of_change (C := Try.checked) Facts.own started (by kernel_rfl) Try.func7
    (ChangeSpec.witness6 (enc := enc) (C := Try.checked) (os := os) false ⟨#[], #[.slice none 0 0], []⟩ 8 (by kernel_rfl) (by kernel_rfl) (by kernel_rfl) (by kernel_rfl)) ?_
  intro W base args ds gs before hval hW _ _
  exact contract H enc W base args ds gs before hval hW

theorem k_wf : Rows.canonPrefixRow.wf (OpenSpec.ofChange Rows.canonPrefixSpec) = true := by kernel_rfl
theorem k_inp : (Rows.canonPrefixRow.inPlace == Try.prog.inPlace 7) = true := by kernel_rfl
theorem k_unf : (Rows.canonPrefixRow.unfollowed == Try.prog.unfollowed 7) = true := by kernel_rfl
theorem k_rec : (Rows.canonPrefixRow.recurses == Try.prog.recurses 7) = true := by kernel_rfl
theorem k_nam : (Rows.canonPrefixRow.named == Try.prog.varsNamed 7) = true := by kernel_rfl
theorem k_pk : (Rows.canonPrefixRow.plainKeys == Try.prog.plainKeys) = true := (congrArg (fun x => Rows.canonPrefixRow.plainKeys == x) Facts.plainKeys).trans (by kernel_rfl)
theorem k_lf : (Rows.canonPrefixRow.lifted == Try.prog.liftsFinal) = true := (congrArg (fun x => Rows.canonPrefixRow.lifted == x) Facts.liftsFinal).trans (by kernel_rfl)
theorem k_mk : (Try.prog.make == some Rows.canonPrefixRow.make) = true := (congrArg (fun x => x == some Rows.canonPrefixRow.make) Facts.make).trans (by kernel_rfl)
theorem k_par : (Try.f7.params.all (Try.prog.readableRec ·)) = true := by kernel_rfl
theorem k_maps : (Rows.canonPrefixRow.maps == (Try.f7.params.toList ++ Rows.canonPrefixSpec.plain.varTypes Try.prog).any (Try.prog.mapsRec ·)) = true := by kernel_rfl
theorem k_ifs : (Rows.canonPrefixRow.ifaces == (Try.f7.params.toList ++ Rows.canonPrefixSpec.plain.varTypes Try.prog).any (Try.prog.ifacesRec ·)) = true := by kernel_rfl
theorem k_lps : (Rows.canonPrefixRow.loops == (Try.f7.params.toList ++ Rows.canonPrefixSpec.plain.varTypes Try.prog).any (Try.prog.loopsFrom ·)) = true := by kernel_rfl
theorem k_wk : (Rows.canonPrefixRow.wideKeys == (Try.f7.params.toList ++ Rows.canonPrefixSpec.plain.varTypes Try.prog ++ Try.f7.resultTypes.toList).any (Try.prog.wideKeysFrom ·)) = true := by kernel_rfl
theorem k_vl : (Rows.canonPrefixRow.veiled == (Try.f7.params.toList ++ Rows.canonPrefixSpec.plain.varTypes Try.prog ++ Try.f7.resultTypes.toList).any (Try.prog.veiledRec ·)) = true := by kernel_rfl
theorem closed : joinedFacts Try.prog 7 Try.f7 Rows.canonPrefixSpec Rows.canonPrefixRow = true :=
  Facts.and_i (Facts.and_i (Facts.and_i (Facts.and_i (Facts.and_i (Facts.and_i (Facts.and_i (Facts.and_i (Facts.and_i (Facts.and_i (Facts.and_i (Facts.and_i (Facts.and_i (Facts.and_i (Facts.and_i (Facts.and_i (Facts.and_i (Facts.and_i (Facts.and_i (Facts.and_i (Facts.and_i (Facts.and_i (Facts.and_i (Facts.and_i (Facts.and_i (Facts.and_i (Facts.and_i (Facts.and_i (Facts.and_i (Facts.and_i (Facts.and_i
    k_wf Facts.laid) Facts.mapsRowed_) k_par) rfl) rfl) Facts.stops) rfl) Facts.stopKnobs) k_inp) k_unf) k_rec) k_nam) k_maps) k_ifs) (by kernel_rfl)) k_lps) k_wk) rfl) (by kernel_rfl)) (by kernel_rfl)) (by kernel_rfl)) k_pk) rfl) Facts.stopsHeard) Facts.mayEnter) k_lf) k_mk) (by kernel_rfl)) (by kernel_rfl)) k_vl) (by kernel_rfl)
theorem named : Try.prog.funcNamed Rows.canonPrefixRow.func = some 7 := by kernel_rfl

theorem proved : Rows.CanonPrefixSaid :=
  OpenClaim.holds_of_wide 7 Try.f7 rfl rfl rfl rfl rfl rfl rfl ⟨rfl, rfl, rfl, rfl, rfl⟩ rfl rfl rfl rfl rfl named Try.func7 closed
    (of_decide_eq_true (by kernel_rfl)) (by unfold Func.isWrapper; first | (rw [if_pos (by decide +kernel)]; kernel_rfl) | (rw [if_neg (by decide +kernel)]; exact ⟨rfl, rfl⟩))
    (fun os started H enc _ => lifted os started H enc)
end CanonPrefix
#print axioms CanonPrefix.proved
end Go.Proofs.Ytlhappecjjbopaa
