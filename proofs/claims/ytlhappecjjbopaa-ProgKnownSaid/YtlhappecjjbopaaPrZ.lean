/-
  ProgKnown: what is known of any blocks behind any band. No condition.
-/
import Derived.Test.YtlhappecjjbopaaPrY
import Derived.Test.YtlhappecjjbopaaPrR
import Derived.Test.YtlhappecjjbopaaFacts
import Derived.Test.YtlhappecjjbopaaArw
namespace Go.Proofs.Ytlhappecjjbopaa
open Go.ChangeShapes Go.WideShapes Go.ChangeAt Go.WideMaps Go.WideElems Go.RowKit Go.Joins
set_option linter.unusedVariables false
set_option maxRecDepth 100000

set_option maxHeartbeats 16000000 in
theorem progKnown_any (w : World) (A : Option Addr) (n c : Nat) (rows : List (List Value)) (hn : rows.length = n) (hcc : n ≤ c) (hmm : c ≤ 9223372036854775807) (hrows : ∀ r ∈ rows, r.length = 64 ∧ IvN 64 r) (hR : Rd w w.heap.size A rows.flatten)
    (f : Int) (hf : -9223372036854775808 ≤ f ∧ f ≤ 9223372036854775807) (t : Int) (ht : -9223372036854775808 ≤ t ∧ t ≤ 9223372036854775807) (h : Int) (hh : -9223372036854775808 ≤ h ∧ h ≤ 9223372036854775807) (l : Int) (hl : -9223372036854775808 ≤ l ∧ l ≤ 9223372036854775807) :
    Calls Try.prog 16 #[.slice A n c, .agg #[.int .i64 f, .int .i64 t, .int .i64 h, .int .i64 l]] w (RetT w) := by
  obtain ⟨G, rfl, hG0⟩ := rows_ivs rows hrows
  have hgl : G.length = n := by rw [← hn, List.length_map]
  have hblk : Blk w A n G := ⟨hgl, hR, hG0⟩
  have HBK := Lib.hid hblk
  have HG0 := Lib.hid hG0
  have X0 := Box4.new w 33 (.int .i64 f) (.int .i64 t) (.int .i64 h) (.int .i64 l)
  have hb0 : Below w.heap.size w (w.alloc (.cells #[.int .i64 f, .int .i64 t, .int .i64 h, .int .i64 l] 33)) := (Below.refl _ _).alloc (Nat.le_refl _) _
  clear hrows hn hblk hG0 hR
  go_enter Try.func16, Try.ntmps16
  go_upto_region 1 with fail
  obtain ⟨rb, hrb⟩ : ∃ rb, rb = w.heap.size := ⟨_, rfl⟩
  generalize w.alloc (.cells #[.int .i64 f, .int .i64 t, .int .i64 h, .int .i64 l] 33) = w0 at *
  rw [← hrb] at X0 ⊢
  have HRB := Lib.hid hrb
  clear hrb
  have hs0 := hb0.size
  go_wp2_with fail
  refine (alive22_any w0).mono ?_; rintro e w1 ⟨rfl, hb1⟩
  have X1 := X0.below hb1 X0.lt
  have hb1' := hb0.trans (hb1.mono hs0)
  have hs1 := hb1'.size
  clear X0 hb1 hb0 hs0
  by_cases h100 : 100 < n
  · have d1 : decide ((100 : Int) < (n : Int)) = true := decide_eq_true (by omega)
    go_wp2
    go_ret
    exact ⟨rfl, hb1'⟩
  have d1 : decide ((100 : Int) < (n : Int)) = false := decide_eq_false (by omega)
  obtain ⟨j0, zb, hj0, hy0, hy1, hy2, hy3, _⟩ := info_blk23
  have hba : Below w1.heap.size w1 (w1.alloc (.cells #[] 70)) := (Below.refl _ _).alloc (Nat.le_refl _) _
  have hown0 : (w1.alloc (.cells #[] 70)).ownsRow w1.heap.size 70 64 (.slice (some ⟨w1.heap.size, 0, none⟩) 0 0) 0 [] :=
    World.ownsRow_made w1 #[] 0 (Nat.le_refl _) (by unfold maxLen; omega) (by simp)
  have hbk1 := HBK.out.below hb1'
  have hRa := hbk1.rd.below hba
  have hfl := flat_len64 hbk1.l64
  rw [hbk1.len] at hfl
  have hone := one_ivs G
  go_upto_region 6 with (at_builtin; refine wpList_appN0 _ rfl (.tmp 13) (.tmp 14) 105 rfl Try.underlying105 hj0 hy0 hy1 hy2 hy3 (by omega) hown0 rfl rfl hRa hfl hone (by omega) (by omega) hba.size ?_; intro v2 w2 hown2 hap2; have hb2 : Below w1.heap.size w1 w2 := hba.trans (hap2.below (fun k hk => (hown0.lt k hk).1) hba.size); simp only [Nat.zero_add, List.nil_append] at hown2)
  obtain ⟨Al, cl, hve, _, hcl, _⟩ := own_sliceN hown2
  subst hve
  have X2 := X1.below hb2 X1.lt
  have hb2' := hb1'.trans (hb2.mono hs1)
  have hs2 := hb2'.size
  clear hown0 hba hRa hfl hone hap2 hb2 X1 hb1' hs1 hbk1
  obtain ⟨_, x0, x1, x2, x3⟩ := id X2
  go_wp2_with fail
  refine (band_any f t h l w2).mono ?_; rintro e w3 ⟨rfl, hb3⟩
  have X3 := X2.below hb3 X2.lt
  have ho3 := own_keepN hown2 hb3
  have hb3' := hb2'.trans (hb3.mono hs2)
  have hs3 := hb3'.size
  clear x0 x1 x2 x3 X2 hown2 hb3 hb2' hs2
  go_wp2_with fail
  refine (known_any (w := w3) (c := cl) (Blk.of_own ho3 HBK.out.len HG0.out) (by omega) f t h l).mono ?_; rintro e w4 ⟨hk1, hk2, hb4⟩
  have X4 := X3.below hb4 X3.lt
  have ho4 := own_keepN ho3 hb4
  have hb4' := hb3'.trans (hb4.mono hs3)
  have hs4 := hb4'.size
  have hbl4 := Blk.of_own ho4 HBK.out.len HG0.out
  have hbk4 := HBK.out.below hb4'
  have HB4 := Lib.hid hbk4
  clear X3 ho3 hb3' ho4 hs3
  by_cases hok : Gd f t h l ∧ GoodL G
  · obtain ⟨v4, rfl, hov⟩ := hk1 hok
    obtain ⟨Av, cv, hve, _, _, _⟩ := own_sliceN hov
    subst hve
    have HOK := Lib.hid hok
    clear hk1 hk2 hb4 hok
    go_wp2_with fail
    refine (same22_any Al A n cl n c G G w4 hbl4 hbk4 (by omega)).mono ?_; rintro e w5 ⟨rfl, hb5⟩
    rw [decide_eq_true (rfl : G = G)]
    have X5 := X4.below hb5 X4.lt
    have ho5 := own_keepN hov hb5
    have hb5' := hb4'.trans (hb5.mono hs4)
    have hs5 := hb5'.size
    clear X4 hov hb5 hb4' hs4 hbl4 hbk4
    obtain ⟨_, x0, x1, x2, x3⟩ := id X5
    go_wp2_with fail
    refine (rgood_any f t h l true (fun hg => rfl) (fun hg => absurd HOK.out.1 hg) w5).mono ?_; rintro e w6 ⟨rfl, hb6⟩
    have X6 := X5.below hb6 X5.lt
    have ho6 := own_keepN ho5 hb6
    have hb6' := hb5'.trans (hb6.mono hs5)
    have hs6 := hb6'.size
    clear x0 x1 x2 x3 X5 ho5 hb6 hb5' hs5
    go_wp2_with fail
    refine (blocks22_any A n c G w6 (HBK.out.below hb6') (by omega)).mono ?_; rintro e w7 ⟨rfl, hb7⟩
    rw [gL_t HOK.out.2]
    have X7 := X6.below hb7 X6.lt
    have ho7 := own_keepN ho6 hb7
    have hb7' := hb6'.trans (hb7.mono hs6)
    have hs7 := hb7'.size
    clear X6 ho6 hb7 hb6' hs6
    have hgd2 : 0 ≤ f ∧ f ≤ t ∧ t ≤ 63 ∧ 0 ≤ l ∧ l ≤ 9 := by have := HOK.out.1; unfold Gd at this; omega
    obtain ⟨F, rfl⟩ := Int.eq_ofNat_of_zero_le (show 0 ≤ f by omega)
    obtain ⟨T, rfl⟩ := Int.eq_ofNat_of_zero_le (show 0 ≤ t by omega)
    obtain ⟨K, rfl⟩ := Int.eq_ofNat_of_zero_le (show 0 ≤ l by omega)
    have hft : F ≤ T := by omega
    have hT63 : T ≤ 63 := by omega
    have hK9 : K ≤ 9 := by omega
    obtain ⟨_, x0, x1, x2, x3⟩ := id X7
    clear hgd2
    go_wp2_with fail
    refine (rknown_any (w := w7) (c := c) (HBK.out.below hb7') (by omega) F T K h hft hT63 (by omega) HOK.out.2).mono ?_; rintro e w8 ⟨v8, rfl, ho8, hb8⟩
    have ho78 := own_keepN ho7 hb8
    have hb8' := hb7'.trans (hb8.mono hs7)
    have hs8 := hb8'.size
    rw [Int.toNat_natCast, Int.toNat_natCast] at ho78
    have hml : (G.map (knB F T (K : Int) (decide ((F : Int) = 0)))).length = G.length := List.length_map _
    have hm64 : ∀ x ∈ G.map (knB F T (K : Int) (decide ((F : Int) = 0))), x.length = 64 ∧ Is x := fun x hx => by
      obtain ⟨y, hy, rfl⟩ := List.mem_map.1 hx
      exact ⟨by unfold knB; rw [knG_len]; exact (HG0.out y hy).1, knG_is (HG0.out y hy).1 (HOK.out.2 y hy) F _ _ _ (by omega)⟩
    obtain ⟨A8, c8, hv8, _, _, _⟩ := own_sliceN ho8
    subst hv8
    have hB1 := Blk.of_own ho78 hml hm64
    have hB2 := Blk.of_own ho8 hml hm64
    rw [HBK.out.len] at hB1 hB2
    clear x0 x1 x2 x3 ho7 ho8 ho78 hb8 hb7' hm64 hml
    go_wp2_with fail
    refine (same22_any Av A8 n cv n c8 _ _ w8 hB1 hB2 (by omega)).mono ?_; rintro e w9 ⟨rfl, hb9⟩
    rw [decide_eq_true rfl]
    have hb9' := hb8'.trans (hb9.mono hs8)
    clear hB1 hB2 hb9 hb8'
    go_wp2
    go_ret
    exact ⟨ret_bool (by simp), hb9'⟩
  · obtain rfl := hk2 hok
    have HOK := Lib.hid hok
    clear hk1 hk2 hb4 hok
    unfold errV
    go_wp2_with fail
    refine (same22_any Al A n cl n c G G w4 hbl4 hbk4 (by omega)).mono ?_; rintro e w5 ⟨rfl, hb5⟩
    rw [decide_eq_true (rfl : G = G)]
    have X5 := X4.below hb5 X4.lt
    have hb5' := hb4'.trans (hb5.mono hs4)
    have hs5 := hb5'.size
    clear X4 hb5 hb4' hs4 hbl4 hbk4
    obtain ⟨_, x0, x1, x2, x3⟩ := id X5
    by_cases hgd : Gd f t h l
    · have HGD := Lib.hid hgd
      go_wp2_with fail
      refine (rgood_any f t h l true (fun hg => rfl) (fun hg => absurd hgd hg) w5).mono ?_; rintro e w6 ⟨rfl, hb6⟩
      have hb6' := hb5'.trans (hb6.mono hs5)
      have hs6 := hb6'.size
      clear x0 x1 x2 x3 X5 hb6 hb5' hs5 hgd
      go_wp2_with fail
      refine (blocks22_any A n c G w6 (HBK.out.below hb6') (by omega)).mono ?_; rintro e w7 ⟨rfl, hb7⟩
      rw [gL_f (fun q => HOK.out ⟨HGD.out, q⟩)]
      have hb7' := hb6'.trans (hb7.mono hs6)
      clear hb7 hb6' hs6
      go_wp2_with fail
      refine (is_err 6 6 (by omega) _).mono ?_; rintro e w' ⟨rfl, rfl⟩
      go_wp2
      go_ret
      exact ⟨rfl, hb7'⟩
    · have HGD := Lib.hid hgd
      go_wp2_with fail
      refine (rgood_any f t h l false (fun hg => absurd hg hgd) (fun hg => rfl) w5).mono ?_; rintro e w6 ⟨rfl, hb6⟩
      have hb6' := hb5'.trans (hb6.mono hs5)
      clear x0 x1 x2 x3 X5 hb6 hb5' hs5 hgd
      go_wp2_with fail
      refine (is_err 6 6 (by omega) _).mono ?_; rintro e w' ⟨rfl, rfl⟩
      go_wp2
      go_ret
      exact ⟨rfl, hb6'⟩
namespace ProgKnown
set_option maxRecDepth 100000 in
theorem contract (H : Type) (enc : TypeId × Value → H) (W : World) (base : Nat) (args : Array Value) (ds gs : List (DataW H)) (before : List MemPlace)
    (hval : ∀ (j : Nat) t v, Try.f16.params[j]? = some t → args[j]? = some v → Value.okWide Try.prog W .any base t v)
    (hW : DataW.Whole enc Try.prog Try.f16.params.toList Rows.progKnownSpec.vars false W args.toList ds gs before) :
    Calls Try.prog 16 args W fun e W' => ∃ v, e = .returned v ∧ Rows.progKnownSpec.post enc Try.prog Try.f16 false true false false W args v W' := by
  have hW' := hW
  obtain ⟨p, q, hA0, hV, rfl, hfz, hnd⟩ := hW
  have hA : DataW.TrodAll enc Try.prog W 0 (fun _ => true) true Try.f16.params.toList args.toList ds p := hA0
  rw [Try.params16] at hA hval
  clear hA0
  obtain ⟨v0, vs0, d0, ds0, p0, q0, hargs, rfl, rfl, h0, r0⟩ := trodAll_cons hA
  obtain ⟨v1, vs1, d1, ds1, p1, q1, rfl, rfl, rfl, h1, r1⟩ := trodAll_cons r0
  obtain ⟨rfl, rfl, rfl⟩ := trodAll_nil r1
  obtain rfl : args = #[v0, v1] := by cases args; simp_all
  obtain ⟨rfl, rfl⟩ := trodVars_none hV
  obtain ⟨Ax0, nx0, cx0, rfl⟩ := okWide_slice Try.underlying105 (hval 0 _ _ rfl rfl)
  obtain ⟨fu0, hf0⟩ := h0
  obtain ⟨A', n', c', x0, ev0, hnx0, hcx0, hmx0, hQx0, hRx0⟩ := open_rows (m := 64) (Q := IvN 64) Try.underlying105 (by kernel_rfl) (by omega) (fun _ _ _ hl hy => blk_ivn hl hy) hf0
  injection ev0 with ea eb ec
  subst ea eb ec
  obtain ⟨l1, rfl, hl1, n1, hf1⟩ := open_str Try.underlying33 (hval 1 _ _ rfl rfl) h1
  rw [show Try.prog.cellsOf 33 = 4 by kernel_rfl] at hl1
  obtain ⟨c1_0, t1_0, rfl, hl1_0⟩ := len_cons hl1
  clear hl1
  obtain ⟨c1_1, t1_1, rfl, hl1_1⟩ := len_cons hl1_0
  clear hl1_0
  obtain ⟨c1_2, t1_2, rfl, hl1_2⟩ := len_cons hl1_1
  clear hl1_1
  obtain ⟨c1_3, t1_3, rfl, hl1_3⟩ := len_cons hl1_2
  clear hl1_2
  obtain rfl := len_nil hl1_3
  obtain ⟨y1_0, hy1_0⟩ := hf1 0 _ rfl
  replace hy1_0 : DataW.trod enc Try.prog W 0 (fun _ => true) true n1 3 [c1_0] = some y1_0 := by simpa [show Try.prog.cellsOf 3 = 1 by kernel_rfl] using hy1_0
  obtain ⟨x1, ex1, rfl, wx1⟩ := DataW.trod_int Try.underlying3 hy1_0
  simp only [List.cons.injEq, and_true] at ex1
  subst ex1
  obtain ⟨y1_1, hy1_1⟩ := hf1 1 _ rfl
  replace hy1_1 : DataW.trod enc Try.prog W 0 (fun _ => true) true n1 3 [c1_1] = some y1_1 := by simpa [show Try.prog.cellsOf 3 = 1 by kernel_rfl] using hy1_1
  obtain ⟨x2, ex2, rfl, wx2⟩ := DataW.trod_int Try.underlying3 hy1_1
  simp only [List.cons.injEq, and_true] at ex2
  subst ex2
  obtain ⟨y1_2, hy1_2⟩ := hf1 2 _ rfl
  replace hy1_2 : DataW.trod enc Try.prog W 0 (fun _ => true) true n1 3 [c1_2] = some y1_2 := by simpa [show Try.prog.cellsOf 3 = 1 by kernel_rfl] using hy1_2
  obtain ⟨x3, ex3, rfl, wx3⟩ := DataW.trod_int Try.underlying3 hy1_2
  simp only [List.cons.injEq, and_true] at ex3
  subst ex3
  obtain ⟨y1_3, hy1_3⟩ := hf1 3 _ rfl
  replace hy1_3 : DataW.trod enc Try.prog W 0 (fun _ => true) true n1 3 [c1_3] = some y1_3 := by simpa [show Try.prog.cellsOf 3 = 1 by kernel_rfl] using hy1_3
  obtain ⟨x4, ex4, rfl, wx4⟩ := DataW.trod_int Try.underlying3 hy1_3
  simp only [List.cons.injEq, and_true] at ex4
  subst ex4
  refine (progKnown_any W Ax0 nx0 cx0 x0 hnx0 hcx0 hmx0 hQx0 hRx0 x1 (wf_i wx1) x2 (wf_i wx2) x3 (wf_i wx3) x4 (wf_i wx4)).mono fun e W' ⟨he, hb⟩ => ?_
  subst he
  exact ⟨_, rfl, post_true Facts.laid hW' rfl rfl Try.underlying4 (by kernel_rfl) rfl hb⟩

set_option maxRecDepth 100000 in
theorem lifted (os : Os) (started : os.Started) (H : Type) (enc : TypeId × Value → H) :
    ReturnsInHanded {} Try.checked os 16 .any (Rows.progKnownSpec.pre6 enc Try.prog Try.f16 Rows.progKnownRow.domain false) (Rows.progKnownSpec.post enc Try.prog Try.f16 false true false false) := by
  refine returnsInHanded_of_change (C := Try.checked) Facts.own started (by kernel_rfl) Try.func16
    (ChangeSpec.witness6 (enc := enc) (C := Try.checked) (os := os) false ⟨#[], #[.slice none 0 0, .agg #[.int .i64 0, .int .i64 0, .int .i64 0, .int .i64 0]], []⟩ 8 (by kernel_rfl) (by kernel_rfl) (by kernel_rfl) (by kernel_rfl)) ?_
  intro W base args ds gs before hval hW _ _
  exact contract H enc W base args ds gs before hval hW

theorem k_wf : Rows.progKnownRow.wf (OpenSpec.ofChange Rows.progKnownSpec) = true := by kernel_rfl
theorem k_inp : (Rows.progKnownRow.inPlace == Try.prog.inPlace 16) = true := by kernel_rfl
theorem k_unf : (Rows.progKnownRow.unfollowed == Try.prog.unfollowed 16) = true := by kernel_rfl
theorem k_rec : (Rows.progKnownRow.recurses == Try.prog.recurses 16) = true := by kernel_rfl
theorem k_nam : (Rows.progKnownRow.named == Try.prog.varsNamed 16) = true := by kernel_rfl
theorem k_pk : (Rows.progKnownRow.plainKeys == Try.prog.plainKeys) = true := (congrArg (fun x => Rows.progKnownRow.plainKeys == x) Facts.plainKeys).trans (by kernel_rfl)
theorem k_lf : (Rows.progKnownRow.lifted == Try.prog.liftsFinal) = true := (congrArg (fun x => Rows.progKnownRow.lifted == x) Facts.liftsFinal).trans (by kernel_rfl)
theorem k_mk : (Try.prog.make == some Rows.progKnownRow.make) = true := (congrArg (fun x => x == some Rows.progKnownRow.make) Facts.make).trans (by kernel_rfl)
theorem k_par : (Try.f16.params.all (Try.prog.readableRec ·)) = true := by kernel_rfl
theorem k_maps : (Rows.progKnownRow.maps == (Try.f16.params.toList ++ Rows.progKnownSpec.plain.varTypes Try.prog).any (Try.prog.mapsRec ·)) = true := by kernel_rfl
theorem k_ifs : (Rows.progKnownRow.ifaces == (Try.f16.params.toList ++ Rows.progKnownSpec.plain.varTypes Try.prog).any (Try.prog.ifacesRec ·)) = true := by kernel_rfl
theorem k_lps : (Rows.progKnownRow.loops == (Try.f16.params.toList ++ Rows.progKnownSpec.plain.varTypes Try.prog).any (Try.prog.loopsFrom ·)) = true := by kernel_rfl
theorem k_wk : (Rows.progKnownRow.wideKeys == (Try.f16.params.toList ++ Rows.progKnownSpec.plain.varTypes Try.prog ++ Try.f16.resultTypes.toList).any (Try.prog.wideKeysFrom ·)) = true := by kernel_rfl
theorem k_vl : (Rows.progKnownRow.veiled == (Try.f16.params.toList ++ Rows.progKnownSpec.plain.varTypes Try.prog ++ Try.f16.resultTypes.toList).any (Try.prog.veiledRec ·)) = true := by kernel_rfl
theorem closed : joinedFacts Try.prog 16 Try.f16 Rows.progKnownSpec Rows.progKnownRow = true :=
  Facts.and_i (Facts.and_i (Facts.and_i (Facts.and_i (Facts.and_i (Facts.and_i (Facts.and_i (Facts.and_i (Facts.and_i (Facts.and_i (Facts.and_i (Facts.and_i (Facts.and_i (Facts.and_i (Facts.and_i (Facts.and_i (Facts.and_i (Facts.and_i (Facts.and_i (Facts.and_i (Facts.and_i (Facts.and_i (Facts.and_i (Facts.and_i (Facts.and_i (Facts.and_i (Facts.and_i (Facts.and_i (Facts.and_i (Facts.and_i (Facts.and_i
    k_wf Facts.laid) Facts.mapsRowed_) k_par) rfl) rfl) Facts.stops) rfl) Facts.stopKnobs) k_inp) k_unf) k_rec) k_nam) k_maps) k_ifs) (by kernel_rfl)) k_lps) k_wk) rfl) (by kernel_rfl)) (by kernel_rfl)) (by kernel_rfl)) k_pk) rfl) Facts.stopsHeard) Facts.mayEnter) k_lf) k_mk) (by kernel_rfl)) (by kernel_rfl)) k_vl) (by kernel_rfl)
theorem named : Try.prog.funcNamed Rows.progKnownRow.func = some 16 := by kernel_rfl

theorem proved : Rows.ProgKnownSaid :=
  OpenClaim.holds_of_wide 16 Try.f16 rfl rfl rfl rfl rfl rfl rfl ⟨rfl, rfl, rfl, rfl, rfl⟩ rfl rfl rfl rfl rfl named Try.func16 closed
    (of_decide_eq_true (by kernel_rfl)) (by unfold Func.isWrapper; first | (rw [if_pos (by decide +kernel)]; kernel_rfl) | (rw [if_neg (by decide +kernel)]; exact ⟨rfl, rfl⟩))
    (fun os started H enc _ => lifted os started H enc)
end ProgKnown
#print axioms ProgKnown.proved
end Go.Proofs.Ytlhappecjjbopaa
