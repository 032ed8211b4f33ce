/-
  ScanOrder: in which order a block's places stand. No condition.
-/
import Derived.Test.YtlhappecjjbopaaScE
import Derived.Test.YtlhappecjjbopaaFacts
import Derived.Deep.RegionHeld3
namespace Go.Proofs.Ytlhappecjjbopaa
open Go.ChangeShapes Go.WideShapes Go.ChangeAt Go.WideMaps Go.WideElems Go.RowKit Go.Joins
set_option linter.unusedVariables false
set_option maxRecDepth 100000

theorem all_range_eqI : ∀ (xs ys : List Int), xs.length = ys.length → ((List.range xs.length).all fun i => xs.getD i 0 == ys.getD i 0) = (xs == ys)
  | [], [], _ => rfl
  | x :: xs, y :: ys, h => by
    have ih := all_range_eqI xs ys (by simpa using h)
    rw [List.length_cons, List.range_succ_eq_map, List.all_cons, List.all_map]
    simp only [List.getD_cons_zero, Function.comp_def, List.getD_cons_succ, ih]
    simp [List.cons_beq_cons]
  | [], _ :: _, h => by simp at h
  | _ :: _, [], h => by simp at h
section
variable {P : Program} (w : World)
/-- two arrays of integers are compared -/
theorem run_equalIn_ints (d : Nat) (t e : TypeId) (n : Nat) (ht : P.underlying t = some (.array n e)) (he : P.underlying e = some (.int .i64)) (hsz : ∀ w, (sizeOf e).run P w = .ok 1 w)
    (xs ys : List Int) (hx : xs.length = n) (hy : ys.length = n) :
    (Op.equalIn (d + 2) t (.agg (iv xs).toArray) (.agg (iv ys).toArray)).run P w = .ok (xs == ys) w := by
  rw [← all_range_eqI xs ys (hx.trans hy.symm), hx, List.range_eq_range', Op.equalIn]
  simp only [Sem.run_bind, run_underlying ht, Result.andThen_ok, hsz, Std.Legacy.Range.forIn_eq_forIn_range', Std.Legacy.Range.size, Nat.sub_zero, Nat.add_sub_cancel, Nat.div_one]
  have hl : ∀ i ∈ List.range' 0 n 1, i < n := fun i hi => by simpa using (List.mem_range'_1.1 hi).2
  generalize List.range' 0 n 1 = l at hl ⊢
  induction l with
  | nil => simp
  | cons i l ih =>
    have hi : i < n := hl i (by simp)
    have px : (Go.part e (iv xs).toArray (i * 1)).run P w = .ok (.int .i64 (xs.getD i 0)) w := by
      simp [Go.part, isAgg, run_underlying he, ivs_get (l := xs) (i := i) (by omega)]
    have py : (Go.part e (iv ys).toArray (i * 1)).run P w = .ok (.int .i64 (ys.getD i 0)) w := by
      simp [Go.part, isAgg, run_underlying he, ivs_get (l := ys) (i := i) (by omega)]
    have pe : (Op.equalIn (d + 1) e (.int .i64 (xs.getD i 0)) (.int .i64 (ys.getD i 0))).run P w = .ok (xs.getD i 0 == ys.getD i 0) w := run_equalIn_int w d e .i64 .i64 _ _ he
    simp only [List.forIn_cons, Sem.run_bind, px, py, pe, Result.andThen_ok, List.all_cons]
    cases hb : (xs.getD i 0 == ys.getD i 0)
    · simp
    · simp only [Bool.not_true, Bool.false_eq_true, if_false, Sem.run_pure, Result.andThen_ok, Bool.true_and]
      exact ih fun j hj => hl j (by simp [hj])
end
theorem Try.size_int (W : World) : (sizeOf 3).run Try.prog W = .ok 1 W := by
  obtain ⟨i0, hi, hz0, hz1, hz2⟩ := info_parts Try.info_int
  simp [sizeOf, typeInfo, hi, hz1]
theorem eq_arr (xs ys : List Int) (hx : xs.length = 64) (hy : ys.length = 64) (W : World) : (Op.equalIn 10000 39 (.agg (iv xs).toArray) (.agg (iv ys).toArray)).run Try.prog W = .ok (xs == ys) W :=
  run_equalIn_ints W 9998 39 3 64 Try.underlying39 Try.underlying3 Try.size_int xs ys hx hy

theorem scan_keep {W w5 : World} {zb k : Nat} {ZL : List Int} {y : Int} (hb : Below W.heap.size W w5) (h : W.rangeAt zb 0 (iv ZL) ∧ W.cell? ⟨zb, 2, none⟩ = some (.int .i64 8) ∧ W.cell? ⟨zb, k, none⟩ = some (.int .i64 y)) :
    w5.rangeAt zb 0 (iv ZL) ∧ w5.cell? ⟨zb, 2, none⟩ = some (.int .i64 8) ∧ w5.cell? ⟨zb, k, none⟩ = some (.int .i64 y) := by
  have hz := World.block_lt_of_cell? W _ h.2.1
  exact ⟨fun j v hv => (hb.cell (p := ⟨zb, 0 + j, none⟩) hz).trans (h.1 j v hv), (hb.cell (p := ⟨zb, 2, none⟩) hz).trans h.2.1, (hb.cell (p := ⟨zb, k, none⟩) hz).trans h.2.2⟩
theorem zz_bd : ∀ k, k < 64 → 0 ≤ zzL.getD k 0 ∧ zzL.getD k 0 < 64 := by decide +kernel

set_option maxHeartbeats 8000000 in
theorem scanOrder_any (w : World) (i : Int) (hi : -9223372036854775808 ≤ i ∧ i ≤ 9223372036854775807) :
    Calls Try.prog 5 #[.int .i64 i] w fun e w' => e = .returned (.bool true) ∧ Below w.heap.size w w' := by
  have hal : ∀ W : World, W.alloc (.cells #[.int .i64 0, .int .i64 0, .int .i64 0, .int .i64 0, .int .i64 0, .int .i64 0, .int .i64 0, .int .i64 0, .int .i64 0, .int .i64 0, .int .i64 0, .int .i64 0, .int .i64 0, .int .i64 0, .int .i64 0, .int .i64 0, .int .i64 0, .int .i64 0, .int .i64 0, .int .i64 0, .int .i64 0, .int .i64 0, .int .i64 0, .int .i64 0, .int .i64 0, .int .i64 0, .int .i64 0, .int .i64 0, .int .i64 0, .int .i64 0, .int .i64 0, .int .i64 0, .int .i64 0, .int .i64 0, .int .i64 0, .int .i64 0, .int .i64 0, .int .i64 0, .int .i64 0, .int .i64 0, .int .i64 0, .int .i64 0, .int .i64 0, .int .i64 0, .int .i64 0, .int .i64 0, .int .i64 0, .int .i64 0, .int .i64 0, .int .i64 0, .int .i64 0, .int .i64 0, .int .i64 0, .int .i64 0, .int .i64 0, .int .i64 0, .int .i64 0, .int .i64 0, .int .i64 0, .int .i64 0, .int .i64 0, .int .i64 0, .int .i64 0, .int .i64 0] 39) = W.alloc (.cells (iv z64).toArray 39) := fun _ => rfl
  obtain ⟨k, hk, hk64⟩ : ∃ k : Nat, wrap64 ((IntKind.u64.wrap i).tmod 64) = (k : Int) ∧ k < 64 := by
    have h1 : 0 ≤ IntKind.u64.wrap i := by simp only [IntKind.wrap, IntKind.signed, IntKind.bits]; exact Int.emod_nonneg _ (by decide)
    rw [Int.tmod_eq_emod_of_nonneg h1]
    have h2 := Int.emod_nonneg (IntKind.u64.wrap i) (show (64 : Int) ≠ 0 by decide)
    have h3 := Int.emod_lt_of_pos (IntKind.u64.wrap i) (show (0 : Int) < 64 by decide)
    generalize IntKind.u64.wrap i % 64 = z at *
    rw [IntWalk.wrap64_in z ⟨by omega, by omega⟩]
    exact ⟨z.toNat, by omega, by omega⟩
  go_enter Try.func5, Try.ntmps5
  go_upto_region 2 with fail
  rw [hk]
  clear hk hi
  go_wp2_with fail
  refine (zigzag_any w).mono ?_; rintro e w1 ⟨rfl, hb1⟩
  have hzl : (iv zzL).length = 64 := by rw [iv_len]; rfl
  have hbk := zz_bd k hk64
  have e2 : (iv zzL)[2]? = some (.int .i64 8) := rfl
  have ek : (iv zzL)[k]? = some (.int .i64 (zzL.getD k 0)) := ivs_get (by show k < 64; exact hk64)
  obtain ⟨ZL, hZL⟩ : ∃ z, z = zzL := ⟨_, rfl⟩
  rw [← hZL] at hzl hbk e2 ek ⊢
  have HZZ := Lib.hid hZL
  have hsz : (iv ZL).toArray.size = 64 := hzl
  obtain ⟨XD, hbd⟩ := Bln.copy w1 39 (iv z64) (iv ZL) (by rw [hzl, iv_len]; rfl)
  have hth : (w1.alloc (.cells (iv z64).toArray 39)).there w1.heap.size 0 (iv ZL).toArray.size := by
    rw [hsz]
    exact (Bln.new w1 39 (iv z64)).there 64 (by rw [iv_len]; decide)
  have hone := one_iv ZL
  have hb2 := hb1.trans (hbd.mono hb1.size)
  have HSZ := Lib.hid hsz
  have hll : ZL.length = 64 := by rw [← iv_len]; exact hzl
  have heq := eq_arr ZL ZL hll hll
  rw [beq_self_eq_true] at heq
  clear hZL hsz hzl
  go_upto_region 3 with (refine wpList_store_mid rfl 39 (.tmp 4) (.tmp 9) rfl _ _ (iv ZL).toArray rfl rfl hth (by rw [HSZ.out]; exact Try.info_block) (all_oneCell_toArray hone) ?_)
  have hXD : Bln ((w1.alloc (.cells (iv z64).toArray 39)).setCells w1.heap.size 0 (iv ZL)) w1.heap.size 39 (iv ZL) := XD
  generalize (w1.alloc (.cells (iv z64).toArray 39)).setCells w1.heap.size 0 (iv ZL) = wd at *
  generalize w1.heap.size = zb at *
  have c2 := XD.cell e2
  have ck := XD.cell ek
  have hr : wd.rangeAt zb 0 (iv ZL) := XD.range 0 (iv ZL) (fun j v hv => by rw [Nat.zero_add]; exact hv)
  have hzb : zb < wd.heap.size := XD.lt
  have hk0 : (0 : Int) ≤ (k : Int) := by omega
  have hk1 : (k : Int) < 64 := by omega
  have hu := Try.underlying39
  have hinf : (Try.prog.info? 39).map (·.size) = some (iv ZL).length := by rw [iv_len, hll]; exact Try.info_block
  have HLL := Lib.hid hll
  have HB2 := Lib.hid hb2
  generalize ZL.getD k 0 = y at *
  clear hth hXD XD hbd hb2 hll hb1 e2 ek hal hone
  go_region_held3 (fun w' => w'.rangeAt zb 0 (iv ZL) ∧ w'.cell? ⟨zb, 2, none⟩ = some (.int .i64 8) ∧ w'.cell? ⟨zb, k, none⟩ = some (.int .i64 y))
    (first | go_keep_ranges | (exact scan_keep ‹Below _ _ _› ⟨by assumption, by assumption, by assumption⟩))
    ((go_at_call 28; refine (order_ref _).mono ?_; rintro e w5 ⟨rfl, hb5⟩; rw [← HZZ.out]))
  all_goals go_wp2_with fail
  all_goals go_ret
  all_goals exact ⟨ret_bool (by simp), (HB2.out.trans ((below_drewN (Below.refl _ _) 1).mono HB2.out.size)).trans (hb5.mono HB2.out.size)⟩
namespace ScanOrder
set_option maxRecDepth 100000 in
theorem contract (H : Type) (enc : TypeId × Value → H) (W : World) (base : Nat) (args : Array Value) (ds gs : List (DataW H)) (before : List MemPlace)
    (hval : ∀ (j : Nat) t v, Try.f5.params[j]? = some t → args[j]? = some v → Value.okWide Try.prog W .any base t v)
    (hW : DataW.Whole enc Try.prog Try.f5.params.toList Rows.scanOrderSpec.vars false W args.toList ds gs before) :
    Calls Try.prog 5 args W fun e W' => ∃ v, e = .returned v ∧ Rows.scanOrderSpec.post enc Try.prog Try.f5 false true false false W args v W' := by
  have hW' := hW
  obtain ⟨p, q, hA0, hV, rfl, hfz, hnd⟩ := hW
  have hA : DataW.TrodAll enc Try.prog W 0 (fun _ => true) true Try.f5.params.toList args.toList ds p := hA0
  rw [Try.params5] at hA hval
  clear hA0
  obtain ⟨v0, vs0, d0, ds0, p0, q0, hargs, rfl, rfl, h0, r0⟩ := trodAll_cons hA
  obtain ⟨rfl, rfl, rfl⟩ := trodAll_nil r0
  obtain rfl : args = #[v0] := by cases args; simp_all
  obtain ⟨rfl, rfl⟩ := trodVars_none hV
  obtain ⟨x0, rfl, rfl, rfl, wx0⟩ := open_int Try.underlying3 (hval 0 _ _ rfl rfl) h0
  refine (scanOrder_any W x0 (wf_i wx0)).mono fun e W' ⟨he, hb⟩ => ?_
  subst he
  exact ⟨_, rfl, post_true Facts.laid hW' rfl rfl Try.underlying4 (by kernel_rfl) rfl hb⟩

set_option maxRecDepth 100000 in
theorem lifted (os : Os) (started : os.Started) (H : Type) (enc : TypeId × Value → H) :
    ReturnsInHanded {} Try.checked os 5 .any (Rows.scanOrderSpec.pre6 enc Try.prog Try.f5 Rows.scanOrderRow.domain false) (Rows.scanOrderSpec.post enc Try.prog Try.f5 false true false false) := by
  refine returnsInHanded_of_change (C := Try.checked) Facts.own started (by kernel_rfl) Try.func5
    (ChangeSpec.witness6 (enc := enc) (C := Try.checked) (os := os) false ⟨#[], #[.int .i64 0], []⟩ 8 (by kernel_rfl) (by kernel_rfl) (by kernel_rfl) (by kernel_rfl)) ?_
  intro W base args ds gs before hval hW _ _
  exact contract H enc W base args ds gs before hval hW

theorem k_wf : Rows.scanOrderRow.wf (OpenSpec.ofChange Rows.scanOrderSpec) = true := by kernel_rfl
theorem k_inp : (Rows.scanOrderRow.inPlace == Try.prog.inPlace 5) = true := by kernel_rfl
theorem k_unf : (Rows.scanOrderRow.unfollowed == Try.prog.unfollowed 5) = true := by kernel_rfl
theorem k_rec : (Rows.scanOrderRow.recurses == Try.prog.recurses 5) = true := by kernel_rfl
theorem k_nam : (Rows.scanOrderRow.named == Try.prog.varsNamed 5) = true := by kernel_rfl
theorem k_pk : (Rows.scanOrderRow.plainKeys == Try.prog.plainKeys) = true := (congrArg (fun x => Rows.scanOrderRow.plainKeys == x) Facts.plainKeys).trans (by kernel_rfl)
theorem k_lf : (Rows.scanOrderRow.lifted == Try.prog.liftsFinal) = true := (congrArg (fun x => Rows.scanOrderRow.lifted == x) Facts.liftsFinal).trans (by kernel_rfl)
theorem k_mk : (Try.prog.make == some Rows.scanOrderRow.make) = true := (congrArg (fun x => x == some Rows.scanOrderRow.make) Facts.make).trans (by kernel_rfl)
theorem k_par : (Try.f5.params.all (Try.prog.readableRec ·)) = true := by kernel_rfl
theorem k_maps : (Rows.scanOrderRow.maps == (Try.f5.params.toList ++ Rows.scanOrderSpec.plain.varTypes Try.prog).any (Try.prog.mapsRec ·)) = true := by kernel_rfl
theorem k_ifs : (Rows.scanOrderRow.ifaces == (Try.f5.params.toList ++ Rows.scanOrderSpec.plain.varTypes Try.prog).any (Try.prog.ifacesRec ·)) = true := by kernel_rfl
theorem k_lps : (Rows.scanOrderRow.loops == (Try.f5.params.toList ++ Rows.scanOrderSpec.plain.varTypes Try.prog).any (Try.prog.loopsFrom ·)) = true := by kernel_rfl
theorem k_wk : (Rows.scanOrderRow.wideKeys == (Try.f5.params.toList ++ Rows.scanOrderSpec.plain.varTypes Try.prog ++ Try.f5.resultTypes.toList).any (Try.prog.wideKeysFrom ·)) = true := by kernel_rfl
theorem k_vl : (Rows.scanOrderRow.veiled == (Try.f5.params.toList ++ Rows.scanOrderSpec.plain.varTypes Try.prog ++ Try.f5.resultTypes.toList).any (Try.prog.veiledRec ·)) = true := by kernel_rfl
theorem closed : joinedFacts Try.prog 5 Try.f5 Rows.scanOrderSpec Rows.scanOrderRow = true :=
  Facts.and_i (Facts.and_i (Facts.and_i (Facts.and_i (Facts.and_i (Facts.and_i (Facts.and_i (Facts.and_i (Facts.and_i (Facts.and_i (Facts.and_i (Facts.and_i (Facts.and_i (Facts.and_i (Facts.and_i (Facts.and_i (Facts.and_i (Facts.and_i (Facts.and_i (Facts.and_i (Facts.and_i (Facts.and_i (Facts.and_i (Facts.and_i (Facts.and_i (Facts.and_i (Facts.and_i (Facts.and_i (Facts.and_i (Facts.and_i (Facts.and_i
    k_wf Facts.laid) Facts.mapsRowed_) k_par) rfl) rfl) Facts.stops) rfl) Facts.stopKnobs) k_inp) k_unf) k_rec) k_nam) k_maps) k_ifs) (by kernel_rfl)) k_lps) k_wk) rfl) (by kernel_rfl)) (by kernel_rfl)) (by kernel_rfl)) k_pk) rfl) Facts.stopsHeard) Facts.mayEnter) k_lf) k_mk) (by kernel_rfl)) (by kernel_rfl)) k_vl) (by kernel_rfl)
theorem named : Try.prog.funcNamed Rows.scanOrderRow.func = some 5 := by kernel_rfl

theorem proved : Rows.ScanOrderSaid :=
  OpenClaim.holds_of_wide 5 Try.f5 rfl rfl rfl rfl rfl rfl rfl ⟨rfl, rfl, rfl, rfl, rfl⟩ rfl rfl rfl rfl rfl named Try.func5 closed
    (of_decide_eq_true (by kernel_rfl)) (by unfold Func.isWrapper; first | (rw [if_pos (by decide +kernel)]; kernel_rfl) | (rw [if_neg (by decide +kernel)]; exact ⟨rfl, rfl⟩))
    (fun os started H enc _ => lifted os started H enc)
end ScanOrder
#print axioms ScanOrder.proved
end Go.Proofs.Ytlhappecjjbopaa
