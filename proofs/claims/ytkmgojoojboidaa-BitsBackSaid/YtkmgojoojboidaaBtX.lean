/-
  BitsWrites: which bytes any numbers come to. No condition.
-/
import Derived.Test.YtkmgojoojboidaaBtW
import Derived.Test.YtkmgojoojboidaaFacts
namespace Go.Proofs.Ytkmgojoojboidaa
open Go.ChangeShapes Go.WideShapes Go.ChangeAt Go.WideMaps Go.WideElems Go.RowKit Go.Joins
set_option linter.unusedVariables false
set_option maxRecDepth 100000

set_option maxHeartbeats 4000000 in
theorem bitsWrites_any (w : World) (h : Bool) (A : Option Addr) (n c : Nat) (rows : List (List Value)) (hn : rows.length = n) (hc : n ≤ c) (hm : c ≤ 9223372036854775807) (hrows : ∀ r ∈ rows, r.length = 3 ∧ I3 r) (hR : Rd w w.heap.size A rows.flatten) :
    Calls Try.prog 7 #[.bool h, .slice A n c] w fun e w' => e = .returned (.bool true) ∧ Below w.heap.size w w' := by
  obtain ⟨i0, hi, hz0, hz1, hz2⟩ := info_parts Try.info_int
  have HN := Lib.hid hn
  have HR := Lib.hid hrows
  clear hn hrows
  have hhb : (h != h) = false := by simp
  by_cases hn3 : 300 < n
  · go_enter Try.func7, Try.ntmps7
    go_wp2_with fail
    refine (alive03_any w).mono ?_; rintro e w1 ⟨rfl, hb1⟩
    go_wp2
    go_ret
    exact ⟨rfl, hb1⟩
  go_enter Try.func7, Try.ntmps7
  go_wp2_with fail
  refine (alive03_any w).mono ?_; rintro e w1 ⟨rfl, hb1⟩
  go_wp2_with fail
  refine (newWriter_any h w1).mono ?_; rintro e w2 ⟨rfl, hx2, hb2⟩
  have hs1 := hb1.size
  have hb2' := hb1.trans (hb2.mono hs1)
  have hs2 := hx2.lt
  obtain ⟨p, hp⟩ : ∃ p, p = w1.heap.size := ⟨_, rfl⟩
  rw [← hp] at hx2 hs2 ⊢
  have hp1 : w.heap.size ≤ p := by omega
  clear hp hb2
  go_wp2_with (go_at_call 31; refine (high_any p h _ _ _ hx2).mono ?_; rintro e w' ⟨rfl, rfl⟩)
  have hst : St w.heap.size (w2.alloc (.cells #[] 3)) p h (.slice none 0 0) (.slice (some ⟨w2.heap.size, 0, none⟩) 0 0) [] [] :=
    ⟨hx2.below ((Below.refl _ _).alloc (Nat.le_refl _) _), World.ownsRow_made w2 #[] 0 (by omega) (by unfold maxLen; omega) (by simp), fun k hk => by
      have hk' : w2.heap.size = k := Option.some.inj hk
      exact ⟨by omega, by simp [Value.ownBlock]⟩, hp1, fun k hk => by simp [Value.ownBlock] at hk⟩
  have hb3 : Below w.heap.size w (w2.alloc (.cells #[] 3)) := hb2'.alloc hb2'.size _
  clear hx2 hb2' hs2
  generalize w2.alloc (.cells #[] 3) = w3 at *
  go_loopw [6, 29] (fun want i wr => ∃ k : Nat, k ≤ n ∧ i = .int .i64 k ∧ ∃ L v, L.length ≤ 32 * k ∧ St w.heap.size wr p h v want L L ∧ Below w.heap.size w wr) (fun _ i _ => n - (intOf i).toNat)
  case atStart => exact ⟨0, Nat.zero_le _, rfl, [], _, by simp, hst, hb3⟩
  case round =>
    obtain ⟨k, hk, rfl, L, v, hL, hst, hb⟩ := hrel
    clear hb3
    by_cases hlt : k < n
    · obtain ⟨r, hr⟩ : ∃ r, rows[k]? = some r := ⟨rows[k]'(by rw [HN.out]; exact hlt), List.getElem?_eq_getElem _⟩
      obtain ⟨hr3, a, m, cc, rfl, ha, hm', hcc⟩ := HR.out r (List.mem_of_getElem? hr)
      have hfl := flatten_get rows (fun r hr => (HR.out r hr).1) k
      have f0 := hfl 0 _ _ hr rfl
      have f1 := hfl 1 _ _ hr rfl
      have f2 := hfl 2 _ _ hr rfl
      obtain ⟨b, off, rfl, hbl, hcell⟩ := (hR.below hb).at_ (k := k * 3 + 0) (List.getElem?_eq_some_iff.1 f0).1
      have c0 := hcell _ _ f0
      have c1 := hcell _ _ f1
      have c2 := hcell _ _ f2
      clear hcell f0 f1 f2 hfl hr hr3
      simp only [Nat.add_zero] at c0
      rw [← Nat.add_assoc] at c1 c2
      go_upto_if 35 with fail
      have hsto : St w.heap.size (wr.alloc (.cells #[.int .i64 a, .int .i64 m, .int .i64 cc] 51)) p h v _ L L := hst.below ((Below.refl _ _).alloc (Nat.le_refl _) _)
      have X3 := Bl3.new wr 51 (.int .i64 a) (.int .i64 m) (.int .i64 cc)
      have hbo := hb.alloc hb.size (.cells #[.int .i64 a, .int .i64 m, .int .i64 cc] 51)
      have hqs : w.heap.size ≤ wr.heap.size := hb.size
      have hsl : wr.heap.size < (wr.alloc (.cells #[.int .i64 a, .int .i64 m, .int .i64 cc] 51)).heap.size := by simp
      have hpq : p < wr.heap.size := hst.wr.lt
      have hvq : ∀ i, v.ownBlock = some i → i < wr.heap.size := fun i hi => (hst.wr.own.lt i hi).2
      clear c0 c1 c2 hst hb hbl
      generalize wr.alloc (.cells #[.int .i64 a, .int .i64 m, .int .i64 cc] 51) = w4 at *
      generalize wr.heap.size = q at *
      have c0 := X3.c0
      have c1 := X3.c1
      have c2 := X3.c2
      go_cut [6, 9] from 30 to 90 (fun want e wx => ∃ L' v', L'.length ≤ 32 * (k + 1) ∧ St w.heap.size wx p h v' want L' L' ∧ Below w.heap.size w wx)
      case first =>
        by_cases hab : a = 0
        · have hab' : (a != 0) = false := by simpa using hab
          clear hab
          by_cases hf : Fit m cc
          · obtain ⟨C, rfl⟩ := Int.eq_ofNat_of_zero_le hf.1.1
            have hf1 := hf.1
            have hf2 := hf.2.1
            have hf3 := hf.le
            go_wp2_with fail
            refine (put_any p h v L m C w4 hsto.wr hf (by omega) (by omega)).mono ?_; rintro e w5 ⟨rfl, v5, hx5, ht5⟩
            have hs5 := hsto.turn ht5 hx5 (by omega)
            have hb5 := hbo.trans (hsto.turnB ht5 (by omega))
            have X5 := X3.keep ht5.fr (by
              rintro (e | e)
              · omega
              · have := hvq _ e; omega)
            have z1 := X5.c1
            have z2 := X5.c2
            obtain ⟨Aw, cw, rfl, hRw⟩ := own_slice hs5.own
            clear c0 c1 c2
            go_wp2_with fail
            refine (fits_any m C true (decide_eq_true hf) (by omega) w5).mono ?_; rintro e w' ⟨rfl, rfl⟩
            go_wp2_with fail
            refine (digits_any m C h (by omega) (by omega) w5).mono ?_; rintro e w6 ⟨dv, rfl, hd6, hb6⟩
            have hs6 := hs5.below hb6
            have hb6' := hb5.trans (hb6.mono hb5.size)
            obtain ⟨Ad, cd, rfl, hRd⟩ := own_slice hd6
            have hown6 := hs6.own
            have hdl : (iv (digs h m C)).length = C := by rw [iv_len, digs_len]
            have HD := Lib.hid hdl
            have hll : (L ++ digs h m C).length = L.length + C := by rw [List.length_append, digs_len]
            have HLL := Lib.hid hll
            have hsz6 := hb6'.size
            clear hdl hd6 z1 z2 hll
            go_wp2_with (at_builtin; refine wpList_app2 _ rfl (.tmp 62) (.tmp 68) 43 rfl Try.underlying43 hi hz0 hz1 hz2 rfl hown6 rfl rfl hRd HD.out (one_iv _) (by omega) (by omega) hsz6 ?_; intro v7 w7 hown7 hg7)
            go_meet
            have hs7 : St w.heap.size w7 p h v5 v7 (L ++ digs h m C) (L ++ digs h m C) := hs6.app (by rw [HLL.out, iv_app]; exact hown7) hg7
            exact ⟨L ++ digs h m C, v5, by rw [HLL.out]; omega, hs7, below_app2 hb6' hown6 hg7 (Nat.le_refl _) hsz6⟩
          · go_wp2_with fail
            refine (put_bad p m cc hf (by omega) w4).mono ?_; rintro e w' ⟨rfl, rfl⟩
            unfold errV
            go_wp2_with fail
            refine (fits_any m cc false (decide_eq_false hf) (by omega) w4).mono ?_; rintro e w' ⟨rfl, rfl⟩
            go_wp2_with fail
            refine (is_err 7 7 (by omega) w4).mono ?_; rintro e w' ⟨rfl, rfl⟩
            go_wp2_with fail
            go_meet
            exact ⟨L, v, by omega, hsto, hbo⟩
        · have hab' : (a != 0) = true := by simpa using hab
          clear hab
          go_wp2_with fail
          refine (align_any p h v L w4 hsto.wr (by omega)).mono ?_; rintro e w5 ⟨rfl, v5, hx5, ht5⟩
          have hs5 := hsto.turn ht5 hx5 (by omega)
          have hb5 := hbo.trans (hsto.turnB ht5 (by omega))
          clear c0 c1 c2 hsto hbo ht5 hx5
          go_wp2
          go_loopg [6] (pad L.length) (fun g want wr => ∃ j, j + g = pad L.length ∧ St w.heap.size wr p h v5 want (full h L) (L ++ List.replicate j (fill1 h)) ∧ Below w.heap.size w wr)
          case atStart => exact ⟨0, by omega, by simpa using hs5, hb5⟩
          case round =>
            obtain ⟨j, hj, hs6, hb6⟩ := hrel
            obtain ⟨mm, hm⟩ : ∃ mm, mm = (L ++ List.replicate j (fill1 h)).length := ⟨_, rfl⟩
            have hm2 : mm = L.length + j := by rw [hm]; simp
            have hjp : j ≤ pad L.length ∧ pad L.length ≤ 7 ∧ (L.length + pad L.length) % 8 = 0 := by unfold pad at *; omega
            have hj1 : j + gk ≤ pad L.length ∧ pad L.length ≤ j + gk := by omega
            have hm3 : mm ≤ L.length + j ∧ L.length + j ≤ mm := by omega
            have hown6 := hs6.own
            rw [← hm] at hown6
            have HM := Lib.hid hm
            clear hm hm2 hj
            obtain ⟨Aw, cw, rfl, hRw⟩ := own_slice hown6
            by_cases hg0 : gk = 0
            · have h8 : ((mm : Int) % 8 != 0) = false := by simp; unfold pad at *; omega
              clear hg0
              go_wp2
              go_meet
              obtain rfl : j = pad L.length := by
                have : (mm : Int) % 8 = 0 := by simpa using h8
                unfold pad at *; omega
              exact ⟨full h L, v5, by have := (opBits_len h 1 0 0 L); simp only [opBits, ne_eq, Int.one_ne_zero, not_false_eq_true, if_true] at this; omega, hs6, hb6⟩
            · have h8 : ((mm : Int) % 8 != 0) = true := by simp; unfold pad at *; omega
              have hsn : L ++ List.replicate (j + 1) (fill1 h) = L ++ List.replicate j (fill1 h) ++ [fill1 h] := by
                rw [List.append_assoc, List.replicate_succ']
              have hsnl : (L ++ List.replicate (j + 1) (fill1 h)).length = mm + 1 := by rw [hsn, List.length_append, ← HM.out]; rfl
              have HS := Lib.hid hsn
              have HSL := Lib.hid hsnl
              have hown6' := hown6.alloc (.cells #[Value.int .i64 (fill1 h)] 3)
              have hs6' := hs6.below ((Below.refl _ _).alloc (Nat.le_refl _) (.cells #[Value.int .i64 (fill1 h)] 3))
              have hb6' := hb6.alloc hb6.size (.cells #[Value.int .i64 (fill1 h)] 3)
              have hsz6 := hb6'.size
              clear hsn hsnl hown6
              cases h
              · change World.ownsRow (wr.alloc (.cells #[Value.int .i64 0] 3)) _ _ _ _ _ _ at hown6'
                change St _ (wr.alloc (.cells #[Value.int .i64 0] 3)) _ _ _ _ _ _ at hs6'
                change Below _ _ (wr.alloc (.cells #[Value.int .i64 0] 3)) at hb6'
                change _ ≤ (wr.alloc (.cells #[Value.int .i64 0] 3)).heap.size at hsz6
                go_wp2_with (at_builtin; refine wpList_app2 _ rfl (.tmp 46) (.tmp 47) 43 rfl Try.underlying43 hi hz0 hz1 hz2 rfl hown6' rfl rfl (Rd.new1 _ _ _) rfl (by simp [Value.oneCell']) (by omega) (by omega) hsz6 ?_; intro v7 w7 hown7 hg7)
                go_roundg (gk - 1)
                case measure => omega
                case rel => exact ⟨j + 1, by omega, hs6'.app (by rw [HSL.out, HS.out, iv_app]; exact hown7) hg7, below_app2 hb6' hown6' hg7 (Nat.le_refl _) hsz6⟩
              · change World.ownsRow (wr.alloc (.cells #[Value.int .i64 1] 3)) _ _ _ _ _ _ at hown6'
                change St _ (wr.alloc (.cells #[Value.int .i64 1] 3)) _ _ _ _ _ _ at hs6'
                change Below _ _ (wr.alloc (.cells #[Value.int .i64 1] 3)) at hb6'
                change _ ≤ (wr.alloc (.cells #[Value.int .i64 1] 3)).heap.size at hsz6
                go_wp2_with (at_builtin; refine wpList_app2 _ rfl (.tmp 43) (.tmp 44) 43 rfl Try.underlying43 hi hz0 hz1 hz2 rfl hown6' rfl rfl (Rd.new1 _ _ _) rfl (by simp [Value.oneCell']) (by omega) (by omega) hsz6 ?_; intro v7 w7 hown7 hg7)
                go_roundg (gk - 1)
                case measure => omega
                case rel => exact ⟨j + 1, by omega, hs6'.app (by rw [HSL.out, HS.out, iv_app]; exact hown7) hg7, below_app2 hb6' hown6' hg7 (Nat.le_refl _) hsz6⟩
      case rest =>
        obtain ⟨L', v', hL', hst', hb'⟩ := hcut
        clear hsto X3 hbo c0 c1 c2 hvq
        obtain ⟨A1, d1, rfl, hR1⟩ := own_slice hst'.own
        obtain ⟨ml, hml⟩ : ∃ ml, ml = L'.length := ⟨_, rfl⟩
        have hnb := @nby_le L'.length 1099511627776 (by omega)
        have HNB := Lib.hid hnb
        clear hnb
        go_wp2_with fail
        refine (bytes_any p h v' L' wc hst'.wr (by omega)).mono ?_; rintro e w6 ⟨x, rfl, hx, hb6⟩
        have hxlt := hx.lt
        have hb6' := hb'.trans (hb6.mono hb'.size)
        have hR6 := (hR1.below hb6).more hb6.size
        have hs6 := hst'.below hb6
        go_wp2_with fail
        refine (rbytes_any A1 L'.length d1 L' h w6 rfl hR6 hst'.wr.b01 (by omega)).mono ?_; rintro e w7 ⟨y, rfl, hy, hb7⟩
        have hb7' := hb6'.trans (hb7.mono hb6'.size)
        have hx7 := own_keep hx hb7
        have hs7 := hs6.below hb7
        obtain ⟨Ax, cx, rfl, hRx⟩ := own_slice hx7
        obtain ⟨Ay, cy, rfl, hRy⟩ := own_slice hy
        have hpb := pack_bs (h := h) (full_01 (h := h) hst'.wr.b01)
        have hpl : nby L'.length = (pack h (full h L')).length := by rw [pack_len, full_len]; unfold nby; omega
        have HPL := Lib.hid hpl
        clear hpl hx hy
        go_wp2_with fail
        refine (same_is _ _ _ _ _ _ _ _ true (by simp) _ _ _ hRx hRy hpb hpb HPL.out HPL.out).mono ?_; rintro e w' ⟨rfl, rfl⟩
        have hnn : ((L'.length : Int) != (L'.length : Int)) = false := by simp
        go_wp2_with fail
        refine (wlen_any p h v' L' w7 hs7.wr).mono ?_; rintro e w' ⟨rfl, rfl⟩
        go_wp2_with fail
        refine (over_any _ _ _ _ w7 hx7 hpb (by have h1 := HNB.out; unfold nby at h1 ⊢; omega)).mono ?_; rintro e w8 ⟨rfl, hf8⟩
        have hb68 : Below wc.heap.size wc w8 := hb6.trans ((hb7.mono hb6.size).trans (hf8.below (fun k hk hs => by have := (hxlt k hs).1; omega) (by have := hb7.size; have := hb6.size; omega)))
        go_wp2
        go_roundw
        case rel => exact ⟨k + 1, by omega, by go_num, L', v', hL', hst'.below hb68, hb'.trans (hb68.mono hb'.size)⟩
        case measure => simp [intOf]; omega
    · have hL' : L.length ≤ 9600 := by omega
      obtain ⟨A1, c1, rfl, hR1⟩ := own_slice hst.own
      go_wp2_with fail
      refine (bytes_any p h v L wr hst.wr (by omega)).mono ?_; rintro e w4 ⟨x, rfl, hx, hb4⟩
      have hb4' := hb.trans (hb4.mono hb.size)
      have hR4 := (hR1.below hb4).more hb4.size
      go_wp2_with fail
      refine (rbytes_any A1 L.length c1 L h w4 rfl hR4 hst.wr.b01 (by omega)).mono ?_; rintro e w5 ⟨y, rfl, hy, hb5⟩
      have hb5' := hb4'.trans (hb5.mono hb4'.size)
      have hx5 := own_keep hx hb5
      obtain ⟨Ax, cx, rfl, hRx⟩ := own_slice hx5
      obtain ⟨Ay, cy, rfl, hRy⟩ := own_slice hy
      have hpb := pack_bs (h := h) (full_01 (h := h) hst.wr.b01)
      have hpl : nby L.length = (pack h (full h L)).length := by rw [pack_len, full_len]; unfold nby; omega
      have HPL := Lib.hid hpl
      clear hpl hx hx5 hy
      go_wp2_with (go_at_call 18; refine (same_is _ _ _ _ _ _ _ _ true (by simp) _ _ _ hRx hRy hpb hpb HPL.out HPL.out).mono ?_; rintro e w' ⟨rfl, rfl⟩)
      go_ret
      exact ⟨rfl, hb5'⟩

theorem op_i3 {H : Type} {enc : TypeId × Value → H} {W : World} {spare : Nat → Bool} {held : Bool} {nn : Nat} {cs : List Value} {y : DataW H × List MemPlace} (hl : cs.length = 3)
    (hy : DataW.trod enc Try.prog W 0 spare held nn 51 cs = some y) : I3 cs := by
  obtain ⟨_, n', hf⟩ := sub_str Try.underlying51 hy
  obtain ⟨c0, t0, rfl, hl0⟩ := len_cons hl
  obtain ⟨c1, t1, rfl, hl1⟩ := len_cons hl0
  obtain ⟨c2, t2, rfl, hl2⟩ := len_cons hl1
  obtain rfl := len_nil hl2
  have hk : Try.prog.cellsOf 3 = 1 := by kernel_rfl
  obtain ⟨y0, h0⟩ := hf 0 _ rfl
  obtain ⟨y1, h1⟩ := hf 1 _ rfl
  obtain ⟨y2, h2⟩ := hf 2 _ rfl
  replace h0 : DataW.trod enc Try.prog W 0 spare held n' 3 [c0] = some y0 := by simpa [hk] using h0
  replace h1 : DataW.trod enc Try.prog W 0 spare held n' 3 [c1] = some y1 := by simpa [hk] using h1
  replace h2 : DataW.trod enc Try.prog W 0 spare held n' 3 [c2] = some y2 := by simpa [hk] using h2
  obtain ⟨x0, e0, _, w0⟩ := DataW.trod_int Try.underlying3 h0
  obtain ⟨x1, e1, _, w1⟩ := DataW.trod_int Try.underlying3 h1
  obtain ⟨x2, e2, _, w2⟩ := DataW.trod_int Try.underlying3 h2
  simp only [List.cons.injEq, and_true] at e0 e1 e2
  subst e0 e1 e2
  exact ⟨x0, x1, x2, rfl, wf_i w0, wf_i w1, wf_i w2⟩

namespace BitsWrites
set_option maxRecDepth 100000 in
theorem contract (H : Type) (enc : TypeId × Value → H) (W : World) (base : Nat) (args : Array Value) (ds gs : List (DataW H)) (before : List MemPlace)
    (hval : ∀ (j : Nat) t v, Try.f7.params[j]? = some t → args[j]? = some v → Value.okWide Try.prog W .any base t v)
    (hW : DataW.Whole enc Try.prog Try.f7.params.toList Rows.bitsWritesSpec.vars false W args.toList ds gs before) :
    Calls Try.prog 7 args W fun e W' => ∃ v, e = .returned v ∧ Rows.bitsWritesSpec.post enc Try.prog Try.f7 false true false false W args v W' := by
  have hW' := hW
  obtain ⟨p, q, hA0, hV, rfl, hfz, hnd⟩ := hW
  have hA : DataW.TrodAll enc Try.prog W 0 (fun _ => true) true Try.f7.params.toList args.toList ds p := hA0
  rw [Try.params7] at hA hval
  clear hA0
  obtain ⟨v0, vs0, d0, ds0, p0, q0, hargs, rfl, rfl, h0, r0⟩ := trodAll_cons hA
  obtain ⟨v1, vs1, d1, ds1, p1, q1, rfl, rfl, rfl, h1, r1⟩ := trodAll_cons r0
  obtain ⟨rfl, rfl, rfl⟩ := trodAll_nil r1
  obtain rfl : args = #[v0, v1] := by cases args; simp_all
  obtain ⟨rfl, rfl⟩ := trodVars_none hV
  obtain ⟨x0, rfl, rfl, rfl⟩ := open_bool Try.underlying4 (hval 0 _ _ rfl rfl) h0
  obtain ⟨Ax1, nx1, cx1, rfl⟩ := okWide_slice Try.underlying46 (hval 1 _ _ rfl rfl)
  obtain ⟨fu1, hf1⟩ := h1
  obtain ⟨A', n', c', x1, ev1, hnx1, hcx1, hmx1, hQx1, hRx1⟩ := open_rows (m := 3) (Q := I3) Try.underlying46 (by kernel_rfl) (by omega) (fun _ _ _ hl hy => op_i3 hl hy) hf1
  injection ev1 with ea eb ec
  subst ea eb ec
  refine (bitsWrites_any W x0 Ax1 nx1 cx1 x1 hnx1 hcx1 hmx1 hQx1 hRx1).mono fun e W' ⟨he, hb⟩ => ?_
  subst he
  exact ⟨_, rfl, post_true Facts.laid hW' rfl rfl Try.underlying4 (by kernel_rfl) rfl hb⟩

set_option maxRecDepth 100000 in
theorem lifted (os : Os) (started : os.Started) (H : Type) (enc : TypeId × Value → H) :
    ReturnsInHanded {} Try.checked os 7 .any (Rows.bitsWritesSpec.pre6 enc Try.prog Try.f7 Rows.bitsWritesRow.domain false) (Rows.bitsWritesSpec.post enc Try.prog Try.f7 false true false false) := by
  refine returnsInHanded_of_change (C := Try.checked) Facts.own started (by kernel_rfl) Try.func7
    (ChangeSpec.witness6 (enc := enc) (C := Try.checked) (os := os) false ⟨#[], #[.bool false, .slice none 0 0], []⟩ 8 (by kernel_rfl) (by kernel_rfl) (by kernel_rfl) (by kernel_rfl)) ?_
  intro W base args ds gs before hval hW _ _
  exact contract H enc W base args ds gs before hval hW

theorem k_wf : Rows.bitsWritesRow.wf (OpenSpec.ofChange Rows.bitsWritesSpec) = true := by kernel_rfl
theorem k_inp : (Rows.bitsWritesRow.inPlace == Try.prog.inPlace 7) = true := by kernel_rfl
theorem k_unf : (Rows.bitsWritesRow.unfollowed == Try.prog.unfollowed 7) = true := by kernel_rfl
theorem k_rec : (Rows.bitsWritesRow.recurses == Try.prog.recurses 7) = true := by kernel_rfl
theorem k_nam : (Rows.bitsWritesRow.named == Try.prog.varsNamed 7) = true := by kernel_rfl
theorem k_pk : (Rows.bitsWritesRow.plainKeys == Try.prog.plainKeys) = true := (congrArg (fun x => Rows.bitsWritesRow.plainKeys == x) Facts.plainKeys).trans (by kernel_rfl)
theorem k_lf : (Rows.bitsWritesRow.lifted == Try.prog.liftsFinal) = true := (congrArg (fun x => Rows.bitsWritesRow.lifted == x) Facts.liftsFinal).trans (by kernel_rfl)
theorem k_mk : (Try.prog.make == some Rows.bitsWritesRow.make) = true := (congrArg (fun x => x == some Rows.bitsWritesRow.make) Facts.make).trans (by kernel_rfl)
theorem k_par : (Try.f7.params.all (Try.prog.readableRec ·)) = true := by kernel_rfl
theorem k_maps : (Rows.bitsWritesRow.maps == (Try.f7.params.toList ++ Rows.bitsWritesSpec.plain.varTypes Try.prog).any (Try.prog.mapsRec ·)) = true := by kernel_rfl
theorem k_ifs : (Rows.bitsWritesRow.ifaces == (Try.f7.params.toList ++ Rows.bitsWritesSpec.plain.varTypes Try.prog).any (Try.prog.ifacesRec ·)) = true := by kernel_rfl
theorem k_lps : (Rows.bitsWritesRow.loops == (Try.f7.params.toList ++ Rows.bitsWritesSpec.plain.varTypes Try.prog).any (Try.prog.loopsFrom ·)) = true := by kernel_rfl
theorem k_wk : (Rows.bitsWritesRow.wideKeys == (Try.f7.params.toList ++ Rows.bitsWritesSpec.plain.varTypes Try.prog ++ Try.f7.resultTypes.toList).any (Try.prog.wideKeysFrom ·)) = true := by kernel_rfl
theorem k_vl : (Rows.bitsWritesRow.veiled == (Try.f7.params.toList ++ Rows.bitsWritesSpec.plain.varTypes Try.prog ++ Try.f7.resultTypes.toList).any (Try.prog.veiledRec ·)) = true := by kernel_rfl
theorem closed : joinedFacts Try.prog 7 Try.f7 Rows.bitsWritesSpec Rows.bitsWritesRow = true :=
  Facts.and_i (Facts.and_i (Facts.and_i (Facts.and_i (Facts.and_i (Facts.and_i (Facts.and_i (Facts.and_i (Facts.and_i (Facts.and_i (Facts.and_i (Facts.and_i (Facts.and_i (Facts.and_i (Facts.and_i (Facts.and_i (Facts.and_i (Facts.and_i (Facts.and_i (Facts.and_i (Facts.and_i (Facts.and_i (Facts.and_i (Facts.and_i (Facts.and_i (Facts.and_i (Facts.and_i (Facts.and_i (Facts.and_i (Facts.and_i (Facts.and_i
    k_wf Facts.laid) Facts.mapsRowed_) k_par) rfl) rfl) Facts.stops) rfl) Facts.stopKnobs) k_inp) k_unf) k_rec) k_nam) k_maps) k_ifs) (by kernel_rfl)) k_lps) k_wk) rfl) (by kernel_rfl)) (by kernel_rfl)) (by kernel_rfl)) k_pk) rfl) Facts.stopsHeard) Facts.mayEnter) k_lf) k_mk) (by kernel_rfl)) (by kernel_rfl)) k_vl) (by kernel_rfl)
theorem named : Try.prog.funcNamed Rows.bitsWritesRow.func = some 7 := by kernel_rfl

theorem proved : Rows.BitsWritesSaid :=
  OpenClaim.holds_of_wide 7 Try.f7 rfl rfl rfl rfl rfl rfl rfl ⟨rfl, rfl, rfl, rfl, rfl⟩ rfl rfl rfl rfl rfl named Try.func7 closed
    (of_decide_eq_true (by kernel_rfl)) (by unfold Func.isWrapper; first | (rw [if_pos (by decide +kernel)]; kernel_rfl) | (rw [if_neg (by decide +kernel)]; exact ⟨rfl, rfl⟩))
    (fun os started H enc _ => lifted os started H enc)
end BitsWrites
#print axioms BitsWrites.proved
end Go.Proofs.Ytkmgojoojboidaa
