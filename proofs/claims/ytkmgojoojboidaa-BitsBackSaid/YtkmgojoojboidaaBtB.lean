/-
  BitsBack: what is put is taken. No condition.
-/
import Derived.Test.YtkmgojoojboidaaBtX
import Derived.Test.YtkmgojoojboidaaAppN
import Derived.Test.YtkmgojoojboidaaFacts
namespace Go.Proofs.Ytkmgojoojboidaa
open Go.ChangeShapes Go.WideShapes Go.ChangeAt Go.WideMaps Go.WideElems Go.RowKit Go.Joins
set_option linter.unusedVariables false
set_option maxRecDepth 100000

theorem Try.info_op : (Try.prog.info? 51).map (fun i => (i.zero, i.size, i.bytes)) = some (some (.agg #[.int .i64 0, .int .i64 0, .int .i64 0]), 3, 24) := by kernel_rfl

/-- an operation that is kept -/
def Ok3 (r : List Value) : Prop := ∃ a m c : Int, r = [.int .i64 a, .int .i64 m, .int .i64 c] ∧ (-9223372036854775808 ≤ m ∧ m ≤ 9223372036854775807) ∧ (a ≠ 0 ∨ Fit m c)
def opB (h : Bool) (r : List Value) (L : List Int) : List Int :=
  match r with
  | [.int .i64 a, .int .i64 m, .int .i64 c] => opBits h a m c L
  | _ => L
def foldO (h : Bool) (rows : List (List Value)) : List Int := rows.foldl (fun L r => opB h r L) []
theorem foldO_snoc (h : Bool) (rows : List (List Value)) (r : List Value) : foldO h (rows ++ [r]) = opB h r (foldO h rows) := by simp [foldO]
theorem opB_pre (h : Bool) (r : List Value) (L : List Int) : ∃ t, opB h r L = L ++ t := by
  unfold opB; split
  · unfold opBits; split
    · exact ⟨_, rfl⟩
    · split
      · exact ⟨_, rfl⟩
      · exact ⟨[], by simp⟩
  · exact ⟨[], by simp⟩
theorem foldO_pre (h : Bool) (rows : List (List Value)) : ∀ k, ∃ t, foldO h rows = foldO h (rows.take k) ++ t := by
  suffices H : ∀ (rs : List (List Value)) (L : List Int), ∃ t, rs.foldl (fun L r => opB h r L) L = L ++ t by
    intro k
    have h1 := H (rows.drop k) (foldO h (rows.take k))
    have h2 : foldO h rows = (rows.drop k).foldl (fun L r => opB h r L) (foldO h (rows.take k)) := by
      unfold foldO; rw [← List.foldl_append, List.take_append_drop]
    rw [h2]; exact h1
  intro rs
  induction rs with
  | nil => intro L; exact ⟨[], by simp⟩
  | cons r rs ih =>
    intro L
    obtain ⟨t1, h1⟩ := opB_pre h r L
    obtain ⟨t2, h2⟩ := ih (opB h r L)
    exact ⟨t1 ++ t2, by rw [List.foldl_cons, h2, h1, List.append_assoc]⟩
theorem opB_len (h : Bool) (r : List Value) (L : List Int) : (opB h r L).length ≤ L.length + 32 := by
  unfold opB; split
  · exact opBits_len h _ _ _ L
  · omega

structure Sp (B : Nat) (w : World) (p : Nat) (h : Bool) (v put : Value) (L : List Int) (n : Nat) (xs : List Value) : Prop where
  wr : Wr w p h v L
  own : w.ownsRow B 51 3 put n xs
  sp : ∀ k, put.ownBlock = some k → k ≠ p ∧ v.ownBlock ≠ some k
  bp : B ≤ p
  bv : ∀ k, v.ownBlock = some k → B ≤ k
section
variable {B p n n' : Nat} {w w' : World} {h : Bool} {v v' put put' : Value} {L L' : List Int} {xs xs' : List Value}
theorem Sp.turn (x : Sp B w p h v put L n xs) (t : Turn p w v w' v') (y : Wr w' p h v' L') (hB : B ≤ w.heap.size) : Sp B w' p h v' put L' n xs :=
  ⟨y, t.fr.ownN x.own (fun k hk hs => by
    rcases hs with hs | hs
    · exact (x.sp k hk).1 hs
    · exact (x.sp k hk).2 hs), fun k hk => ⟨(x.sp k hk).1, fun hv => by
      rcases t.row k hv with h1 | h1
      · exact (x.sp k hk).2 h1
      · have := (x.own.lt k hk).2; omega⟩, x.bp, fun k hk => by
      rcases t.row k hk with h1 | h1
      · exact x.bv k h1
      · omega⟩
theorem Sp.turnB (x : Sp B w p h v put L n xs) (t : Turn p w v w' v') (hB : B ≤ w.heap.size) : Below B w w' := t.below x.bp x.bv hB
theorem Sp.app (x : Sp B w p h v put L n xs) (o : w'.ownsRow B 51 3 put' n' xs') (hg : Ap w w' put put') : Sp B w' p h v put' L n' xs' :=
  ⟨x.wr.keep hg.fr (fun hs => (x.sp p hs).1 rfl) (fun k hk hs => (x.sp k hs).2 hk), o, fun k hk => by
    rcases hg.row k hk with h1 | h1
    · exact x.sp k h1
    · exact ⟨by have := x.wr.lt; omega, fun hv => by have := (x.wr.own.lt k hv).2; omega⟩, x.bp, x.bv⟩
theorem Sp.below (x : Sp B w p h v put L n xs) (hb : Below w.heap.size w w') : Sp B w' p h v put L n xs :=
  ⟨x.wr.below hb, own_keepN x.own hb, x.sp, x.bp, x.bv⟩
theorem Sp.appB (x : Sp B w p h v put L n xs) (hg : Ap w w' put put') (hB : B ≤ w.heap.size) : Below B w w' := hg.below (fun k hk => (x.own.lt k hk).1) hB
end

set_option maxHeartbeats 4000000 in
theorem bitsBack_any (w : World) (h : Bool) (A : Option Addr) (n c : Nat) (rows : List (List Value)) (hn : rows.length = n) (hc : n ≤ c) (hm : c ≤ 9223372036854775807) (hrows : ∀ r ∈ rows, r.length = 3 ∧ I3 r) (hR : Rd w w.heap.size A rows.flatten) :
    Calls Try.prog 12 #[.bool h, .slice A n c] w fun e w' => e = .returned (.bool true) ∧ Below w.heap.size w w' := by
  obtain ⟨i0, hi, hz0, hz1, hz2⟩ := info_parts Try.info_op
  have HN := Lib.hid hn
  have HR := Lib.hid hrows
  clear hn hrows
  by_cases hn3 : 300 < n
  · go_enter Try.func12, Try.ntmps12
    go_wp2_with fail
    refine (alive03_any w).mono ?_; rintro e w1 ⟨rfl, hb1⟩
    go_wp2
    go_ret
    exact ⟨rfl, hb1⟩
  have hdn : decide ((300 : Int) < (n : Int)) = false := by simp; omega
  go_enter Try.func12, Try.ntmps12
  go_wp2_with fail
  refine (alive03_any w).mono ?_; rintro e w1 ⟨rfl, hb1⟩
  go_wp2_with fail
  refine (newWriter_any h w1).mono ?_; rintro e w2 ⟨rfl, hx2, hb2⟩
  have hs1 := hb1.size
  have hb2' := hb1.trans (hb2.mono hs1)
  have hs2 := hx2.lt
  obtain ⟨p, hp⟩ : ∃ p, p = w1.heap.size := ⟨_, rfl⟩
  rw [← hp] at hx2 hs2 ⊢
  have hp1 : w.heap.size ≤ p := by omega
  clear hp hb2
  have hst : Sp w.heap.size (w2.alloc (.cells #[] 51)) p h (.slice none 0 0) (.slice (some ⟨w2.heap.size, 0, none⟩) 0 0) [] 0 [] :=
    ⟨hx2.below ((Below.refl _ _).alloc (Nat.le_refl _) _), World.ownsRow_made w2 #[] 0 (by omega) (by unfold maxLen; omega) (by simp), fun k hk => by
      have hk' : w2.heap.size = k := Option.some.inj hk
      exact ⟨by omega, by simp [Value.ownBlock]⟩, hp1, fun k hk => by simp [Value.ownBlock] at hk⟩
  have hb3 : Below w.heap.size w (w2.alloc (.cells #[] 51)) := hb2'.alloc hb2'.size _
  clear hx2 hb2' hs2
  go_wp2_with fail
  generalize w2.alloc (.cells #[] 51) = w3 at *
  go_loopw [6, 24] (fun put i wr => ∃ k : Nat, k ≤ n ∧ i = .int .i64 k ∧ ∃ (ops : List (List Value)) (v : Value), ops.length ≤ k ∧ (∀ r ∈ ops, r.length = 3 ∧ Ok3 r) ∧ (foldO h ops).length ≤ 32 * k ∧ Sp w.heap.size wr p h v put (foldO h ops) ops.length ops.flatten ∧ Below w.heap.size w wr) (fun _ i _ => n - (intOf i).toNat)
  case atStart => exact ⟨0, Nat.zero_le _, rfl, [], _, by simp, by simp, by simp [foldO], hst, hb3⟩
  case round =>
    obtain ⟨k, hk, rfl, ops, v, hol, hok, hL, hst, hb⟩ := hrel
    clear hb3
    by_cases hlt : k < n
    · obtain ⟨r, hr⟩ : ∃ r, rows[k]? = some r := ⟨rows[k]'(by rw [HN.out]; exact hlt), List.getElem?_eq_getElem _⟩
      obtain ⟨hr3, a, m, cc, rfl, ha, hm', hcc⟩ := HR.out r (List.mem_of_getElem? hr)
      have hfl := flatten_get rows (fun r hr => (HR.out r hr).1) k
      have f0 := hfl 0 _ _ hr rfl
      have f1 := hfl 1 _ _ hr rfl
      have f2 := hfl 2 _ _ hr rfl
      obtain ⟨b, off, rfl, hbl, hcell⟩ := (hR.below hb).at_ (k := k * 3 + 0) (List.getElem?_eq_some_iff.1 f0).1
      have c0 := hcell _ _ f0
      have c1 := hcell _ _ f1
      have c2 := hcell _ _ f2
      clear hcell f0 f1 f2 hfl hr hr3
      simp only [Nat.add_zero] at c0
      rw [← Nat.add_assoc] at c1 c2
      have HOK := Lib.hid hok
      have hol2 : (foldO h (ops ++ [[.int .i64 a, .int .i64 m, .int .i64 cc]])) = opBits h a m cc (foldO h ops) := by rw [foldO_snoc]; rfl
      have hol3 := opB_len h [.int .i64 a, .int .i64 m, .int .i64 cc] (foldO h ops)
      rw [show opB h [.int .i64 a, .int .i64 m, .int .i64 cc] (foldO h ops) = opBits h a m cc (foldO h ops) from rfl] at hol3
      have hof : (ops ++ [[Value.int .i64 a, Value.int .i64 m, Value.int .i64 cc]]).flatten = ops.flatten ++ [Value.int .i64 a, Value.int .i64 m, Value.int .i64 cc] := by simp
      have HO2 := Lib.hid hol2
      have HOF := Lib.hid hof
      clear hok hol2 hof
      go_upto_if 30 with fail
      have hsto : Sp w.heap.size (wr.alloc (.cells #[.int .i64 a, .int .i64 m, .int .i64 cc] 51)) p h v _ (foldO h ops) ops.length ops.flatten := hst.below ((Below.refl _ _).alloc (Nat.le_refl _) _)
      have X3 := Bl3.new wr 51 (.int .i64 a) (.int .i64 m) (.int .i64 cc)
      have hbo := hb.alloc hb.size (.cells #[.int .i64 a, .int .i64 m, .int .i64 cc] 51)
      have hqs : w.heap.size ≤ wr.heap.size := hb.size
      have hpq : p < wr.heap.size := hst.wr.lt
      have hvq : ∀ i, v.ownBlock = some i → i < wr.heap.size := fun i hi => (hst.wr.own.lt i hi).2
      clear c0 c1 c2 hst hb hbl
      generalize wr.alloc (.cells #[.int .i64 a, .int .i64 m, .int .i64 cc] 51) = w4 at *
      generalize wr.heap.size = q at *
      have c0 := X3.c0
      have c1 := X3.c1
      have c2 := X3.c2
      by_cases hab : a = 0
      · have hab' : (a != 0) = false := by simpa using hab
        have HAB := Lib.hid hab
        clear hab
        by_cases hf : Fit m cc
        · obtain ⟨C, rfl⟩ := Int.eq_ofNat_of_zero_le hf.1.1
          have hf1 := hf.1
          have hf2 := hf.2.1
          have hf3 := hf.le
          go_wp2_with fail
          refine (put_any p h v (foldO h ops) m C w4 hsto.wr hf (by omega) (by omega)).mono ?_; rintro e w5 ⟨rfl, v5, hx5, ht5⟩
          have hnew : foldO h ops ++ digs h m C = opBits h a m C (foldO h ops) := by
            unfold opBits; rw [if_neg (by rw [HAB.out]; simp), if_pos hf]; rfl
          rw [hnew] at hx5
          have hs5 := hsto.turn ht5 hx5 hbo.size
          have hb5 := hbo.trans (hsto.turnB ht5 hbo.size)
          have X5 := X3.keep ht5.fr (by
            rintro (e | e)
            · omega
            · have := hvq _ e; omega)
          have hok2 : ∀ r ∈ ops ++ [[.int .i64 a, .int .i64 m, .int .i64 C]], r.length = 3 ∧ Ok3 r := fun r hr => by
            rcases List.mem_append.1 hr with hr | hr
            · exact HOK.out r hr
            · simp at hr; subst hr; exact ⟨rfl, a, m, C, rfl, hm', .inr hf⟩
          have HK2 := Lib.hid hok2
          have hs5a := hs5.below ((Below.refl _ _).alloc (Nat.le_refl _) (.cells #[.int .i64 a, .int .i64 m, .int .i64 C] 51))
          have hb5a := hb5.alloc hb5.size (.cells #[.int .i64 a, .int .i64 m, .int .i64 C] 51)
          have hoa := hs5a.own
          have hsza := hb5a.size
          clear c0 c1 c2 X3 hnew hok2 hx5 ht5
          have z0 := X5.c0
          have z1 := X5.c1
          have z2 := X5.c2
          go_wp2_with (at_builtin; refine wpList_appN _ rfl (.tmp 44) (.tmp 46) 46 rfl Try.underlying46 hi hz0 hz1 hz2 rfl (by omega) hoa rfl rfl (Rd.newN w5 51 [.int .i64 a, .int .i64 m, .int .i64 C]) rfl (by simp [Value.oneCell']) (by omega) (by omega) hsza ?_; intro v7 w7 hown7 hap7)
          go_roundw
          case rel => exact ⟨k + 1, by omega, by go_num, ops ++ [[.int .i64 a, .int .i64 m, .int .i64 C]], v5, by simp; omega, HK2.out, by rw [HO2.out]; omega, by rw [HO2.out, HOF.out, List.length_append]; exact hs5a.app hown7 hap7, hb5a.trans (hs5a.appB hap7 hsza |>.mono (by omega))⟩
          case measure => simp [intOf]; omega
        · go_wp2_with fail
          refine (put_bad p m cc hf (by omega) w4).mono ?_; rintro e w' ⟨rfl, rfl⟩
          unfold errV
          go_wp2
          go_roundw
          case rel => exact ⟨k + 1, by omega, by go_num, ops, v, by omega, HOK.out, by omega, hsto, hbo⟩
          case measure => simp [intOf]; omega
      · have hab' : (a != 0) = true := by simpa using hab
        have HAB := Lib.hid hab
        clear hab
        go_wp2_with fail
        refine (align_any p h v (foldO h ops) w4 hsto.wr (by omega)).mono ?_; rintro e w5 ⟨rfl, v5, hx5, ht5⟩
        have hnew : full h (foldO h ops) = opBits h a m cc (foldO h ops) := by
          unfold opBits; rw [if_pos HAB.out]
        rw [hnew] at hx5
        have hs5 := hsto.turn ht5 hx5 hbo.size
        have hb5 := hbo.trans (hsto.turnB ht5 hbo.size)
        have X5 := X3.keep ht5.fr (by
          rintro (e | e)
          · omega
          · have := hvq _ e; omega)
        have hok2 : ∀ r ∈ ops ++ [[.int .i64 a, .int .i64 m, .int .i64 cc]], r.length = 3 ∧ Ok3 r := fun r hr => by
          rcases List.mem_append.1 hr with hr | hr
          · exact HOK.out r hr
          · simp at hr; subst hr; exact ⟨rfl, a, m, cc, rfl, hm', .inl HAB.out⟩
        have HK2 := Lib.hid hok2
        have hs5a := hs5.below ((Below.refl _ _).alloc (Nat.le_refl _) (.cells #[.int .i64 a, .int .i64 m, .int .i64 cc] 51))
        have hb5a := hb5.alloc hb5.size (.cells #[.int .i64 a, .int .i64 m, .int .i64 cc] 51)
        have hoa := hs5a.own
        have hsza := hb5a.size
        clear c0 c1 c2 X3 hnew hok2 hx5 ht5
        have z0 := X5.c0
        have z1 := X5.c1
        have z2 := X5.c2
        go_wp2_with (at_builtin; refine wpList_appN _ rfl (.tmp 33) (.tmp 35) 46 rfl Try.underlying46 hi hz0 hz1 hz2 rfl (by omega) hoa rfl rfl (Rd.newN w5 51 [.int .i64 a, .int .i64 m, .int .i64 cc]) rfl (by simp [Value.oneCell']) (by omega) (by omega) hsza ?_; intro v7 w7 hown7 hap7)
        go_roundw
        case rel => exact ⟨k + 1, by omega, by go_num, ops ++ [[.int .i64 a, .int .i64 m, .int .i64 cc]], v5, by simp; omega, HK2.out, by rw [HO2.out]; omega, by rw [HO2.out, HOF.out, List.length_append]; exact hs5a.app hown7 hap7, hb5a.trans (hs5a.appB hap7 hsza |>.mono (by omega))⟩
        case measure => simp [intOf]; omega
    · have hL' : (foldO h ops).length ≤ 9600 := by omega
      have hol' : ops.length ≤ 300 := by omega
      have HOK := Lib.hid hok
      have hpre := foldO_pre h ops
      have HPRE := Lib.hid hpre
      clear hok hpre
      generalize hLe : foldO h ops = L at *
      have HLE := Lib.hid hLe
      generalize hno : ops.length = no at *
      have HNO := Lib.hid hno
      clear hLe hno
      obtain ⟨Ap', cp', rfl, hcp1, hcp2, hRp⟩ := own_sliceN hst.own
      have hnb := @nby_le L.length 9600 hL'
      rw [show nby 9600 = 1200 from rfl] at hnb
      go_wp2_with fail
      refine (bytes_any p h v L wr hst.wr (by omega)).mono ?_; rintro e w4 ⟨x, rfl, hx, hb4⟩
      have hs4 := hst.below hb4
      have hb4' := hb.trans (hb4.mono hb.size)
      obtain ⟨Ax, cx, rfl, hRx⟩ := own_slice hx
      have hB01 := hst.wr.b01
      have hpb := pack_bs (h := h) (full_01 (h := h) hB01)
      have hpl : (pack h (full h L)).length = nby L.length := by rw [pack_len, full_len]; unfold nby; omega
      have hbo : bitsOf h (pack h (full h L)) = full h L := bitsOf_pack h (nby L.length) _ (full_01 hB01) (full_len h L)
      have HPL := Lib.hid hpl
      have HBO := Lib.hid hbo
      clear hpl hbo hx
      go_wp2_with fail
      refine (newReader_any Ax (nby L.length) cx h (pack h (full h L)) w4 HPL.out hRx hpb (by omega)).mono ?_; rintro e w5 ⟨p2, A', c', rfl, hx5, hp5, hA5, hb5⟩
      have hs5 := hs4.below hb5
      have hb5' := hb4'.trans (hb5.mono hb4'.size)
      have hRp5 := ((hRp.below hb4).more hb4.size |>.below hb5)
      have hpp : p < w4.heap.size := hs4.wr.lt
      have hvv : ∀ i, v.ownBlock = some i → i < w4.heap.size := fun i hi => (hs4.wr.own.lt i hi).2
      have hp5w : w.heap.size ≤ p2 := by have := hb4'.size; omega
      have hwr5 := hs5.wr
      clear hst hs4 hs5 hRp hRx hb hb4 hb4' hb5
      generalize pack h (full h L) = PB at *
      generalize w4.heap.size = q4 at *
      go_wp2
      go_loopw [55] (fun i wr => ∃ k : Nat, k ≤ no ∧ i = .int .i64 k ∧ Re wr p2 h A' c' PB (foldO h (ops.take k)).length ∧ Rd wr q4 Ap' ops.flatten ∧ Wr wr p h v L ∧ Below w.heap.size w wr) (fun i _ => no - (intOf i).toNat)
      case atStart => exact ⟨0, Nat.zero_le _, rfl, hx5, hRp5, hwr5, hb5'⟩
      case round =>
        obtain ⟨j, hj, rfl, hx, hRp, hwr, hb⟩ := hrel
        clear hx5 hRp5 hwr5 hb5'
        have hBl : PB.length ≤ 68719476736 := by rw [HPL.out]; omega
        by_cases hltj : j < no
        · obtain ⟨r, hr⟩ : ∃ r, ops[j]? = some r := ⟨ops[j]'(by rw [HNO.out]; exact hltj), List.getElem?_eq_getElem _⟩
          obtain ⟨hr3, a, m, cc, rfl, hm', hok⟩ := HOK.out r (List.mem_of_getElem? hr)
          have htk : foldO h (ops.take (j + 1)) = opBits h a m cc (foldO h (ops.take j)) := by rw [List.take_add_one, hr]; exact foldO_snoc h _ _
          have hfl := flatten_get ops (fun r hr => (HOK.out r hr).1) j
          have f0 := hfl 0 _ _ hr rfl
          have f1 := hfl 1 _ _ hr rfl
          have f2 := hfl 2 _ _ hr rfl
          obtain ⟨bk, off, rfl, hbl, hcell⟩ := hRp.at_ (k := j * 3 + 0) (List.getElem?_eq_some_iff.1 f0).1
          have c0 := hcell _ _ f0
          have c1 := hcell _ _ f1
          have c2 := hcell _ _ f2
          obtain ⟨t, htp⟩ := HPRE.out (j + 1)
          have HTK := Lib.hid htk
          have HTP := Lib.hid htp
          clear hcell f0 f1 f2 hfl hr hr3 htk htp
          simp only [Nat.add_zero] at c0
          rw [← Nat.add_assoc] at c1 c2
          have hba : Below wr.heap.size wr (wr.alloc (.cells #[.int .i64 a, .int .i64 m, .int .i64 cc] 51)) := (Below.refl _ _).alloc (Nat.le_refl _) _
          have X3 := Bl3.new wr 51 (.int .i64 a) (.int .i64 m) (.int .i64 cc)
          have hxa := hx.below hba
          have hwra := hwr.below hba
          have hbw := hb.trans (hba.mono hb.size)
          have hq4 : q4 ≤ wr.heap.size := by have := hx.lt; omega
          have hRa : Rd (wr.alloc (.cells #[.int .i64 a, .int .i64 m, .int .i64 cc] 51)) q4 (some ⟨bk, off, none⟩) ops.flatten := hRp.keep (fun pp hp => hba.cell (by omega))
          have hp2q : p2 < wr.heap.size := hx.lt
          go_upto_if 61 with fail
          clear c0 c1 c2 hx hwr hb hRp hba
          generalize wr.alloc (.cells #[.int .i64 a, .int .i64 m, .int .i64 cc] 51) = w6 at *
          generalize wr.heap.size = q at *
          have c0 := X3.c0
          have c1 := X3.c1
          have c2 := X3.c2
          by_cases hab : a = 0
          · have hab' : (a != 0) = false := by simpa using hab
            have hf : Fit m cc := by
              rcases hok with h1 | h1
              · exact absurd hab h1
              · exact h1
            have HAB := Lib.hid hab
            clear hab hok
            obtain ⟨C, rfl⟩ := Int.eq_ofNat_of_zero_le hf.1.1
            have hf1 := hf.1
            have hnew : foldO h (ops.take (j + 1)) = foldO h (ops.take j) ++ digs h m C := by
              rw [HTK.out]; unfold opBits; rw [if_neg (by rw [HAB.out]; simp), if_pos hf]; rfl
            have hle2 : (foldO h (ops.take j)).length + C ≤ L.length := by
              have h1 := HTP.out
              rw [hnew] at h1
              have h2 := congrArg List.length h1
              rw [List.length_append, List.length_append, digs_len] at h2; omega
            have hnx : nxt h PB (foldO h (ops.take j)).length C = digs h m C := by
              unfold nxt
              rw [HBO.out]
              have h1 := HTP.out
              rw [hnew] at h1
              unfold full
              rw [h1, List.append_assoc, List.append_assoc, List.drop_left, List.take_append_of_le_length (by rw [digs_len]; omega), List.take_of_length_le (by rw [digs_len]; omega)]
            have hpv : part h C (digs h m C) = m := digs_val h C m hf.2.1 (by
              have h1 := Int.emod_add_mul_ediv m (2 ^ C)
              have h2 := two_pos C
              have h3 := Int.emod_lt_of_pos m (show (0 : Int) < 2 ^ C by omega)
              have h4 := hf.2.2
              rw [Int.toNat_natCast] at h4
              rw [h4] at h1; omega)
            have hnl : (foldO h (ops.take (j + 1))).length = (foldO h (ops.take j)).length + C := by rw [hnew, List.length_append, digs_len]
            have HNL := Lib.hid hnl
            have h8 : L.length ≤ 8 * nby L.length := by unfold nby; omega
            have hmm : (m != m) = false := by simp
            clear hnew hnl
            go_wp2_with fail
            refine (take_any hxa hBl C (by omega) (by rw [HPL.out]; omega)).mono ?_; rintro e w7 ⟨rfl, hx7, hf7⟩
            rw [hnx, hpv]
            have X7 := X3.keep hf7 (by omega)
            have hwr7 := hwra.keep hf7 (by omega) (fun i hi e => by have := hvv i hi; omega)
            have hR7 : Rd w7 q4 (some ⟨bk, off, none⟩) ops.flatten := hRa.keep (fun pp hp => Fr.cell hf7 (by have := Fr.size hf7; have := hxa.lt; have := X3.lt; omega) (by omega))
            have hb7 := hbw.trans (hf7.below hp5w hbw.size)
            clear c0 c1 c2 X3 hnx hpv
            have z1 := X7.c1
            go_wp2
            go_roundw
            case rel => exact ⟨j + 1, by omega, by go_num, by rw [HNL.out]; exact hx7, hR7, hwr7, hb7⟩
            case measure => simp [intOf]; omega
          · have hab' : (a != 0) = true := by simpa using hab
            have HAB := Lib.hid hab
            clear hab
            have hnl : (foldO h (ops.take (j + 1))).length = 8 * nby (foldO h (ops.take j)).length := by
              rw [HTK.out]; unfold opBits; rw [if_pos HAB.out, full_len]
            have HNL := Lib.hid hnl
            clear hnl
            go_wp2_with fail
            refine (ralign_any hxa hBl).mono ?_; rintro e w7 ⟨rfl, hx7, hf7⟩
            have hwr7 := hwra.keep hf7 (by omega) (fun i hi e => by have := hvv i hi; omega)
            have hR7 : Rd w7 q4 (some ⟨bk, off, none⟩) ops.flatten := hRa.keep (fun pp hp => Fr.cell hf7 (by have := Fr.size hf7; have := hxa.lt; have := X3.lt; omega) (by omega))
            have hb7 := hbw.trans (hf7.below hp5w hbw.size)
            go_wp2
            go_roundw
            case rel => exact ⟨j + 1, by omega, by go_num, by rw [HNL.out]; exact hx7, hR7, hwr7, hb7⟩
            case measure => simp [intOf]; omega
        · have hjn : ops.take j = ops := List.take_of_length_le (by rw [HNO.out]; omega)
          rw [hjn, HLE.out] at hx
          clear hjn
          have hLL : ((L.length : Int) == (L.length : Int)) = true := by simp
          have hlf : decide (8 * PB.length - L.length < 8) = true := by
            simp only [decide_eq_true_eq]; rw [HPL.out]; unfold nby; omega
          go_wp2_with fail
          refine (at_any hx).mono ?_; rintro e w' ⟨rfl, rfl⟩
          go_wp2_with fail
          refine (wlen_any p h v L _ hwr).mono ?_; rintro e w' ⟨rfl, rfl⟩
          go_wp2_with (go_at_call 49; refine (left_any hx hBl).mono ?_; rintro e w8 ⟨rfl, hb8⟩)
          go_ret
          exact ⟨ret_bool (by first | rfl | (simp; rw [HPL.out]; unfold nby; omega)), hb.trans (hb8.mono hb.size)⟩
namespace BitsBack
set_option maxRecDepth 100000 in
theorem contract (H : Type) (enc : TypeId × Value → H) (W : World) (base : Nat) (args : Array Value) (ds gs : List (DataW H)) (before : List MemPlace)
    (hval : ∀ (j : Nat) t v, Try.f12.params[j]? = some t → args[j]? = some v → Value.okWide Try.prog W .any base t v)
    (hW : DataW.Whole enc Try.prog Try.f12.params.toList Rows.bitsBackSpec.vars false W args.toList ds gs before) :
    Calls Try.prog 12 args W fun e W' => ∃ v, e = .returned v ∧ Rows.bitsBackSpec.post enc Try.prog Try.f12 false true false false W args v W' := by
  have hW' := hW
  obtain ⟨p, q, hA0, hV, rfl, hfz, hnd⟩ := hW
  have hA : DataW.TrodAll enc Try.prog W 0 (fun _ => true) true Try.f12.params.toList args.toList ds p := hA0
  rw [Try.params12] at hA hval
  clear hA0
  obtain ⟨v0, vs0, d0, ds0, p0, q0, hargs, rfl, rfl, h0, r0⟩ := trodAll_cons hA
  obtain ⟨v1, vs1, d1, ds1, p1, q1, rfl, rfl, rfl, h1, r1⟩ := trodAll_cons r0
  obtain ⟨rfl, rfl, rfl⟩ := trodAll_nil r1
  obtain rfl : args = #[v0, v1] := by cases args; simp_all
  obtain ⟨rfl, rfl⟩ := trodVars_none hV
  obtain ⟨x0, rfl, rfl, rfl⟩ := open_bool Try.underlying4 (hval 0 _ _ rfl rfl) h0
  obtain ⟨Ax1, nx1, cx1, rfl⟩ := okWide_slice Try.underlying46 (hval 1 _ _ rfl rfl)
  obtain ⟨fu1, hf1⟩ := h1
  obtain ⟨A', n', c', x1, ev1, hnx1, hcx1, hmx1, hQx1, hRx1⟩ := open_rows (m := 3) (Q := I3) Try.underlying46 (by kernel_rfl) (by omega) (fun _ _ _ hl hy => op_i3 hl hy) hf1
  injection ev1 with ea eb ec
  subst ea eb ec
  refine (bitsBack_any W x0 Ax1 nx1 cx1 x1 hnx1 hcx1 hmx1 hQx1 hRx1).mono fun e W' ⟨he, hb⟩ => ?_
  subst he
  exact ⟨_, rfl, post_true Facts.laid hW' rfl rfl Try.underlying4 (by kernel_rfl) rfl hb⟩

set_option maxRecDepth 100000 in
theorem lifted (os : Os) (started : os.Started) (H : Type) (enc : TypeId × Value → H) :
    ReturnsInHanded {} Try.checked os 12 .any (Rows.bitsBackSpec.pre6 enc Try.prog Try.f12 Rows.bitsBackRow.domain false) (Rows.bitsBackSpec.post enc Try.prog Try.f12 false true false false) := by
  refine returnsInHanded_of_change (C := Try.checked) Facts.own started (by kernel_rfl) Try.func12
    (ChangeSpec.witness6 (enc := enc) (C := Try.checked) (os := os) false ⟨#[], #[.bool false, .slice none 0 0], []⟩ 8 (by kernel_rfl) (by kernel_rfl) (by kernel_rfl) (by kernel_rfl)) ?_
  intro W base args ds gs before hval hW _ _
  exact contract H enc W base args ds gs before hval hW

theorem k_wf : Rows.bitsBackRow.wf (OpenSpec.ofChange Rows.bitsBackSpec) = true := by kernel_rfl
theorem k_inp : (Rows.bitsBackRow.inPlace == Try.prog.inPlace 12) = true := by kernel_rfl
theorem k_unf : (Rows.bitsBackRow.unfollowed == Try.prog.unfollowed 12) = true := by kernel_rfl
theorem k_rec : (Rows.bitsBackRow.recurses == Try.prog.recurses 12) = true := by kernel_rfl
theorem k_nam : (Rows.bitsBackRow.named == Try.prog.varsNamed 12) = true := by kernel_rfl
theorem k_pk : (Rows.bitsBackRow.plainKeys == Try.prog.plainKeys) = true := (congrArg (fun x => Rows.bitsBackRow.plainKeys == x) Facts.plainKeys).trans (by kernel_rfl)
theorem k_lf : (Rows.bitsBackRow.lifted == Try.prog.liftsFinal) = true := (congrArg (fun x => Rows.bitsBackRow.lifted == x) Facts.liftsFinal).trans (by kernel_rfl)
theorem k_mk : (Try.prog.make == some Rows.bitsBackRow.make) = true := (congrArg (fun x => x == some Rows.bitsBackRow.make) Facts.make).trans (by kernel_rfl)
theorem k_par : (Try.f12.params.all (Try.prog.readableRec ·)) = true := by kernel_rfl
theorem k_maps : (Rows.bitsBackRow.maps == (Try.f12.params.toList ++ Rows.bitsBackSpec.plain.varTypes Try.prog).any (Try.prog.mapsRec ·)) = true := by kernel_rfl
theorem k_ifs : (Rows.bitsBackRow.ifaces == (Try.f12.params.toList ++ Rows.bitsBackSpec.plain.varTypes Try.prog).any (Try.prog.ifacesRec ·)) = true := by kernel_rfl
theorem k_lps : (Rows.bitsBackRow.loops == (Try.f12.params.toList ++ Rows.bitsBackSpec.plain.varTypes Try.prog).any (Try.prog.loopsFrom ·)) = true := by kernel_rfl
theorem k_wk : (Rows.bitsBackRow.wideKeys == (Try.f12.params.toList ++ Rows.bitsBackSpec.plain.varTypes Try.prog ++ Try.f12.resultTypes.toList).any (Try.prog.wideKeysFrom ·)) = true := by kernel_rfl
theorem k_vl : (Rows.bitsBackRow.veiled == (Try.f12.params.toList ++ Rows.bitsBackSpec.plain.varTypes Try.prog ++ Try.f12.resultTypes.toList).any (Try.prog.veiledRec ·)) = true := by kernel_rfl
theorem closed : joinedFacts Try.prog 12 Try.f12 Rows.bitsBackSpec Rows.bitsBackRow = true :=
  Facts.and_i (Facts.and_i (Facts.and_i (Facts.and_i (Facts.and_i (Facts.and_i (Facts.and_i (Facts.and_i (Facts.and_i (Facts.and_i (Facts.and_i (Facts.and_i (Facts.and_i (Facts.and_i (Facts.and_i (Facts.and_i (Facts.and_i (Facts.and_i (Facts.and_i (Facts.and_i (Facts.and_i (Facts.and_i (Facts.and_i (Facts.and_i (Facts.and_i (Facts.and_i (Facts.and_i (Facts.and_i (Facts.and_i (Facts.and_i (Facts.and_i
    k_wf Facts.laid) Facts.mapsRowed_) k_par) rfl) rfl) Facts.stops) rfl) Facts.stopKnobs) k_inp) k_unf) k_rec) k_nam) k_maps) k_ifs) (by kernel_rfl)) k_lps) k_wk) rfl) (by kernel_rfl)) (by kernel_rfl)) (by kernel_rfl)) k_pk) rfl) Facts.stopsHeard) Facts.mayEnter) k_lf) k_mk) (by kernel_rfl)) (by kernel_rfl)) k_vl) (by kernel_rfl)
theorem named : Try.prog.funcNamed Rows.bitsBackRow.func = some 12 := by kernel_rfl

theorem proved : Rows.BitsBackSaid :=
  OpenClaim.holds_of_wide 12 Try.f12 rfl rfl rfl rfl rfl rfl rfl ⟨rfl, rfl, rfl, rfl, rfl⟩ rfl rfl rfl rfl rfl named Try.func12 closed
    (of_decide_eq_true (by kernel_rfl)) (by unfold Func.isWrapper; first | (rw [if_pos (by decide +kernel)]; kernel_rfl) | (rw [if_neg (by decide +kernel)]; exact ⟨rfl, rfl⟩))
    (fun os started H enc _ => lifted os started H enc)
end BitsBack
#print axioms BitsBack.proved
end Go.Proofs.Ytkmgojoojboidaa
