/-
  The document's codes: Codes, by a contract; they are the codes of the lengths. No condition.
-/
import Derived.Test.YtlhappecjjbopaaCaD
namespace Go.Proofs.Ytlhappecjjbopaa
open Go.RowKit
set_option linter.unusedVariables false
set_option maxRecDepth 100000

/-- the symbols that have codes, in the codes' order; their lengths -/
def sy (O : List Nat) : List Int := O.map fun s : Nat => (s : Int)
def sz (ls : List Int) (O : List Nat) : List Int := O.map fun s => ls.getD s 0
theorem sy_len (O : List Nat) : (sy O).length = O.length := by simp [sy]
theorem sz_len (ls : List Int) (O : List Nat) : (sz ls O).length = O.length := by simp [sz]
theorem sy_app (a b : List Nat) : sy (a ++ b) = sy a ++ sy b := by simp [sy]
theorem sz_app (ls : List Int) (a b : List Nat) : sz ls (a ++ b) = sz ls a ++ sz ls b := by simp [sz]
theorem sz_at {ls : List Int} {O : List Nat} {i s : Nat} (h : O[i]? = some s) : (sz ls O).getD i 0 = ls.getD s 0 := by
  unfold sz
  rw [List.getD_eq_getElem?_getD, List.getElem?_map, h]; rfl
theorem sy_at {O : List Nat} {i s : Nat} (h : O[i]? = some s) : (sy O).getD i 0 = (s : Int) := by
  unfold sy
  rw [List.getD_eq_getElem?_getD, List.getElem?_map, h]; rfl
theorem acc_at (ls : List Int) (i : Nat) : acc (sz ls (ordU ls 16)) i = at_ ls i := by
  unfold acc at_ ws sz
  rw [← List.map_take, List.map_map]; rfl
theorem zs_ord {ls : List Int} (hf : Fm ls) : Zs (sz ls (ordU ls 16)) :=
  ⟨fun z hz => by
    obtain ⟨s, hs, rfl⟩ := List.mem_map.1 hz
    exact (ordU_mem.1 hs).2, by
    unfold sz
    rw [List.pairwise_map]
    exact (ordU_sorted ls 16).imp fun h => h.2, by
    have h := ws_all ls hf.2.1
    have h2 := hf.2.2
    unfold ws at h
    unfold sz
    rw [List.map_map]
    exact Int.le_trans (Int.le_of_eq h) h2⟩
/-- a code's number is the one that the chapter says -/
theorem hv_cd {ls C : List Int} (hf : Fm ls) (hc : Cd ls C) {i s : Nat} (h : (ordU ls 16)[i]? = some s) : hv (cb (sz ls (ordU ls 16)) i) = C.getD s 0 := by
  have hz := zs_ord hf
  have hi : i < (sz ls (ordU ls 16)).length := by rw [sz_len]; exact (List.getElem?_eq_some_iff.1 h).1
  rw [(cb_hv hz i hi).1, acc_at, sz_at h]
  have h1 := (hc.2.1 i s h).2
  have hm := ordU_mem.1 (List.mem_of_getElem? h)
  have hw : 1 ≤ wt (ls.getD s 0) := by rw [wt_pos (by omega)]; exact two_pos _
  rw [← h1, Int.mul_ediv_cancel _ (by omega)]

structure Two (w : World) (B : Nat) (v1 v2 : Value) (ls : List Int) (O : List Nat) : Prop where
  one : w.ownsRow B 3 1 v1 O.length (iv (sy O))
  two : w.ownsRow B 3 1 v2 O.length (iv (sz ls O))
  off : ∀ b, v1.ownBlock = some b → v2.ownBlock ≠ some b
theorem Two.below {w w' : World} {B : Nat} {v1 v2 : Value} {ls : List Int} {O : List Nat} (h : Two w B v1 v2 ls O) (hb : Below w.heap.size w w') : Two w' B v1 v2 ls O :=
  ⟨own_keepN h.one hb, own_keepN h.two hb, h.off⟩

set_option maxHeartbeats 4000000 in
theorem refCodes_any (A : Option Addr) (n c : Nat) (ls : List Int) (w : World) (hn : ls.length = n) (hR : Rd w w.heap.size A (iv ls)) (hI : Is ls) (hf : Fm ls) :
    Calls Try.prog 36 #[.slice A n c] w fun e w' => ∃ v rows, e = .returned v ∧ w'.ownsRow w.heap.size 57 2 v (ordU ls 16).length rows.flatten ∧ Cl w' w.heap.size v.ownBlock rows (codesOf (sy (ordU ls 16)) (sz ls (ordU ls 16))) ∧ Below w.heap.size w w' := by
  obtain ⟨i0, hi, hz0, hz1, hz2⟩ := info_parts Try.info_int
  have hm : n ≤ 512 := by have := hf.1; omega
  have HN := Lib.hid hn
  have HF := Lib.hid hf
  have hul := ordU_len ls
  rw [hn] at hul
  have hus := ordU_succ ls
  rw [hn] at hus
  have HUL := Lib.hid hul
  have HUS := Lib.hid hus
  clear hn hul hus hf
  go_enter Try.func36, Try.ntmps36
  go_wp2
  go_loopw [3, 4, 5] (fun v1 v2 i wr => ∃ m : Nat, m ≤ 16 ∧ i = .int .i64 ((m + 1 : Nat) : Int) ∧ Two wr w.heap.size v1 v2 ls (ordU ls m) ∧ Below w.heap.size w wr) (fun _ _ i _ => 17 - (intOf i).toNat)
  case atStart => exact ⟨0, by omega, rfl, ⟨by simpa [ordU, sy, iv] using World.ownsRow_nil w w.heap.size 3 1, by simpa [ordU, sz, iv] using World.ownsRow_nil w w.heap.size 3 1, fun b h => by simp [Value.ownBlock] at h⟩, Below.refl _ _⟩
  case round =>
    obtain ⟨m, hm16, rfl, hown, hb⟩ := hrel
    obtain ⟨wo, rfl⟩ : ∃ wo : World, wo = wr := ⟨_, rfl⟩
    by_cases hlt : m < 16
    · obtain ⟨q, hq⟩ : ∃ q, q = m + 1 := ⟨_, rfl⟩
      rw [← hq]
      have hq1 : q ≤ m + 1 ∧ m + 1 ≤ q := by omega
      have HQ := Lib.hid hq
      clear hq
      have hmul := HUL.out m
      have hml : (ordU ls m).length ≤ 1600000 := by
        have : m * n ≤ 16 * 512 := Nat.mul_le_mul (by omega) hm
        omega
      have hus := HUS.out m
      rw [← HQ.out] at hus
      have HU := Lib.hid hus
      clear hmul hus
      have hdq : decide ((q : Int) ≤ 16) = true := by simp; omega
      go_wp2
      go_loopw [3, 4, 6] (fun v1 v2 i wr => ∃ k : Nat, k ≤ n ∧ i = .int .i64 k ∧ Two wr w.heap.size v1 v2 ls (ordU ls m ++ ordP ls (q : Int) k) ∧ Below w.heap.size w wr) (fun _ _ i _ => n - (intOf i).toNat)
      case atStart => exact ⟨0, Nat.zero_le _, rfl, by simpa [ordP] using hown, hb⟩
      case round =>
        obtain ⟨k, hk, rfl, hown, hb⟩ := hrel
        by_cases hltk : k < n
        · obtain ⟨b, off, rfl, _, hcell⟩ := (hR.below hb).at_ (k := k) (by rw [iv_len, HN.out]; exact hltk)
          have hc := hcell k _ (ivs_get (by rw [HN.out]; exact hltk))
          have hin := getD_in (l := ls) (k := k) (by rw [HN.out]; exact hltk)
          have hxb := hI _ hin
          have hps := ordP_succ ls (q : Int) k
          have hpl := ordP_len ls (q : Int) k
          have hsz := hb.size
          have hol : (ordU ls m ++ ordP ls (q : Int) k).length ≤ 1700000 := by rw [List.length_append]; omega
          clear hcell hin hpl
          by_cases hx : ls.getD k 0 = (q : Int)
          · have hsk : sz ls [k] = [(q : Int)] := by simp only [sz, List.map_cons, List.map_nil, hx]
            have hyk : sy [k] = [(k : Int)] := rfl
            rw [if_pos hx] at hps
            rw [hx] at hc hxb
            have hsn : ordU ls m ++ ordP ls (q : Int) (k + 1) = (ordU ls m ++ ordP ls (q : Int) k) ++ [k] := by rw [hps, List.append_assoc]
            have HS := Lib.hid hsn
            have HSK := Lib.hid hsk
            have HYK := Lib.hid hyk
            clear hx hps hsn hsk hyk
            generalize ordU ls m ++ ordP ls (q : Int) k = O at *
            have hba : Below wr.heap.size wr (wr.alloc (.cells #[Value.int .i64 (k : Int)] 3)) := (Below.refl _ _).alloc (Nat.le_refl _) _
            have howna := hown.below hba
            have hbwa := hb.trans (hba.mono hsz)
            have hszw := hbwa.size
            go_upto_region 11 with (at_builtin; refine wpList_appN _ rfl (.tmp 23) (.tmp 25) 24 rfl Try.underlying24 hi hz0 hz1 hz2 rfl (by omega) howna.one rfl rfl (Rd.newN wr 3 [.int .i64 (k : Int)]) rfl (by simp [Value.oneCell']) (by omega) (by omega) hszw ?_; intro v1 w1 hown1 hap1)
            have hlt1 := howna.one.lt
            have hlt2 := howna.two.lt
            have hn2 := hap1.fr.ownN howna.two (fun b h2 h1 => howna.off b h1 h2)
            have hof : ∀ b, v1.ownBlock = some b → _ := fun b h1 h2 => (hap1.row b h1).elim (fun h => howna.off b h h2) (fun h => by have := hlt2 b h2; omega)
            have hb1 := hbwa.trans (hap1.below (B := w.heap.size) (fun b h => (hlt1 b h).1) hszw)
            have hsz1 := hb1.size
            have hbb : Below w1.heap.size w1 (w1.alloc (.cells #[Value.int .i64 (q : Int)] 3)) := (Below.refl _ _).alloc (Nat.le_refl _) _
            have hn2b := own_keepN hn2 hbb
            have hown1b := own_keepN hown1 hbb
            have hbwb := hb1.trans (hbb.mono hsz1)
            have hszb := hbwb.size
            go_wp2_with (at_builtin; refine wpList_appN _ rfl (.tmp 27) (.tmp 29) 24 rfl Try.underlying24 hi hz0 hz1 hz2 rfl (by omega) hn2b rfl rfl (Rd.newN w1 3 [.int .i64 (q : Int)]) rfl (by simp [Value.oneCell']) (by omega) (by omega) hszb ?_; intro v2 w2 hown2 hap2)
            go_roundw
            case rel =>
              refine ⟨k + 1, by omega, by go_num, ⟨?_, ?_, fun b h1 h2 => (hap2.row b h2).elim (fun h => hof b h1 h) (fun h => by have := hown1b.lt b h1; omega)⟩, hbwb.trans (hap2.below (B := w.heap.size) (fun b h => (hlt2 b h).1) hszb)⟩
              · rw [HS.out, List.length_append, sy_app, HYK.out]
                have := hap2.fr.ownN hown1b (fun b h1 h2 => hof b h1 h2)
                simpa [iv] using this
              · rw [HS.out, List.length_append, sz_app, HSK.out]
                simpa [iv] using hown2
            case measure => simp [intOf]; omega
          · have hxq : (ls.getD k 0 == (q : Int)) = false := by simpa using hx
            rw [if_neg hx, List.append_nil] at hps
            have HPS := Lib.hid hps
            clear hx hps
            generalize ls.getD k 0 = x at *
            go_wp2
            go_roundw
            case rel => exact ⟨k + 1, by omega, by go_num, by rw [HPS.out]; exact hown, hb⟩
            case measure => simp [intOf]; omega
        · have hkn : k = n := by omega
          rw [hkn, ← HU.out] at hown
          clear hkn
          go_wp2
          go_roundw
          case rel => exact ⟨q, by omega, by go_num, hown, hb⟩
          case measure => simp [intOf]; omega
    · obtain rfl : m = 16 := by omega
      have hfl := (ordU ls 16).length
      obtain ⟨A1, c1, hv1, _, _, hR1⟩ := own_sliceN hown.one
      obtain ⟨A2, c2, hv2, _, _, hR2⟩ := own_sliceN hown.two
      subst hv1 hv2
      have hol : (ordU ls 16).length ≤ 100000 := by
        have := HUL.out 16
        omega
      have hzs := zs_ord HF.out
      have hsz := hb.size
      have HL := Lib.hid (sy_len (ordU ls 16))
      have HL2 := Lib.hid (sz_len ls (ordU ls 16))
      have hIs : Is (sy (ordU ls 16)) := fun x hx => by
        obtain ⟨s, hs, rfl⟩ := List.mem_map.1 hx
        have := (ordU_mem.1 hs).1
        rw [HN.out] at this
        omega
      generalize hO : (ordU ls 16).length = no at *
      have HO := Lib.hid hO
      clear hO
      go_wp2_with fail
      refine (list_any A1 A2 no c1 no c2 (sy (ordU ls 16)) (sz ls (ordU ls 16)) _ HL.out HL2.out rfl hR1 hR2 hIs hzs hol).mono ?_; rintro e w4 ⟨v, rows, rfl, ho, hcl, hb4⟩
      go_wp2
      go_ret
      rw [HO.out]
      exact ⟨v, rows, rfl, own_baseN ho (fun b hb => by have := (ho.lt b hb).1; omega), hcl.base hsz, hb.trans (hb4.mono hsz)⟩
end Go.Proofs.Ytlhappecjjbopaa
