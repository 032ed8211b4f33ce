/-
  Filter: Unroll, the program's and the document's, by contracts. Conditions: at most 5000 bytes.
-/
import Derived.Test.YtimfpkoofgglkaaFlW
import Derived.Test.YtimfpkoofgglkaaOwn
import Derived.Deep.RegionWith
import Derived.Deep.CutRange
import Derived.StillTailTactics
namespace Go.Proofs.Ytimfpkoofgglkaa
open Go.RowKit
set_option linter.unusedVariables false

/-! plain -/
/-- rows that are left to be read, the bytes that are left, the row ahead, the rows that were read: the rows; an error's number -/
def unr (s : Nat) (p : Int) : Nat → List Int → List Int → List Int → List Int × Int
  | 0, r, _, o => if 0 < r.length then ([], 2) else (o, 0)
  | c + 1, r, a, o => if r.length ≤ s then ([], 8) else if 4 < r.getD 0 0 then ([], 2) else
      unr s p c (r.drop (1 + s)) (unf (r.getD 0 0) p ((r.drop 1).take s) a) (o ++ unf (r.getD 0 0) p ((r.drop 1).take s) a)
def BadU (s c p : Int) : Prop := s < 1 ∨ c < 1 ∨ p < 1 ∨ 8 < p ∨ 1048576 < s ∨ 1048576 < c
instance (s c p : Int) : Decidable (BadU s c p) := by unfold BadU; infer_instance
def unroll (l : List Int) (s c p : Int) : List Int × Int := if BadU s c p then ([], 6) else unr s.toNat p c.toNat l [] []
theorem unr_err (s : Nat) (p : Int) : ∀ (c : Nat) (r a o : List Int), (unr s p c r a o).2 = 0 ∨ ((unr s p c r a o).2 = 2 ∨ (unr s p c r a o).2 = 8) ∧ (unr s p c r a o).1 = []
  | 0, r, a, o => by unfold unr; split <;> simp
  | c + 1, r, a, o => by
    unfold unr
    split
    · simp
    · split
      · simp
      · exact unr_err s p c _ _ _
theorem unf_len (k p : Int) (r a : List Int) : (unf k p r a).length = r.length := by rw [unf, unfT_len]
theorem unf_bs (k p : Int) (r a : List Int) : Bs (unf k p r a) := unfT_bs _ _ _ _ _
theorem unr_bs (s : Nat) (p : Int) : ∀ (c : Nat) (r a o : List Int), Bs o → Bs (unr s p c r a o).1
  | 0, r, a, o, h => by
    unfold unr; split
    · intro x hx; simp at hx
    · exact h
  | c + 1, r, a, o, h => by
    unfold unr
    split
    · intro x hx; simp at hx
    · split
      · intro x hx; simp at hx
      · refine unr_bs s p c _ _ _ (fun x hx => ?_)
        rcases List.mem_append.1 hx with hx | hx
        · exact h x hx
        · exact unf_bs _ _ _ _ x hx
theorem unr_lenle (s : Nat) (p : Int) : ∀ (c : Nat) (r a o : List Int), (unr s p c r a o).1.length ≤ o.length + r.length
  | 0, r, a, o => by unfold unr; split <;> simp
  | c + 1, r, a, o => by
    unfold unr
    split
    · simp
    · split
      · simp
      · refine Nat.le_trans (unr_lenle s p c _ _ _) ?_
        rw [List.length_append, unf_len, List.length_take, List.length_drop, List.length_drop]
        omega
theorem unroll_bs (l : List Int) (s c p : Int) : Bs (unroll l s c p).1 := by
  unfold unroll; split
  · intro x hx; simp at hx
  · exact unr_bs _ _ _ _ _ _ (fun x hx => by simp at hx)
theorem unroll_len (l : List Int) (s c p : Int) : (unroll l s c p).1.length ≤ l.length := by
  unfold unroll; split
  · simp
  · have := unr_lenle s.toNat p c.toNat l [] []
    simpa using this
theorem unroll_err (l : List Int) (s c p : Int) : (unroll l s c p).2 = 0 ∨ ((unroll l s c p).2 = 2 ∨ (unroll l s c p).2 = 8 ∨ (unroll l s c p).2 = 6) ∧ (unroll l s c p).1 = [] := by
  unfold unroll; split
  · simp
  · rcases unr_err s.toNat p c.toNat l [] [] with h | ⟨h | h, h2⟩
    · exact .inl h
    · exact .inr ⟨.inl h, h2⟩
    · exact .inr ⟨.inr (.inl h), h2⟩
/-- an error as a value -/
def errOf (n : Int) : Value := if n = 0 then .nilIface else errV n
theorem errOf0 : errOf 0 = .nilIface := rfl
theorem errOf_pos {n : Int} (h : n ≠ 0) : errOf n = errV n := if_neg h

theorem Rd.sub {w : World} {B b off : Nat} {xs : List Value} (h : Rd w B (some ⟨b, off, none⟩) xs) (k m : Nat) : Rd w B (some ⟨b, off + k, none⟩) ((xs.drop k).take m) := by
  rcases h with h | ⟨b', off', hA, hb, hc⟩
  · subst h; exact .inl (by simp)
  · injection hA with hA
    injection hA with h1 h2
    subst h1 h2
    refine .inr ⟨b, off + k, rfl, hb, fun j u hu => ?_⟩
    rw [List.getElem?_take] at hu
    split at hu
    · rw [List.getElem?_drop] at hu
      rw [Nat.add_assoc]; exact hc _ _ hu
    · cases hu
theorem Rd.dropped {w : World} {B b off : Nat} {l : List Int} (h : Rd w B (some ⟨b, off, none⟩) (bv l)) (k : Nat) : Rd w B (some ⟨b, off + k, none⟩) (bv (l.drop k)) := by
  have h1 := h.sub k (bv l).length
  rw [List.take_of_length_le (by simp)] at h1
  have h2 : bv (l.drop k) = (bv l).drop k := by simp [bv, List.map_drop]
  rw [h2]; exact h1
theorem bv_sub (l : List Int) (k m : Nat) : bv ((l.drop k).take m) = ((bv l).drop k).take m := by simp [bv, List.map_drop, List.map_take]
theorem bv_drop (l : List Int) (k : Nat) : bv (l.drop k) = (bv l).drop k := by simp [bv, List.map_drop]

theorem unroll_bad (A : Option Addr) (n c : Nat) (s cnt p : Int) (h : BadU s cnt p) (w : World) :
    Calls Try.prog 35 #[.slice A n c, .int .i64 s, .int .i64 cnt, .int .i64 p] w fun e w' => e = .returned (.tuple #[.slice none 0 0, errV 6]) ∧ w = w' := by
  unfold BadU at h
  unfold errV
  by_cases h1 : s < 1
  · go_enter Try.func35, Try.ntmps35
    go_wp2
    go_ret2
    exact ⟨rfl, rfl⟩
  by_cases h2 : cnt < 1
  · go_enter Try.func35, Try.ntmps35
    go_wp2
    go_ret2
    exact ⟨rfl, rfl⟩
  by_cases h3 : p < 1
  · go_enter Try.func35, Try.ntmps35
    go_wp2
    go_ret2
    exact ⟨rfl, rfl⟩
  by_cases h4 : 8 < p
  · go_enter Try.func35, Try.ntmps35
    go_wp2
    go_ret2
    exact ⟨rfl, rfl⟩
  by_cases h5 : 1048576 < s
  · go_enter Try.func35, Try.ntmps35
    go_wp2
    go_ret2
    exact ⟨rfl, rfl⟩
  have h6 : 1048576 < cnt := by omega
  clear h
  go_enter Try.func35, Try.ntmps35
  go_wp2
  go_ret2
  exact ⟨rfl, rfl⟩

set_option maxRecDepth 100000 in
set_option maxHeartbeats 8000000 in
theorem unroll_good (A : Option Addr) (n c : Nat) (l : List Int) (s cnt : Nat) (p : Int) (h : ¬ BadU s cnt p) (w : World) (hn : l.length = n) (hnc : n ≤ c) (hc : c ≤ 9223372036854775807) (hR : Rd w w.heap.size A (bv l)) (hB : Bs l) (hm : n ≤ 6000) :
    Calls Try.prog 35 #[.slice A n c, .int .i64 s, .int .i64 cnt, .int .i64 p] w fun e w' => ∃ v, e = .returned (.tuple #[v, errOf (unr s p cnt l [] []).2]) ∧
      w'.ownsRow w.heap.size 5 1 v (unr s p cnt l [] []).1.length (bv (unr s p cnt l [] []).1) ∧ Below w.heap.size w w' := by
  obtain ⟨i0, hi, hz0, hz1, hz2⟩ := info_parts Try.info_u8
  have hs1 : 1 ≤ s := by unfold BadU at h; omega
  have hc1 : 1 ≤ cnt := by unfold BadU at h; omega
  have hp : 1 ≤ p ∧ p ≤ 8 := by unfold BadU at h; omega
  have hs2 : s ≤ 1048576 := by unfold BadU at h; omega
  have hc2 : cnt ≤ 1048576 := by unfold BadU at h; omega
  have HN := Lib.hid hn
  clear h hn
  obtain ⟨T, hT⟩ : ∃ T, T = unr s p cnt l [] [] := ⟨_, rfl⟩
  rw [← hT]
  have HT := Lib.hid hT
  clear hT
  go_enter Try.func35, Try.ntmps35
  go_wp2_with fail
  go_loopw [0, 10, 11, 38] (fun b o a i wr => ∃ (k : Nat) (Ab : Option Addr) (m cb : Nat) (r al ol : List Int) (Aa : Option Addr) (na ca : Nat) (no : Nat), k ≤ cnt ∧ i = .int .i64 k ∧ b = .slice Ab m cb ∧ r.length = m ∧ m ≤ cb ∧ cb ≤ 9223372036854775807 ∧
      no + m ≤ 6000 ∧ ol.length = no ∧ Rd w w.heap.size Ab (bv r) ∧ Bs r ∧ a = .slice Aa na ca ∧ al.length = na ∧ Rd wr wr.heap.size Aa (bv al) ∧ Bs al ∧ (na = 0 ∨ na = s) ∧
      wr.ownsRow w.heap.size 5 1 o no (bv ol) ∧ T = unr s p (cnt - k) r al ol ∧ Below w.heap.size w wr) (fun _ _ _ i _ => cnt - (intOf i).toNat)
  case atStart => exact ⟨0, A, n, c, l, [], [], none, 0, 0, 0, Nat.zero_le _, rfl, rfl, HN.out, hnc, hc, by omega, rfl, hR, hB, rfl, rfl, .inl rfl, (fun x hx => by simp at hx), .inl rfl, World.ownsRow_nil _ _ _ _, HT.out, Below.refl _ _⟩
  case round =>
    obtain ⟨k, Ab, m, cb, r, al, ol, Aa, na, ca, no, hk, rfl, rfl, hrm, hmc, hcm, hno, hol, hRb, hBr, rfl, hal, hRa, hBa, hna, hown, hTt, hb⟩ := hrel
    have HRM := Lib.hid hrm
    have HOL := Lib.hid hol
    have HAL := Lib.hid hal
    clear hrm hol hal
    by_cases hlt : k < cnt
    · obtain ⟨q, hq⟩ : ∃ q, cnt - k = q + 1 := ⟨cnt - k - 1, by omega⟩
      rw [hq, unr] at hTt
      by_cases hsm : m ≤ s
      · rw [if_pos (by rw [HRM.out]; exact hsm)] at hTt
        have HTT := Lib.hid hTt
        clear hTt hq
        go_wp2_with fail
        go_ret2
        exact ⟨_, by rw [HTT.out]; rfl, by rw [HTT.out]; exact World.ownsRow_nil _ _ _ _, hb⟩
      rw [if_neg (by rw [HRM.out]; exact hsm)] at hTt
      obtain ⟨bb, off, rfl, hbb, hcc⟩ := hRb.at_ (k := 0) (by rw [bv_len, HRM.out]; omega)
      have hcell : wr.cell? ⟨bb, off, none⟩ = some (.int .u8 (r.getD 0 0)) := (hb.cell (p := ⟨bb, off, none⟩) hbb).trans (hcc 0 _ (by
        have : 0 < r.length := by rw [HRM.out]; omega
        simp [bv, this]))
      have hx := getD_bd hBr 0
      generalize r.getD 0 0 = x at *
      by_cases hx4 : 4 < x
      · rw [if_pos hx4] at hTt
        have HTT := Lib.hid hTt
        clear hTt hq hcc
        go_wp2_with fail
        go_ret2
        exact ⟨_, by rw [HTT.out]; rfl, by rw [HTT.out]; exact World.ownsRow_nil _ _ _ _, hb⟩
      rw [if_neg hx4] at hTt
      have HTT := Lib.hid hTt
      have HQ := Lib.hid hq
      clear hTt hcc hq
      have hrl : ((r.drop 1).take s).length = s := by rw [List.length_take, List.length_drop, HRM.out]; omega
      have hRrow := (hRb.sub 1 s)
      rw [← bv_sub] at hRrow
      have hBrow : Bs ((r.drop 1).take s) := fun y hy => hBr y (List.mem_of_mem_drop (List.mem_of_mem_take hy))
      have HRL := Lib.hid hrl
      clear hrl
      go_wp2_with fail
      have hcb : 1 + (s : Int) ≤ (cb : Int) := by omega
      have hcm1 : (m : Int) ≤ (cb : Int) := by omega
      have hwrd : Below w.heap.size w wr.drew := ⟨hb.os, hb.tape, hb.output, hb.size, hb.block⟩
      have hmc2 : (m : Int) ≤ 6000 := by omega
      have hRrow' : Rd wr.drew wr.drew.heap.size (some ⟨bb, off + 1, none⟩) (bv ((r.drop 1).take s)) := ((hRrow.below hb).more hb.size).drew
      have hRa' : Rd wr.drew wr.drew.heap.size Aa (bv al) := hRa.drew
      have hU := unfilter_any x p (some ⟨bb, off + 1, none⟩) Aa s na (cb - 1) ca ((r.drop 1).take s) al wr.drew (by omega) hp HRL.out HAL.out hRrow' hRa' hBrow hBa hna (by omega)
      have HU := Lib.hid hU
      clear hU
      have hwx : IntKind.i64.wrap x = x := IntWalk.i64_in x (by omega)
      have hws : IntKind.i64.wrap (1 + (s : Int)) = 1 + (s : Int) := IntWalk.i64_in _ (by omega)
      clear hRrow' hRa'
      go_cut [12, 13] from 50 to 63 (fun vr ve wx => ve = .nilIface ∧ wx.ownsRow wr.heap.size 5 1 vr s (bv (unf x p ((r.drop 1).take s) al)) ∧ Below wr.heap.size wr wx)
      case first =>
        go_region_with (go_at_call 14; refine HU.out.mono ?_; rintro e w1 ⟨v, rfl, hv, hb1⟩)
        all_goals go_wp2_with fail
        all_goals go_meet
        all_goals exact ⟨rfl, hv, ⟨hb1.os, hb1.tape, hb1.output, hb1.size, hb1.block⟩⟩
      case rest =>
        obtain ⟨rfl, hv, hbx⟩ := hcut
        rename_i vrow _
        have hb1 := hb.trans (hbx.mono hb.size)
        have hown1 := own_keep hown hbx
        have hvb := hv.lt
        have hob := hown.lt
        obtain ⟨Av, cv, rfl, hRv⟩ := own_slice hv
        go_wp2_with (at_builtin; refine wpList_app2 _ rfl (.tmp 67) (.tmp 68) 26 rfl Try.underlying26 hi hz0 hz1 hz2 rfl hown1 rfl rfl hRv (by rw [bv_len, unf_len, HRL.out]) (one_bv _) (by omega) (by omega) hb1.size ?_; intro v' w2 hown' hg)
        have hb2 := below_app2 hb1 hown1 hg (Nat.le_refl _) hb1.size
        have hRv2 := (fr_app2 hg).rdv (n := s) (c := cv) hRv (fun b h1 h2 => by have h3 := (hvb b h1).1; have h4 := (hob b h2).2; omega)
        by_cases hce : cb = 1 + s
        · have hws2 : (1 + (s : Int)).toNat = 1 + s := by omega
          have hcei : 1 + (s : Int) ≤ (m : Int) := by omega
          go_quiet (fail)
          go_wp2_with fail
          go_roundw
          case rel => exact ⟨k + 1, some ⟨bb, off, none⟩, m - (1 + s), cb - (1 + s), r.drop (1 + s), unf x p ((r.drop 1).take s) al, ol ++ unf x p ((r.drop 1).take s) al, Av, s, cv, no + s, by omega, by go_num, by rw [show cb - (1 + s) = 0 by omega], by rw [List.length_drop, HRM.out], by omega, by omega, by omega, by rw [List.length_append, unf_len, HRL.out, HOL.out], .inl (by rw [List.drop_of_length_le (by rw [HRM.out]; omega)]; rfl), fun y hy => hBr y (List.mem_of_mem_drop hy), rfl, by rw [unf_len]; exact HRL.out, hRv2.drewN _, unf_bs _ _ _ _, .inr rfl, by rw [bv_app]; exact hown', by rw [HTT.out, show cnt - (k + 1) = q by have := HQ.out; omega], below_drewN hb2 _⟩
          case measure => simp [intOf]; omega
        · go_quiet (fail)
          go_wp2_with fail
          go_roundw
          case rel => exact ⟨k + 1, _, m - (1 + s), cb - (1 + s), r.drop (1 + s), unf x p ((r.drop 1).take s) al, ol ++ unf x p ((r.drop 1).take s) al, Av, s, cv, no + s, by omega, by go_num, rfl, by rw [List.length_drop, HRM.out], by omega, by omega, by omega, by rw [List.length_append, unf_len, HRL.out, HOL.out], hRb.dropped (1 + s), fun y hy => hBr y (List.mem_of_mem_drop hy), rfl, by rw [unf_len]; exact HRL.out, hRv2.drewN _, unf_bs _ _ _ _, .inr rfl, by rw [bv_app]; exact hown', by rw [HTT.out, show cnt - (k + 1) = q by have := HQ.out; omega], below_drewN hb2 _⟩
          case measure => simp [intOf]; omega
    · obtain rfl : k = cnt := by omega
      rw [Nat.sub_self, unr] at hTt
      by_cases hm0 : 0 < m
      · rw [if_pos (by rw [HRM.out]; exact hm0)] at hTt
        have HTT := Lib.hid hTt
        clear hTt
        go_wp2_with fail
        go_ret2
        exact ⟨_, by rw [HTT.out]; rfl, by rw [HTT.out]; exact World.ownsRow_nil _ _ _ _, hb⟩
      · rw [if_neg (by rw [HRM.out]; exact hm0)] at hTt
        have HTT := Lib.hid hTt
        clear hTt
        go_wp2_with fail
        go_ret2
        exact ⟨_, by rw [HTT.out]; rfl, by rw [HTT.out, HOL.out]; exact hown, hb⟩
end Go.Proofs.Ytimfpkoofgglkaa
