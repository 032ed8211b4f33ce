/-
  Filter: Unroll of the document, by a contract. Conditions: at most 5000 bytes.
-/
import Derived.Test.YtimfpkoofgglkaaFlU
namespace Go.Proofs.Ytimfpkoofgglkaa
open Go.RowKit
set_option linter.unusedVariables false

theorem runroll_bad (A : Option Addr) (n c : Nat) (s cnt p : Int) (h : BadU s cnt p) (w : World) :
    Calls Try.prog 36 #[.slice A n c, .int .i64 s, .int .i64 cnt, .int .i64 p] w fun e w' => e = .returned (.tuple #[.slice none 0 0, (.int .i64 6)]) ∧ w = w' := by
  unfold BadU at h
  by_cases h1 : s < 1
  · go_enter Try.func36, Try.ntmps36
    go_wp2
    go_ret2
    exact ⟨rfl, rfl⟩
  by_cases h2 : cnt < 1
  · go_enter Try.func36, Try.ntmps36
    go_wp2
    go_ret2
    exact ⟨rfl, rfl⟩
  by_cases h3 : p < 1
  · go_enter Try.func36, Try.ntmps36
    go_wp2
    go_ret2
    exact ⟨rfl, rfl⟩
  by_cases h4 : 8 < p
  · go_enter Try.func36, Try.ntmps36
    go_wp2
    go_ret2
    exact ⟨rfl, rfl⟩
  by_cases h5 : 1048576 < s
  · go_enter Try.func36, Try.ntmps36
    go_wp2
    go_ret2
    exact ⟨rfl, rfl⟩
  have h6 : 1048576 < cnt := by omega
  clear h
  go_enter Try.func36, Try.ntmps36
  go_wp2
  go_ret2
  exact ⟨rfl, rfl⟩

set_option maxRecDepth 100000 in
set_option maxHeartbeats 8000000 in
theorem runroll_good (A : Option Addr) (n c : Nat) (l : List Int) (s cnt : Nat) (p : Int) (h : ¬ BadU s cnt p) (w : World) (hn : l.length = n) (hnc : n ≤ c) (hc : c ≤ 9223372036854775807) (hR : Rd w w.heap.size A (bv l)) (hB : Bs l) (hm : n ≤ 5000) :
    Calls Try.prog 36 #[.slice A n c, .int .i64 s, .int .i64 cnt, .int .i64 p] w fun e w' => ∃ v, e = .returned (.tuple #[v, .int .i64 (unr s p cnt l [] []).2]) ∧
      w'.ownsRow w.heap.size 5 1 v (unr s p cnt l [] []).1.length (bv (unr s p cnt l [] []).1) ∧ Below w.heap.size w w' := by
  obtain ⟨i0, hi, hz0, hz1, hz2⟩ := info_parts Try.info_u8
  have hs1 : 1 ≤ s := by unfold BadU at h; omega
  have hc1 : 1 ≤ cnt := by unfold BadU at h; omega
  have hp : 1 ≤ p ∧ p ≤ 8 := by unfold BadU at h; omega
  have hs2 : s ≤ 1048576 := by unfold BadU at h; omega
  have hc2 : cnt ≤ 1048576 := by unfold BadU at h; omega
  have HN := Lib.hid hn
  clear h hn
  obtain ⟨T, hT⟩ : ∃ T, T = unr s p cnt l [] [] := ⟨_, rfl⟩
  rw [← hT]
  have HT := Lib.hid hT
  clear hT
  go_enter Try.func36, Try.ntmps36
  go_wp2_with fail
  go_loopw [10, 11, 12, 13] (fun o a t i wr => ∃ (k q : Nat) (al ol : List Int) (Aa : Option Addr) (na ca : Nat) (no : Nat), k ≤ cnt ∧ i = .int .i64 k ∧ t = .int .i64 q ∧ q ≤ n ∧
      no ≤ q ∧ ol.length = no ∧ a = .slice Aa na ca ∧ al.length = na ∧ Rd wr wr.heap.size Aa (bv al) ∧ Bs al ∧ (na = 0 ∨ na = s) ∧
      wr.ownsRow w.heap.size 5 1 o no (bv ol) ∧ T = unr s p (cnt - k) (l.drop q) al ol ∧ Below w.heap.size w wr) (fun _ _ _ i _ => cnt - (intOf i).toNat)
  case atStart => exact ⟨0, 0, [], [], none, 0, 0, 0, Nat.zero_le _, rfl, rfl, by omega, by omega, rfl, rfl, rfl, .inl rfl, (fun x hx => by simp at hx), .inl rfl, World.ownsRow_nil _ _ _ _, HT.out, Below.refl _ _⟩
  case round =>
    obtain ⟨k, t, al, ol, Aa, na, ca, no, hk, rfl, rfl, htn, hno, hol, rfl, hal, hRa, hBa, hna, hown, hTt, hb⟩ := hrel
    have HOL := Lib.hid hol
    have HAL := Lib.hid hal
    clear hol hal
    have hdl : (l.drop t).length = n - t := by rw [List.length_drop, HN.out]
    by_cases hlt : k < cnt
    · obtain ⟨q, hq⟩ : ∃ q, cnt - k = q + 1 := ⟨cnt - k - 1, by omega⟩
      rw [hq, unr, hdl] at hTt
      by_cases hsm : n - t ≤ s
      · rw [if_pos hsm] at hTt
        have HTT := Lib.hid hTt
        clear hTt hq hdl
        go_wp2_with fail
        go_ret2
        exact ⟨_, by rw [HTT.out]; rfl, by rw [HTT.out]; exact World.ownsRow_nil _ _ _ _, hb⟩
      rw [if_neg hsm] at hTt
      obtain ⟨bb, off, rfl, hbb, hcc⟩ := hR.at_ (k := t) (by rw [bv_len, HN.out]; omega)
      have hg0 : (l.drop t).getD 0 0 = l.getD t 0 := by simp [List.getD_eq_getElem?_getD]
      rw [hg0] at hTt
      have hcell : wr.cell? ⟨bb, off + t, none⟩ = some (.int .u8 (l.getD t 0)) := (hb.cell hbb).trans (hcc t _ (by
        have : t < l.length := by rw [HN.out]; omega
        simp [bv, this]))
      have hx := getD_bd hB t
      generalize l.getD t 0 = x at *
      by_cases hx4 : 4 < x
      · rw [if_pos hx4] at hTt
        have HTT := Lib.hid hTt
        clear hTt hq hcc hdl hg0
        go_wp2_with fail
        go_ret2
        exact ⟨_, by rw [HTT.out]; rfl, by rw [HTT.out]; exact World.ownsRow_nil _ _ _ _, hb⟩
      rw [if_neg hx4, List.drop_drop, List.drop_drop] at hTt
      have HTT := Lib.hid hTt
      have HQ := Lib.hid hq
      clear hTt hcc hq hdl hg0
      have hrl : ((l.drop (t + 1)).take s).length = s := by rw [List.length_take, List.length_drop, HN.out]; omega
      have hRrow := (hR.sub (t + 1) s)
      rw [← bv_sub] at hRrow
      have hBrow : Bs ((l.drop (t + 1)).take s) := fun y hy => hB y (List.mem_of_mem_drop (List.mem_of_mem_take hy))
      have HRL := Lib.hid hrl
      clear hrl
      go_wp2_with fail
      have hwrd : Below w.heap.size w wr.drew := ⟨hb.os, hb.tape, hb.output, hb.size, hb.block⟩
      have hcb : (t : Int) + 1 + (s : Int) ≤ (c : Int) := by omega
      have hRrow' : Rd wr.drew wr.drew.heap.size (some ⟨bb, off + (t + 1), none⟩) (bv ((l.drop (t + 1)).take s)) := ((hRrow.below hb).more hb.size).drew
      have hRa' : Rd wr.drew wr.drew.heap.size Aa (bv al) := hRa.drew
      have hU := runfilter_any x p (some ⟨bb, off + (t + 1), none⟩) Aa s na (c - (t + 1)) ca ((l.drop (t + 1)).take s) al wr.drew hp HRL.out HAL.out hRrow' hRa' hBrow hBa hna (by omega)
      have HU := Lib.hid hU
      clear hU hRrow' hRa'
      have hwx : IntKind.i64.wrap x = x := IntWalk.i64_in x (by omega)
      have hwt : IntKind.i64.wrap ((t : Int) + 1) = (t : Int) + 1 := IntWalk.i64_in _ (by omega)
      have hws : IntKind.i64.wrap ((t : Int) + 1 + (s : Int)) = (t : Int) + 1 + (s : Int) := IntWalk.i64_in _ (by omega)
      go_cut [11] from 53 to 68 (fun vr wx => wx.ownsRow wr.heap.size 5 1 vr s (bv (unf x p ((l.drop (t + 1)).take s) al)) ∧ Below wr.heap.size wr wx)
      case first =>
        go_region_with (go_at_call 20; refine HU.out.mono ?_; rintro e w1 ⟨v, rfl, hv, hb1⟩)
        all_goals go_wp2_with fail
        all_goals go_meet
        all_goals exact ⟨hv, ⟨hb1.os, hb1.tape, hb1.output, hb1.size, hb1.block⟩⟩
      case rest =>
        obtain ⟨hv, hbx⟩ := hcut
        have hb1 := hb.trans (hbx.mono hb.size)
        have hown1 := own_keep hown hbx
        have hvb := hv.lt
        have hob := hown.lt
        obtain ⟨Av, cv, rfl, hRv⟩ := own_slice hv
        clear hwx hwt hws
        go_wp2_with (at_builtin; refine wpList_app2 _ rfl (.tmp 69) (.tmp 70) 26 rfl Try.underlying26 hi hz0 hz1 hz2 rfl hown1 rfl rfl hRv (by rw [bv_len, unf_len, HRL.out]) (one_bv _) (by omega) (by omega) hb1.size ?_; intro v' w2 hown' hg)
        have hb2 := below_app2 hb1 hown1 hg (Nat.le_refl _) hb1.size
        have hRv2 := (fr_app2 hg).rdv (n := s) (c := cv) hRv (fun b h1 h2 => by have h3 := (hvb b h1).1; have h4 := (hob b h2).2; omega)
        go_roundw
        case rel => exact ⟨k + 1, t + 1 + s, unf x p ((l.drop (t + 1)).take s) al, ol ++ unf x p ((l.drop (t + 1)).take s) al, Av, s, cv, no + s, by omega, by go_num, by go_num, by omega, by omega, by rw [List.length_append, unf_len, HRL.out, HOL.out], rfl, by rw [unf_len]; exact HRL.out, hRv2, unf_bs _ _ _ _, .inr rfl, by rw [bv_app]; exact hown', by rw [HTT.out, show cnt - (k + 1) = q by have := HQ.out; omega, Nat.add_assoc], hb2⟩
        case measure => simp [intOf]; omega
    · obtain rfl : k = cnt := by omega
      rw [Nat.sub_self, unr, hdl] at hTt
      by_cases hm0 : 0 < n - t
      · rw [if_pos hm0] at hTt
        have HTT := Lib.hid hTt
        clear hTt hdl
        go_wp2_with fail
        go_ret2
        exact ⟨_, by rw [HTT.out]; rfl, by rw [HTT.out]; exact World.ownsRow_nil _ _ _ _, hb⟩
      · rw [if_neg hm0] at hTt
        have HTT := Lib.hid hTt
        clear hTt hdl
        go_wp2_with fail
        go_ret2
        exact ⟨_, by rw [HTT.out]; rfl, by rw [HTT.out, HOL.out]; exact hown, hb⟩
end Go.Proofs.Ytimfpkoofgglkaa
