/-
  bits: what the chapter 03's statements alone reach: High, alive. No condition.
-/
import Derived.Test.YtkmgojoojboidaaBiG
import Derived.Test.YtkmgojoojboidaaFacts
namespace Go.Proofs.Ytkmgojoojboidaa
open Go.RowKit
set_option linter.unusedVariables false
set_option maxRecDepth 100000
theorem high_any (p : Nat) (h : Bool) (v : Value) (L : List Int) (w : World) (x : Wr w p h v L) : Calls Try.prog 31 #[.pointer (some ⟨p, 0, none⟩)] w fun e w' => e = .returned (.bool h) ∧ w = w' := by
  have c0 := x.blk.c0
  clear x
  go_enter Try.func31, Try.ntmps31
  go_wp2
  go_ret
  exact ⟨rfl, rfl⟩
theorem high_nil (w : World) : Calls Try.prog 31 #[.pointer none] w fun e w' => e = .returned (.bool false) ∧ w = w' := by
  go_enter Try.func31, Try.ntmps31
  go_wp2
  go_ret
  exact ⟨rfl, rfl⟩
theorem ralign_nil (w : World) : Calls Try.prog 45 #[.pointer none] w fun e w' => e = .returned (.tuple #[]) ∧ w = w' := by
  go_enter Try.func45, Try.ntmps45
  go_wp2
  go_end0
  exact ⟨rfl, rfl⟩
theorem ralign_any {w : World} {p : Nat} {h : Bool} {A : Option Addr} {c m : Nat} {B : List Int} (x : Re w p h A c B m) (hm : B.length ≤ 68719476736) : Calls Try.prog 45 #[.pointer (some ⟨p, 0, none⟩)] w fun e w' => e = .returned (.tuple #[]) ∧ Re w' p h A c B (8 * nby m) ∧ Fp p w w' := by
  have c2 := x.blk.c2
  have f2 := x.blk.f 2 (by omega)
  have hle := x.le
  have hs := x.step (8 * nby m) (by unfold nby; omega)
  have hfin : ((8 * nby m : Nat) : Int) = ((m : Int) + 8 - 1) / 8 * 8 := by unfold nby; omega
  rw [hfin] at hs
  have HS := Lib.hid hs
  clear hs hfin x
  go_enter Try.func45, Try.ntmps45
  go_wp2
  go_end0
  exact ⟨rfl, HS.out.1, HS.out.2⟩

theorem Wr.keep {w w' : World} {p : Nat} {h : Bool} {v : Value} {L : List Int} {S : Nat → Prop} (x : Wr w p h v L) (hf : Fr S w w') (hp : ¬ S p) (hv : ∀ k, v.ownBlock = some k → ¬ S k) : Wr w' p h v L :=
  ⟨x.blk.keep hf hp, hf.own x.own hv, x.ne, x.b01⟩
theorem Wr.below {w w' : World} {p : Nat} {h : Bool} {v : Value} {L : List Int} (x : Wr w p h v L) (hb : Below w.heap.size w w') : Wr w' p h v L :=
  x.keep (S := fun _ => False) (Fr.of_below hb) id (fun _ _ => id)

set_option maxHeartbeats 1000000 in
theorem alive03_any (w : World) : Calls Try.prog 29 #[] w fun e w' => e = .returned (.bool true) ∧ Below w.heap.size w w' := by
  go_enter Try.func29, Try.ntmps29
  go_wp2_with fail
  refine (newWriter_any false w).mono ?_; rintro e w1 ⟨rfl, xa, hb1⟩
  have hs1 := xa.lt
  have hA1 : w.heap.size < w1.heap.size := hs1
  go_wp2_with fail
  refine (newWriter_any true w1).mono ?_; rintro e w2 ⟨rfl, xb, hb2⟩
  have xa2 := xa.below hb2
  have hs2 := xb.lt
  have hb2' := hb1.trans (hb2.mono hb1.size)
  generalize hpa : w.heap.size = pa at *
  generalize hpb : w1.heap.size = pb at *
  have HPA := Lib.hid hpa
  have HPB := Lib.hid hpb
  clear hpa hpb
  go_wp2_with fail
  refine (put_any pa false _ _ 5 3 w2 xa2 (by decide) (by omega) (by simp)).mono ?_; rintro e w3 ⟨rfl, v3, xa3, t3⟩
  go_wp2_with fail
  refine (put_any pa false _ _ 1 1 w3 xa3 (by decide) (by omega) (by simp [digs_len])).mono ?_; rintro e w4 ⟨rfl, v4, xa4, t4⟩
  have ta := t3.trans t4
  have hra : ∀ k, v4.ownBlock = some k → w2.heap.size ≤ k := fun k hk => by
    rcases ta.row k hk with h | h
    · simp [Value.ownBlock] at h
    · exact h
  have xb4 : Wr w4 pb true (.slice none 0 0) [] := xb.keep ta.fr (by
    rintro (h | h)
    · omega
    · simp [Value.ownBlock] at h) (fun k hk => by simp [Value.ownBlock] at hk)
  have hb4 : Below pa w w4 := hb2'.trans (ta.below (by omega) (fun k hk => by simp [Value.ownBlock] at hk) (by omega))
  have hs4 := ta.fr.size
  have hlt4 := xa4.own.lt
  go_wp2_with fail
  refine (put_any pb true _ _ 5 3 w4 xb4 (by decide) (by omega) (by simp)).mono ?_; rintro e w5 ⟨rfl, v5, xb5, t5⟩
  go_wp2_with fail
  refine (put_any pb true _ _ 1 1 w5 xb5 (by decide) (by omega) (by simp [digs_len])).mono ?_; rintro e w6 ⟨rfl, v6, xb6, t6⟩
  have tb := t5.trans t6
  have xa6 : Wr w6 pa false v4 _ := xa4.keep tb.fr (by
    rintro (h | h)
    · omega
    · simp [Value.ownBlock] at h) (fun k hk => by
      have := hra k hk
      rintro (h | h)
      · omega
      · simp [Value.ownBlock] at h)
  have hb6 : Below pa w w6 := hb4.trans (tb.below (by omega) (fun k hk => by simp [Value.ownBlock] at hk) (by omega))
  have hs6 := tb.fr.size
  clear ta tb t3 t4 t5 t6 xa xb xa2 xa3 xb4 xb5 xa4
  go_wp2_with fail
  refine (bytes_any pa false _ _ w6 xa6 (by simp [digs_len])).mono ?_; rintro e w7 ⟨x, rfl, hx, hb7⟩
  have xb7 := xb6.below hb7
  have hb7' := hb6.trans (hb7.mono (by omega))
  have hs7 := hb7.size
  rw [show nby (([] : List Int) ++ digs false 5 3 ++ digs false 1 1).length = 1 from rfl, show pack false (full false (([] : List Int) ++ digs false 5 3 ++ digs false 1 1)) = [13] from by decide +kernel] at hx
  go_wp2_with fail
  refine (bytes_any pb true _ _ w7 xb7 (by simp [digs_len])).mono ?_; rintro e w8 ⟨y, rfl, hy, hb8⟩
  have hx8 := own_keep hx hb8
  have hb8' := hb7'.trans (hb8.mono (by omega))
  rw [show nby (([] : List Int) ++ digs true 5 3 ++ digs true 1 1).length = 1 from rfl, show pack true (full true (([] : List Int) ++ digs true 5 3 ++ digs true 1 1)) = [191] from by decide +kernel] at hy
  obtain ⟨gx, dx, rfl, _, _, _, _⟩ := own_pos hx8 (by omega)
  obtain ⟨gy, dy, rfl, _, _, _, _⟩ := own_pos hy (by omega)
  have cx : w8.cell? ⟨gx, 0, none⟩ = some (.int .u8 13) := by rw [hx8.cellAt 0 (by omega)]; rfl
  have cy : w8.cell? ⟨gy, 0, none⟩ = some (.int .u8 191) := by rw [hy.cellAt 0 (by omega)]; rfl
  clear hx hx8 hy xa6 xb6 xb7
  go_wp2
  go_ret
  exact ⟨rfl, by rw [HPA.out]; exact hb8'⟩
end Go.Proofs.Ytkmgojoojboidaa
