/-
  ProgWrites, plain: codes of 256 symbols of 9 bits each; what is known behind a band, in both forms. No condition.
-/
import Derived.Test.YtlhappecjjbopaaPrX
import Derived.Test.YtlhappecjjbopaaPrU
import Derived.Test.YtlhappecjjbopaaScT
namespace Go.Proofs.Ytlhappecjjbopaa
open Go.RowKit
set_option linter.unusedVariables false
set_option maxRecDepth 100000
def C256 : List Int := (List.range 256).map fun (i : Nat) => (i : Int)
theorem ord256 : ordU (flatL 256 8 0) 16 = List.range 256 := by decide +kernel
theorem at256 : ∀ i : Nat, i < 256 → (i : Int) * wt ((flatL 256 8 0).getD i 0) = at_ (flatL 256 8 0) i := by decide +kernel
theorem c256_at {i : Nat} (hi : i < 256) : C256.getD i 0 = (i : Int) := by
  rw [C256, List.getD_eq_getElem?_getD, List.getElem?_map, List.getElem?_range hi]; rfl
theorem cd_all : Cd (flatL 256 8 0) C256 := by
  refine ⟨by rw [flatL_len]; simp [C256], fun i s h => ?_, fun s h => ?_⟩
  · rw [ord256] at h
    have hi : i < 256 := by have := (List.getElem?_eq_some_iff.1 h).1; simpa using this
    rw [List.getElem?_range hi] at h
    injection h with h
    subst h
    rw [c256_at hi]
    exact ⟨by omega, at256 i hi⟩
  · by_cases hs : s < 256
    · have := (flat_pos 256 8 0 s hs).2; omega
    · rw [C256, List.getD_eq_getElem?_getD, List.getElem?_map, List.getElem?_eq_none (by simp; omega)]; rfl
theorem knG_up (x : List Int) (f : Nat) (l : Int) : ∀ i, knG x f l false i = upB x x f l i
  | 0 => rfl
  | i + 1 => by rw [knG, upB, knG_up x f l i]; rfl
theorem knB_up (x : List Int) (f t : Nat) (l : Int) : knB f t l false x = upB x x f l (t + 1 - f) := knG_up x f l _
theorem tn_10 (x : List Int) (f j : Nat) : tn x f 10 j = 0 := by unfold tn tl; rw [if_pos (by omega)]
theorem zrN_10 (x : List Int) (f n : Nat) : zrN x f n = upB x x f 10 n := zrN_up x x f 10 (tn_10 x f) n
theorem knL_map (f t : Nat) (l : Int) (X : List (List Int)) : X.map (knB f t l false) = knL f (t + 1 - f) l X := by
  unfold knL; exact List.map_congr_left fun x _ => knB_up x f t l
theorem zrL_map (f n : Nat) (X : List (List Int)) : X.map (fun x => zrN x f n) = knL f n 10 X := by
  unfold knL; exact List.map_congr_left fun x _ => zrN_10 x f n
theorem up_good {x : List Int} {f : Nat} {l : Int} (hx : x.length = 64) (hg : GoodB x) (hf : 1 ≤ f) : ∀ i, f + i ≤ 64 → GoodB (upB x x f l i)
  | 0, _ => hg
  | i + 1, h => by
    have ih := up_good (l := l) hx hg hf i (by omega)
    have hb := tn_in hg hf (j := i) (by omega)
    have ht := (tl_low (l := l) hb.1 hb.2).2
    have hz := zzN_bd (f + i) (by omega)
    have hl : (upB x x f l i).length = 64 := by rw [upB_len]; exact hx
    rw [upB]
    refine ⟨fun j h1 h2 => ?_, ?_⟩
    · by_cases e : zzN (f + i) = j
      · rw [List.getD_eq_getElem?_getD, ← e, List.getElem?_set_self (by omega)]
        exact ht
      · rw [getD_set_ne _ e]; exact ih.1 j h1 h2
    · rw [getD_set_ne _ (fun e => by have := hz.2.2.1 e; omega)]; exact ih.2
theorem knL_good {f n : Nat} {l : Int} (hf : 1 ≤ f) (hfn : f + n ≤ 64) {X : List (List Int)} (hX : ∀ x ∈ X, x.length = 64 ∧ GoodB x) : ∀ y ∈ knL f n l X, y.length = 64 ∧ GoodB y := fun y hy => by
  obtain ⟨x, hx, rfl⟩ := List.mem_map.1 hy
  exact ⟨by rw [upB_len]; exact (hX x hx).1, up_good (hX x hx).1 (hX x hx).2 hf n hfn⟩
theorem acP_len (f n : Nat) (h l : Int) (G : List (List Int)) : (acP f n h l G).length ≤ 3 * n * G.length + 1 := by
  have h1 := (acL_bd f n h l G ⟨[], 0, []⟩).1
  have h2 := fl_len (acL f n h l G ⟨[], 0, []⟩)
  have h3 : (⟨[], 0, []⟩ : Pen).len = 0 := rfl
  have h4 : (acP f n h l G).length ≤ (acL f n h l G ⟨[], 0, []⟩).fl.len := Nat.le_add_right _ _
  omega
theorem acP_len2 {f n : Nat} {h l : Int} {G : List (List Int)} (hn : n ≤ 64) (hG : G.length ≤ 40) : (acP f n h l G).length ≤ 10000 := by
  have h1 := acP_len f n h l G
  have h2 : 3 * n * G.length ≤ 192 * G.length := Nat.mul_le_mul_right _ (by omega)
  omega
/-- the blocks ahead of a band, and what comes of them -/
theorem ahead_fine {f n : Nat} {h l : Int} (hf : 1 ≤ f) (hfn : f + n ≤ 64) (hl : 0 ≤ l ∧ l ≤ 9) (hh : 0 < h → h = l + 1) {X : List (List Int)} (hX : ∀ x ∈ X, x.length = 64 ∧ GoodB x) :
    BnL f n h l (if 0 < h then knL f n h X else X) X ∧ outL f n h l (if 0 < h then knL f n h X else X) X = knL f n l X := by
  by_cases h0 : 0 < h
  · rw [if_pos h0]
    exact bnL_fine hf hfn hl (hh h0) X hX
  · rw [if_neg h0]
    exact bnL_first hf hfn h0 X X hX rfl (fun i x y h1 h2 => by
      rw [h1] at h2
      injection h2 with h2
      subst h2
      exact ⟨(hX x (List.mem_of_getElem? h1)).1, fun _ _ _ => rfl⟩)
end Go.Proofs.Ytlhappecjjbopaa
