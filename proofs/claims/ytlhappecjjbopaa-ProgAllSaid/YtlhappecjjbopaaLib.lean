/-
  Helpers that every claim of this seat uses: lists of numbers as cells, slices that read as lists, lifting a walk to a row. No condition.
  Own rows: what stays of them. No condition.
  A struct that came in, opened field by field, whatever its fields are. No condition.
  append of elements of several cells to an own row; own rows of several cells. No condition.
  Bits in bytes: numbers of bits, bytes of bits, lists of bits; plain. No condition.
  Prefix codes by their lengths: which symbols have codes in which order, and where a code lies; plain. No condition.
-/
import Derived.WalkKit
import Derived.ProofKit
import Derived.OpenShut
import Derived.Carry
import Derived.Handy
import Derived.BigQuiet
import Derived.Deep.QuietTactic
import Derived.WalkLawsBesides
import Derived.WalkSpells
import Derived.Lib.Hide
import Derived.Lib.SmallJoins
import Derived.Maps.AppendAt
import Derived.Laws.IdiomStrings
import Derived.Deep.AppendLies
import Derived.Deep.Draws
import Derived.Deep.Slices
namespace Go.Proofs.Ytlhappecjjbopaa
open Go.ChangeShapes Go.WideShapes Go.ChangeAt Go.WideMaps Go.WideElems Go.RowKit
set_option linter.unusedVariables false

/-- bytes, ints as cells -/
def bv (l : List Int) : List Value := l.map (Value.int .u8)
def iv (l : List Int) : List Value := l.map (Value.int .i64)
/-- numbers of a byte, of an int -/
def Bs (l : List Int) : Prop := ∀ x ∈ l, 0 ≤ x ∧ x ≤ 255
def Is (l : List Int) : Prop := ∀ x ∈ l, -9223372036854775808 ≤ x ∧ x ≤ 9223372036854775807

theorem bv_len (l : List Int) : (bv l).length = l.length := by simp [bv]
theorem iv_len (l : List Int) : (iv l).length = l.length := by simp [iv]

/-- the cells behind an address read as xs; below block B -/
def Rd (w : World) (B : Nat) (A : Option Addr) (xs : List Value) : Prop :=
  xs = [] ∨ ∃ b off, A = some ⟨b, off, none⟩ ∧ b < B ∧ ∀ k u, xs[k]? = some u → w.cell? ⟨b, off + k, none⟩ = some u

section
variable {w w' : World} {B B' : Nat} {A : Option Addr} {xs : List Value}
theorem Rd.nil_ (w : World) (B : Nat) (A : Option Addr) : Rd w B A [] := .inl rfl
theorem Rd.keep (h : Rd w B A xs) (hk : ∀ p : Addr, p.block < B → w'.cell? p = w.cell? p) : Rd w' B A xs := by
  rcases h with h | ⟨b, off, hA, hb, hc⟩
  · exact .inl h
  · exact .inr ⟨b, off, hA, hb, fun k u hu => (hk _ hb).trans (hc k u hu)⟩
theorem Rd.more (h : Rd w B A xs) (hB : B ≤ B') : Rd w B' A xs := by
  rcases h with h | ⟨b, off, hA, hb, hc⟩
  · exact .inl h
  · exact .inr ⟨b, off, hA, by omega, hc⟩
theorem Rd.below (h : Rd w B A xs) (hb : Below B w w') : Rd w' B A xs := h.keep fun _ hp => hb.cell hp
theorem Rd.at_ (h : Rd w B A xs) {k : Nat} (hk : k < xs.length) : ∃ b off, A = some ⟨b, off, none⟩ ∧ b < B ∧ ∀ k u, xs[k]? = some u → w.cell? ⟨b, off + k, none⟩ = some u := by
  rcases h with h | h
  · subst h; simp at hk
  · exact h
end

/-- a slice of integers that came in -/
theorem open_rd {H : Type} {enc : TypeId × Value → H} {P : Program} {W : World} {spare : Nat → Bool} {held : Bool} {t e : TypeId} {k : IntKind} {fuel : Nat} {v : Value} {x : DataW H × List MemPlace}
    (ht : P.underlying t = some (.slice e)) (he : P.underlying e = some (.int k)) (hc : P.cellsOf e = 1)
    (h : DataW.trod enc P W 0 spare held fuel t [v] = some x) :
    ∃ (A : Option Addr) (n c : Nat) (zs : List Int), v = .slice A n c ∧ zs.length = n ∧ n ≤ c ∧ c ≤ 9223372036854775807 ∧ Rd W W.heap.size A (zs.map (Value.int k)) ∧ ∀ z ∈ zs, (Lit.int k z).wf = true := by
  rcases open_ints ht he hc h with ⟨hcs, _⟩ | ⟨a, len, cap, zs, hcs, _, hl, hm, hz, _, hcell, hwf⟩
  · simp only [List.cons.injEq, and_true] at hcs
    exact ⟨none, 0, 0, [], hcs, rfl, Nat.le_refl _, by omega, .inl rfl, by simp⟩
  · simp only [List.cons.injEq, and_true] at hcs
    unfold maxLen at hm
    have hlz : len ≤ zs.length := by rw [hz]; split <;> omega
    refine ⟨some a, len, cap, zs.take len, hcs, by simp; omega, hl, hm, ?_, fun z hz' => hwf z (List.mem_of_mem_take hz')⟩
    by_cases h0 : len = 0
    · subst h0; exact .inl (by simp)
    · obtain ⟨b, off, rfl, hc'⟩ := ints_at hcell (by omega)
      refine .inr ⟨b, off, rfl, ?_, ?_⟩
      · have := hc' 0 (by omega)
        exact World.block_lt_of_cell? W _ this
      · intro j u hu
        rw [List.getElem?_map, List.getElem?_take] at hu
        split at hu
        · rename_i hj
          have := hc' j (by omega)
          rw [this]
          rw [List.getElem?_eq_getElem (by omega)] at hu
          simp only [Option.map_some, Option.some.injEq] at hu
          rw [← hu, List.getD_eq_getElem?_getD, List.getElem?_eq_getElem (by omega)]; rfl
        · simp at hu

theorem wf_bs {zs : List Int} (h : ∀ z ∈ zs, (Lit.int .u8 z).wf = true) : Bs zs := fun z hz => by
  simpa [Lit.wf, IntKind.min, IntKind.max, IntKind.signed, IntKind.bits] using h z hz
theorem wf_is {zs : List Int} (h : ∀ z ∈ zs, (Lit.int .i64 z).wf = true) : Is zs := fun z hz => by
  simpa [Lit.wf, IntKind.min, IntKind.max, IntKind.signed, IntKind.bits] using h z hz
theorem wf_i {z : Int} (h : (Lit.int .i64 z).wf = true) : -9223372036854775808 ≤ z ∧ z ≤ 9223372036854775807 := by
  simpa [Lit.wf, IntKind.min, IntKind.max, IntKind.signed, IntKind.bits] using h
theorem wf_b {z : Int} (h : (Lit.int .u8 z).wf = true) : 0 ≤ z ∧ z ≤ 255 := by
  simpa [Lit.wf, IntKind.min, IntKind.max, IntKind.signed, IntKind.bits] using h

/-- all arguments read as they read before -/
theorem all_stay {H : Type} {enc : TypeId × Value → H} {P : Program} (hl : laidOutB P = true) {W W' : World} (hb : Below W.heap.size W W') :
    ∀ (ts : List TypeId) (vs : List Value) (ds : List (DataW H)) (ps : List MemPlace), (ts.all fun t => P.readableRec t && decide (t < P.types.size)) = true →
      DataW.TrodAll enc P W 0 (fun _ => true) true ts vs ds ps → (∀ x ∈ ps, x.block < W.heap.size) →
      DataW.TrodAll enc P W' 0 (fun b => decide (b < W.heap.size)) true ts vs ds ps := by
  intro ts
  induction ts with
  | nil =>
    intro vs ds ps _ h _
    cases vs <;> cases ds <;> simp [DataW.TrodAll] at h ⊢
    exact h
  | cons t ts ih =>
    intro vs ds ps hr h hlt
    simp only [List.all_cons, Bool.and_eq_true, decide_eq_true_eq] at hr
    obtain ⟨v, vs', d, ds', p, q, rfl, rfl, rfl, h0, h1⟩ := trodAll_cons h
    exact ⟨p, q, Below.trod hl hr.1.1 hr.1.2 h0 hb (fun x hx => hlt x (by simp [hx])), ih vs' ds' q (by simpa using hr.2) h1 (fun x hx => hlt x (by simp [hx])), rfl⟩

/-- the row's end: the call returned true and nothing that was there has turned -/
theorem post_true {H : Type} {enc : TypeId × Value → H} {P : Program} (hl : laidOutB P = true) {f : Func} {s : ChangeSpec} {W W' : World} {args : Array Value} {ds gs : List (DataW H)} {before : List MemPlace} {tb : TypeId}
    (hW : DataW.Whole enc P f.params.toList [] false W args.toList ds gs before) (hs0 : s.vars = [])
    (hres : f.resultTypes = #[tb]) (htb : P.underlying tb = some .bool)
    (hr : (f.params.toList.all fun t => P.readableRec t && decide (t < P.types.size)) = true)
    (hfn : s.fn H (ds ++ gs) = { results := [.lit (.bool true)], args := ds })
    (hb : Below W.heap.size W W') : s.post enc P f false true false false W args (.bool true) W' := by
  have hW0 := hW
  obtain ⟨p, q, hA, hV, rfl, hfz, hnd⟩ := hW
  obtain ⟨rfl, rfl⟩ := trodVars_none hV
  have hlt : ∀ x ∈ p, x.block < W.heap.size := fun x hx => by
    have := hW0.lt x (by simpa using hx)
    simpa using this
  refine ⟨ds, [], p ++ [], [], p, [], by rw [hs0]; exact hW0, ?_, ?_, ?_, hb.frame _, fun h => by cases h⟩
  · rw [hfn, hres]
    exact trodAll_mk1 (shut_bool htb _)
  · rw [hfn]
    exact all_stay hl hb _ _ _ _ hr hA hlt
  · rw [hs0, hfn]
    rfl

theorem add_flat (b off k : Nat) : (⟨b, off, none⟩ : Addr).add k = ⟨b, off + k, none⟩ := by
  unfold Addr.add; split
  · subst_vars; rfl
  · rfl

section
variable {w w' : World} {B B' : Nat} {A : Option Addr} {xs : List Value}
theorem Rd.of_own {base n c : Nat} {e : TypeId} (h : w.ownsRow base e 1 (.slice A n c) n xs) : Rd w w.heap.size A xs := by
  by_cases h0 : xs = []
  · exact .inl h0
  · have hl : xs.length = n := by simpa using h.1
    have hn : 0 < n := by
      rcases Nat.eq_zero_or_pos n with h1 | h1
      · exact absurd (List.eq_nil_of_length_eq_zero (by omega)) h0
      · exact h1
    obtain ⟨g, cap, hv, _, hlt⟩ := h.form hn
    have hA : A = some ⟨g, 0, none⟩ := by injection hv
    subst hA
    refine .inr ⟨g, 0, rfl, hlt, fun k u hu => ?_⟩
    have := h.cells (g := g) rfl k u hu
    rwa [add_flat] at this
theorem Rd.new1 (w : World) (e : TypeId) (x : Value) : Rd (w.alloc (.cells #[x] e)) (w.heap.size + 1) (some ⟨w.heap.size, 0, none⟩) [x] := by
  refine .inr ⟨_, 0, rfl, by omega, fun k u hu => ?_⟩
  match k, hu with
  | 0, hu =>
    simp only [List.getElem?_cons_zero, Option.some.injEq] at hu
    subst hu
    rw [World.cell?_alloc_at _ _ _ _ rfl]; rfl
end

section
variable {P : Program} (w : World)
theorem run_append_rd (base : Nat) (t ty e : TypeId) (i : TypeInfo) (z : Value) (bytes : Nat) (ht : P.underlying t = some (.slice e)) (hi : P.info? e = some i) (hz : i.zero = some z)
    (hsize : i.size = 1) (hby : i.bytes = bytes) (hzs : z.cells.size = 1)
    (v : Value) (n : Nat) (xs : List Value) (hown : w.ownsRow base e 1 v n xs)
    (B : Nat) (A : Option Addr) (m c : Nat) (news : List Value) (hm : news.length = m) (hr : Rd w B A news) (h1 : ∀ u ∈ news, u.oneCell' = true)
    (h63 : n + m ≤ 9223372036854775807) (hbytes : (n + m) * bytes ≤ 140737488355328) (hbase : base ≤ w.heap.size) :
    ∃ v' w', (Builtin.append_ #[t, t] ty #[v, .slice A m c]).run P w = .ok v' w' ∧ w'.ownsRow base e 1 v' (n + m) (xs ++ news) ∧ w.grownBy w' v.ownBlock ∧
      (v'.ownBlock = v.ownBlock ∨ v'.ownBlock = some w.heap.size) := by
  have none_case : m = 0 → A = none → ∃ v' w', (Builtin.append_ #[t, t] ty #[v, .slice A m c]).run P w = .ok v' w' ∧ w'.ownsRow base e 1 v' (n + m) (xs ++ news) ∧ w.grownBy w' v.ownBlock ∧
      (v'.ownBlock = v.ownBlock ∨ v'.ownBlock = some w.heap.size) := by
    rintro rfl rfl
    have hn : news = [] := List.eq_nil_of_length_eq_zero hm
    subst hn
    refine ⟨v, w, ?_, by simpa using hown, World.grownBy.refl w _, .inl rfl⟩
    rcases hown.2 with ⟨rfl, rfl⟩ | ⟨g, cap, cur, rfl, _, _, hnc, _⟩
    · simp [Builtin.append_, run_underlying ht, sizeOf, typeInfo, hi, Builtin.lenOf, Builtin.firstCells]
    · simp [Builtin.append_, run_underlying ht, sizeOf, typeInfo, hi, Builtin.lenOf, Builtin.firstCells, hnc, storeCells]
  rcases A with _ | ad
  · refine none_case ?_ rfl
    rcases hr with h | ⟨b, off, hA, _⟩
    · subst h; simpa using hm.symm
    · cases hA
  · have hcells : ∀ j u, news[j]? = some u → w.cell? (ad.add j) = some u := by
      intro j u hu
      rcases hr with h | ⟨b, off, hA, _, hc⟩
      · subst h; simp at hu
      · injection hA with hA
        subst hA
        rw [add_flat]; exact hc j u hu
    obtain ⟨v', w', hrun, h2, h3, _, h5⟩ := run_append_own_at (P := P) w base t ty e i z 1 bytes ht hi hz hsize hby hzs (by omega) v n xs hown ad m c news (by omega) hcells h1 (by simpa [maxLen] using h63) hbytes hbase
    exact ⟨v', w', hrun, h2, h3, h5⟩

theorem wpList_app {ops : Array Oper} {rest : List Oper} {o : Oper} {a : Act} {Q : Exit → Act → World → Prop} (hgd : o.guard = none) (s x : Operand) (t : TypeId)
    (ho : o.op = .call { callee := .builtin .append, args := #[s, x], argTypes := #[t, t] })
    {base e : Nat} {i : TypeInfo} {z : Value} {bytes : Nat} (ht : P.underlying t = some (.slice e)) (hi : P.info? e = some i) (hz : i.zero = some z)
    (hsize : i.size = 1) (hby : i.bytes = bytes) (hzs : z.cells.size = 1)
    {v : Value} {n : Nat} {xs : List Value} (hown : w.ownsRow base e 1 v n xs) (hs : a.eval s = v)
    {B : Nat} {A : Option Addr} {m c : Nat} {news : List Value} (hx : a.eval x = .slice A m c) (hr : Rd w B A news) (hm : news.length = m) (h1 : ∀ u ∈ news, u.oneCell' = true)
    (h63 : n + m ≤ 9223372036854775807) (hbytes : (n + m) * bytes ≤ 140737488355328) (hbase : base ≤ w.heap.size)
    (h : ∀ v' w', w'.ownsRow base e 1 v' (n + m) (xs ++ news) → w.grownBy w' v.ownBlock → (v'.ownBlock = v.ownBlock ∨ v'.ownBlock = some w.heap.size) → wpList P ops Q rest (a.put o.dst v') w') : wpList P ops Q (o :: rest) a w := by
  refine wpList_plain hgd fun K hK => ?_
  obtain ⟨v', w', hrun, h2, h3, h4⟩ := run_append_rd (P := P) w base t o.type e i z bytes ht hi hz hsize hby hzs v n xs hown B A m c news hm hr h1 h63 hbytes hbase
  unfold Oper.wp execOp
  simp only [ho, resolve, invoke, builtin, Sem.run_bind, Sem.run_pure, Result.andThen_ok, List.map_toArray, List.map_cons, List.map_nil, hs, hx, hrun]
  exact hK _ _ (h v' w' h2 h3 h4)
end

theorem one_bv (l : List Int) : ∀ u ∈ bv l, u.oneCell' = true := fun u hu => by
  obtain ⟨x, _, rfl⟩ := List.mem_map.1 hu; rfl
theorem one_iv (l : List Int) : ∀ u ∈ iv l, u.oneCell' = true := fun u hu => by
  obtain ⟨x, _, rfl⟩ := List.mem_map.1 hu; rfl

/-- an owned row behind an append: 'Below' goes on -/
theorem below_app {B : Nat} {w0 w w' : World} {base : Nat} {e : TypeId} {v : Value} {n : Nat} {xs : List Value} (hb : Below B w0 w) (hown : w.ownsRow base e 1 v n xs) (hg : w.grownBy w' v.ownBlock)
    (hB : B ≤ base) (hB2 : B ≤ w.heap.size) : Below B w0 w' :=
  hb.grown hg hB2 (fun k hk => Nat.le_trans hB (hown.lt k hk).1)

/-- the value of a number in a slot -/
theorem ret_int {k : IntKind} {a b : Int} (h : a = b) : Ending.returned (.int k a) = .returned (.int k b) := by rw [h]
theorem ret_bool {a b : Bool} (h : a = b) : Ending.returned (.bool a) = .returned (.bool b) := by rw [h]

/-! strings of bytes -/
def ub (l : List Int) : List UInt8 := l.map fun n => UInt8.ofNat n.toNat
theorem ub_len (l : List Int) : (ub l).length = l.length := by simp [ub]
theorem u8_back {x : Int} (h : 0 ≤ x ∧ x ≤ 255) : ((UInt8.ofNat x.toNat).toNat : Int) = x := by
  have : x.toNat < 256 := by omega
  simp [Nat.mod_eq_of_lt this]; omega
theorem ub_inj : ∀ {a b : List Int}, Bs a → Bs b → ub a = ub b → a = b
  | [], [], _, _, _ => rfl
  | [], y :: b, _, _, h => by simp [ub] at h
  | x :: a, [], _, _, h => by simp [ub] at h
  | x :: a, y :: b, ha, hb, h => by
    simp only [ub, List.map_cons, List.cons.injEq] at h
    have h1 := u8_back (ha x (by simp))
    have h2 := u8_back (hb y (by simp))
    rw [h.1] at h1
    have : x = y := by omega
    rw [this, ub_inj (fun z hz => ha z (by simp [hz])) (fun z hz => hb z (by simp [hz])) h.2]
/-- the string of bytes -/
def bstr (l : List Int) : ByteArray := ⟨(ub l).toArray⟩
theorem bstr_list (l : List Int) : (bstr l).toList = ub l := by
  rw [ByteArray.toList_eq]
  simp [bstr]
theorem bstr_eq {a b : List Int} (ha : Bs a) (hb : Bs b) : ((bstr a).toList == (bstr b).toList) = decide (a = b) := by
  rw [bstr_list, bstr_list, Bool.eq_iff_iff]
  simp only [beq_iff_eq, decide_eq_true_eq]
  exact ⟨ub_inj ha hb, fun h => by rw [h]⟩
theorem run_str {P : Program} {w : World} {src dst e : TypeId} (hs : P.underlying src = some (.slice e)) (he : P.underlying e = some (.int .u8)) (hd : P.underlying dst = some .string)
    {B : Nat} {A : Option Addr} {l : List Int} (hR : Rd w B A (bv l)) (hl : Bs l) (n c : Nat) (hn : n = l.length) :
    (convert src dst (.slice A n c)).run P w = .ok (.string (bstr l)) w := by
  subst hn
  rcases A with _ | ad
  · rcases hR with h | ⟨b, off, hA, _⟩
    · have : l = [] := by simpa [bv] using h
      subst this
      rw [run_convert_bytes_string w src dst e none _ c hs he hd]
      simp [Conv.bytesToString, bstr, ub]
      rfl
    · cases hA
  · have hc : ∀ j (hj : j < (ub l).length), w.cell? (ad.add j) = some (.int .u8 (((ub l)[j]).toNat : Int)) := by
      intro j hj
      rw [ub_len] at hj
      rcases hR with h | ⟨b, off, hA, _, hc⟩
      · have : l = [] := by simpa [bv] using h
        subst this; simp at hj
      · injection hA with hA
        subst hA
        rw [add_flat, hc j (.int .u8 l[j]) (by simp [bv, hj])]
        have := u8_back (hl l[j] (by simp))
        simp only [ub, List.getElem_map, this]
    have h := run_convert_bytes_back (P := P) w src dst e ad c (ub l) hs he hd hc
    rw [ub_len] at h
    exact h

theorem own_slice {w : World} {base : Nat} {e : TypeId} {v : Value} {n : Nat} {xs : List Value} (h : w.ownsRow base e 1 v n xs) : ∃ A c, v = .slice A n c ∧ Rd w w.heap.size A xs := by
  rcases h.2 with ⟨hv, hn⟩ | ⟨g, cap, cur, hv, _⟩
  · subst hn
    exact ⟨none, 0, hv, by have := h.1; simp at this; exact .inl this⟩
  · subst hv
    exact ⟨_, _, rfl, Rd.of_own h⟩

theorem own_pos {w : World} {base : Nat} {e : TypeId} {v : Value} {n : Nat} {xs : List Value} (h : w.ownsRow base e 1 v n xs) (hn : 0 < n) :
    ∃ g d, v = .slice (some ⟨g, 0, none⟩) n d ∧ n ≤ d ∧ d ≤ 9223372036854775807 ∧ base ≤ g ∧ g < w.heap.size := by
  rcases h.2 with ⟨hv, h0⟩ | ⟨g, cap, cur, hv, hg, hh, hnc, hcm, _⟩
  · omega
  · unfold maxLen at hcm
    exact ⟨g, cap, hv, hnc, by omega, hg, (Array.getElem?_eq_some_iff.1 hh).1⟩

theorem Rd.pre {w : World} {B : Nat} {A : Option Addr} {xs ys : List Value} (h : Rd w B A (xs ++ ys)) : Rd w B A xs := by
  rcases h with h | ⟨b, off, hA, hb, hc⟩
  · exact .inl (List.append_eq_nil_iff.1 h).1
  · refine .inr ⟨b, off, hA, hb, fun k u hu => hc k u ?_⟩
    have hk : k < xs.length := by
      have := (List.getElem?_eq_some_iff.1 hu).1
      exact this
    rw [List.getElem?_append_left hk]; exact hu
theorem bv_app (a b : List Int) : bv (a ++ b) = bv a ++ bv b := by simp [bv]
theorem iv_app (a b : List Int) : iv (a ++ b) = iv a ++ iv b := by simp [iv]

/-! a frame: but for the blocks of S, what was there is as it was -/
structure Fr (S : Nat → Prop) (w w' : World) : Prop where
  os : w'.os = w.os
  tape : w'.tape = w.tape
  output : w'.output = w.output
  size : w.heap.size ≤ w'.heap.size
  block : ∀ k, k < w.heap.size → ¬ S k → w'.heap[k]? = w.heap[k]?

section
variable {S S' : Nat → Prop} {a b c w w' : World}
theorem Fr.refl (S : Nat → Prop) (w : World) : Fr S w w := ⟨rfl, rfl, rfl, Nat.le_refl _, fun _ _ _ => rfl⟩
theorem Fr.trans (h : Fr S a b) (k : Fr S b c) : Fr S a c :=
  ⟨k.os.trans h.os, k.tape.trans h.tape, k.output.trans h.output, Nat.le_trans h.size k.size, fun i hi hs => (k.block i (Nat.lt_of_lt_of_le hi h.size) hs).trans (h.block i hi hs)⟩
/-- what the second step may touch may be new -/
theorem Fr.trans' (h : Fr S a b) (k : Fr S' b c) (hs : ∀ i, i < a.heap.size → S' i → S i) : Fr S a c :=
  ⟨k.os.trans h.os, k.tape.trans h.tape, k.output.trans h.output, Nat.le_trans h.size k.size, fun i hi hn => (k.block i (Nat.lt_of_lt_of_le hi h.size) (fun e => hn (hs i hi e))).trans (h.block i hi hn)⟩
theorem Fr.mono (h : Fr S a b) (hs : ∀ i, S i → S' i) : Fr S' a b := ⟨h.os, h.tape, h.output, h.size, fun i hi hn => h.block i hi (fun e => hn (hs i e))⟩
theorem Fr.drew (h : Fr S a w) : Fr S a w.drew := ⟨h.os, h.tape, h.output, h.size, h.block⟩
theorem Fr.drewN (h : Fr S a w) (n : Nat) : Fr S a (w.drewN n) := ⟨h.os, h.tape, h.output, h.size, h.block⟩
theorem Fr.alloc (h : Fr S a w) (o : Obj) : Fr S a (w.alloc o) :=
  ⟨h.os, h.tape, h.output, Nat.le_trans h.size (by simp), fun i hi hn => (Below.heap_alloc w o i (Nat.lt_of_lt_of_le hi h.size)).trans (h.block i hi hn)⟩
theorem Fr.setCell (h : Fr S a w) {p : Addr} (hp : S p.block ∨ a.heap.size ≤ p.block) (u : Value) : Fr S a (w.setCell p u) :=
  ⟨h.os, h.tape, h.output, by simpa [World.setCell] using h.size, fun i hi hn => (Below.heap_setCell w p u i (by
    rintro rfl
    rcases hp with hp | hp
    · exact hn hp
    · omega)).trans (h.block i hi hn)⟩
theorem Fr.grown (h : Fr S a w) {row : Option Nat} (hg : w.grownBy w' row) (hr : ∀ k, row = some k → S k ∨ a.heap.size ≤ k) : Fr S a w' :=
  ⟨hg.os.trans h.os, hg.tape.trans h.tape, hg.output.trans h.output, Nat.le_trans h.size hg.size, fun i hi hn => (hg.block i (Nat.lt_of_lt_of_le hi h.size) (fun e => by
    rcases hr i e.symm with hp | hp
    · exact hn hp
    · omega)).trans (h.block i hi hn)⟩
theorem Fr.of_below (h : Below a.heap.size a b) : Fr S a b := ⟨h.os, h.tape, h.output, h.size, fun i hi _ => h.block i hi⟩
theorem Fr.below (h : Fr S a b) {B : Nat} (hs : ∀ k, k < B → ¬ S k) (hB : B ≤ a.heap.size) : Below B a b := ⟨h.os, h.tape, h.output, h.size, fun k hk => h.block k (by omega) (hs k hk)⟩
theorem Fr.cell (h : Fr S w w') {p : Addr} (hp : p.block < w.heap.size) (hn : ¬ S p.block) : w'.cell? p = w.cell? p := World.cell?_of_block (w := w) (h.block p.block hp hn)
theorem Fr.frozen (h : Fr S w w') {p : Addr} (hp : p.block < w.heap.size) (hn : ¬ S p.block) : w'.frozen? p = w.frozen? p := World.frozen?_of_block (w := w) (h.block p.block hp hn)
theorem Fr.rd {B : Nat} {A : Option Addr} {xs : List Value} (h : Fr S w w') (hR : Rd w B A xs) (hB : B ≤ w.heap.size) (hn : ∀ p, A = some p → ¬ S p.block) : Rd w' B A xs := by
  rcases hR with h0 | ⟨b, off, hA, hb, hc⟩
  · exact .inl h0
  · exact .inr ⟨b, off, hA, hb, fun k u hu => (h.cell (p := ⟨b, off + k, none⟩) (by show b < _; omega) (hn ⟨b, off, none⟩ hA)).trans (hc k u hu)⟩
theorem Fr.own {base n : Nat} {e : TypeId} {v : Value} {xs : List Value} (h : Fr S w w') (ho : w.ownsRow base e 1 v n xs) (hn : ∀ k, v.ownBlock = some k → ¬ S k) : w'.ownsRow base e 1 v n xs := by
  have hlt := ho.lt
  refine ⟨ho.1, ?_⟩
  rcases ho.2 with h0 | ⟨g, cap, cur, rfl, hb, hg, rest⟩
  · exact .inl h0
  · exact .inr ⟨g, cap, cur, rfl, hb, (h.block g (hlt g rfl).2 (hn g rfl)).trans hg, rest⟩
end

/-- append, and what has turned: the row itself where there was room, else nothing -/
theorem run_append_rd2 {P : Program} (w : World) (base : Nat) (t ty e : TypeId) (i : TypeInfo) (z : Value) (bytes : Nat) (ht : P.underlying t = some (.slice e)) (hi : P.info? e = some i) (hz : i.zero = some z)
    (hsize : i.size = 1) (hby : i.bytes = bytes) (hzs : z.cells.size = 1)
    (v : Value) (n : Nat) (xs : List Value) (hown : w.ownsRow base e 1 v n xs)
    (B : Nat) (A : Option Addr) (m c : Nat) (news : List Value) (hm : news.length = m) (hr : Rd w B A news) (h1 : ∀ u ∈ news, u.oneCell' = true)
    (h63 : n + m ≤ 9223372036854775807) (hbytes : (n + m) * bytes ≤ 140737488355328) (hbase : base ≤ w.heap.size) :
    ∃ v' w', (Builtin.append_ #[t, t] ty #[v, .slice A m c]).run P w = .ok v' w' ∧ w'.ownsRow base e 1 v' (n + m) (xs ++ news) ∧
      ((v'.ownBlock = v.ownBlock ∧ w.grownBy w' v.ownBlock) ∨ (v'.ownBlock = some w.heap.size ∧ w.grownBy w' none)) := by
  have h63' : n + m ≤ maxLen := by simpa [maxLen] using h63
  by_cases h0 : m = 0
  · have hn : news = [] := List.eq_nil_of_length_eq_zero (by omega)
    subst hn
    obtain ⟨v', w', hrun, h2, h3, h4⟩ := run_append_rd (P := P) w base t ty e i z bytes ht hi hz hsize hby hzs v n xs hown B A m c [] hm hr h1 h63 hbytes hbase
    rcases hown.2 with ⟨rfl, rfl⟩ | ⟨g, cap, cur, rfl, hbg, hg, hnc, hcm, hcs, htake⟩
    · refine ⟨v', w', hrun, h2, ?_⟩
      rcases h4 with h4 | h4
      · exact .inl ⟨h4, h3⟩
      · exact .inr ⟨h4, h3⟩
    · subst h0
      rcases A with _ | ad
      · refine ⟨.slice (some ⟨g, 0, none⟩) n cap, w, ?_, by simpa using hown, .inl ⟨rfl, World.grownBy.refl w _⟩⟩
        simp [Builtin.append_, run_underlying ht, sizeOf, typeInfo, hi, Builtin.lenOf, Builtin.firstCells, hnc, storeCells]
      · obtain ⟨v'', w'', hrun', h2', h3', _, h5'⟩ := run_append_own_at (P := P) w base t ty e i z 1 bytes ht hi hz hsize hby hzs (by omega) _ n xs hown ad 0 c [] (by simp) (by simp) (by simp) h63' hbytes hbase
        refine ⟨v'', w'', hrun', h2', ?_⟩
        have hr := run_append_room (P := P) w t ty e i ht hi g n cap cur hg ad 0 c [] (by simp) (by simp) (by simp) (by omega) (by rw [hsize, hcs]; simp; omega)
        rw [hr] at hrun'
        injection hrun' with e1 e2
        subst e1
        exact .inl ⟨rfl, h3'⟩
  · obtain ⟨ad, hA, hcells⟩ : ∃ ad, A = some ad ∧ ∀ j u, news[j]? = some u → w.cell? (ad.add j) = some u := by
      rcases hr with h | ⟨b, off, hA, _, hc⟩
      · subst h; simp at hm; omega
      · exact ⟨_, hA, fun j u hu => by rw [add_flat]; exact hc j u hu⟩
    subst hA
    subst hby
    have hlen : (xs ++ news).length = (n + m) * i.size := by rw [List.length_append, hown.1, hm, hsize]; omega
    have grown : ∀ (old : Nat), old < n + m →
        (w.drew.alloc (.cells (xs.toArray ++ news.toArray ++ Builtin.zeroCells z.cells (grownCap w (n + m) old e - (n + m))) e)).ownsRow base e 1
          (.slice (some ⟨w.heap.size, 0, none⟩) (n + m) (grownCap w (n + m) old e)) (n + m) (xs ++ news) ∧
        w.grownBy (w.drew.alloc (.cells (xs.toArray ++ news.toArray ++ Builtin.zeroCells z.cells (grownCap w (n + m) old e - (n + m))) e)) none := by
      intro old ho
      have hge := grownCap_ge w (n + m) old e
      have hcm : grownCap w (n + m) old e ≤ maxLen := grownCap_le_maxLen w (n + m) old e h63'
      refine ⟨⟨by rw [hlen, hsize], .inr ⟨w.heap.size, _, _, rfl, hbase, heap_alloc_new w.drew _, hge, hcm, ?_, ?_⟩⟩, ⟨rfl, rfl, rfl, by simp, fun k hk _ => Below.heap_alloc w.drew _ k hk⟩⟩
      · simp only [Array.size_append, List.size_toArray, size_zeroCells, hzs, hown.1, hm]
        omega
      · simp only [Array.toList_append, List.append_assoc]
        have h1' : (n + m) * 1 = (xs ++ news).length := by rw [hlen, hsize]
        rw [← List.append_assoc, h1']
        exact List.take_left
    rcases hown.2 with ⟨rfl, rfl⟩ | ⟨g, cap, cur, rfl, hbg, hg, hnc, hcm, hcs, htake⟩
    · have hx : xs = [] := List.eq_nil_of_length_eq_zero (by simpa using hown.1)
      subst hx
      have hr := run_append_nil (P := P) w t ty e i z ht hi hz ad m c news (by rw [hm, hsize]; omega) hcells (by omega) (by omega) (by have hb := hbytes; simp only [Nat.zero_add] at hb; omega)
      have hgr := grown 0 (by omega)
      simp only [Nat.zero_add, List.nil_append, Array.empty_append] at hgr ⊢
      exact ⟨_, _, hr, hgr.1, .inr ⟨rfl, hgr.2⟩⟩
    · by_cases hroom : n + m ≤ cap
      · obtain ⟨v'', w'', hrun', h2', h3', _, h5'⟩ := run_append_own_at (P := P) w base t ty e i z 1 i.bytes ht hi hz hsize rfl hzs (by omega) _ n xs hown ad m c news (by omega) hcells h1 h63' hbytes hbase
        have hr := run_append_room (P := P) w t ty e i ht hi g n cap cur hg ad m c news (by rw [hm, hsize]; omega) hcells h1 hroom (by rw [hsize, hcs]; omega)
        refine ⟨v'', w'', hrun', h2', ?_⟩
        rw [hr] at hrun'
        injection hrun' with e1 e2
        subst e1
        exact .inl ⟨rfl, h3'⟩
      · have holds : ∀ j u, xs[j]? = some u → w.cell? ((⟨g, 0, none⟩ : Addr).add j) = some u := hown.cells (g := g) rfl
        have hr := run_append_grow (P := P) w t ty e i z ht hi hz ⟨g, 0, none⟩ n cap xs (by rw [hown.1, hsize]) holds ad m c news (by rw [hm, hsize]; omega) hcells (by omega) (by omega) (growslice_fits (by omega) hbytes)
        have hgr := grown cap (by omega)
        exact ⟨_, _, hr, hgr.1, .inr ⟨rfl, hgr.2⟩⟩

theorem wpList_app2 {P : Program} (w : World) {ops : Array Oper} {rest : List Oper} {o : Oper} {a : Act} {Q : Exit → Act → World → Prop} (hgd : o.guard = none) (s x : Operand) (t : TypeId)
    (ho : o.op = .call { callee := .builtin .append, args := #[s, x], argTypes := #[t, t] })
    {base e : Nat} {i : TypeInfo} {z : Value} {bytes : Nat} (ht : P.underlying t = some (.slice e)) (hi : P.info? e = some i) (hz : i.zero = some z)
    (hsize : i.size = 1) (hby : i.bytes = bytes) (hzs : z.cells.size = 1)
    {v : Value} {n : Nat} {xs : List Value} (hown : w.ownsRow base e 1 v n xs) (hs : a.eval s = v)
    {B : Nat} {A : Option Addr} {m c : Nat} {news : List Value} (hx : a.eval x = .slice A m c) (hr : Rd w B A news) (hm : news.length = m) (h1 : ∀ u ∈ news, u.oneCell' = true)
    (h63 : n + m ≤ 9223372036854775807) (hbytes : (n + m) * bytes ≤ 140737488355328) (hbase : base ≤ w.heap.size)
    (h : ∀ v' w', w'.ownsRow base e 1 v' (n + m) (xs ++ news) → ((v'.ownBlock = v.ownBlock ∧ w.grownBy w' v.ownBlock) ∨ (v'.ownBlock = some w.heap.size ∧ w.grownBy w' none)) → wpList P ops Q rest (a.put o.dst v') w') : wpList P ops Q (o :: rest) a w := by
  refine wpList_plain hgd fun K hK => ?_
  obtain ⟨v', w', hrun, h2, h3⟩ := run_append_rd2 (P := P) w base t o.type e i z bytes ht hi hz hsize hby hzs v n xs hown B A m c news hm hr h1 h63 hbytes hbase
  unfold Oper.wp execOp
  simp only [ho, resolve, invoke, builtin, Sem.run_bind, Sem.run_pure, Result.andThen_ok, List.map_toArray, List.map_cons, List.map_nil, hs, hx, hrun]
  exact hK _ _ (h v' w' h2 h3)

theorem bt {p : Prop} [Decidable p] (h : p) : true = decide p := by simp [h]
theorem bf {p : Prop} [Decidable p] (h : ¬ p) : false = decide p := by simp [h]

theorem Rd.drewN {w : World} {B : Nat} {A : Option Addr} {xs : List Value} (h : Rd w B A xs) (n : Nat) : Rd (w.drewN n) B A xs := h
theorem Rd.drew {w : World} {B : Nat} {A : Option Addr} {xs : List Value} (h : Rd w B A xs) : Rd w.drew B A xs := h
theorem below_drewN {B : Nat} {a w : World} (h : Below B a w) (n : Nat) : Below B a (w.drewN n) := ⟨h.os, h.tape, h.output, h.size, h.block⟩
/-- a quiet call inside a region that draws its order -/
theorem quiet_l {P : Program} {f : FuncId} {args : Array Value} {w : World} {n : Nat} {v : Value} (h : Calls P f args (w.drewN n) fun e w' => e = .returned v ∧ w.drewN n = w') : Calls P f args (w.drewN n) fun e w'' => e = .returned v ∧ ∃ m, w'' = w.drewN m :=
  h.mono fun _ _ ⟨he, hm⟩ => ⟨he, n, hm.symm⟩
theorem quiet_l2 {P : Program} {f : FuncId} {args : Array Value} {w : World} {a n : Nat} {v : Value}
    (h : Calls P f args (w.drewN (a + n)) fun e w' => e = .returned v ∧ w.drewN (a + n) = w') : Calls P f args (w.drewN (a + n)) fun e w'' => e = .returned v ∧ ∃ m, w'' = w.drewN (a + m) :=
  h.mono fun _ _ ⟨he, hm⟩ => ⟨he, n, hm.symm⟩
end Go.Proofs.Ytlhappecjjbopaa
namespace Go.Proofs.Ytlhappecjjbopaa
open Go.RowKit
set_option linter.unusedVariables false

theorem own_keep {w w' : World} {base n : Nat} {e : TypeId} {v : Value} {xs : List Value} (h : w.ownsRow base e 1 v n xs) (hb : Below w.heap.size w w') : w'.ownsRow base e 1 v n xs :=
  (Fr.of_below (S := fun _ => False) hb).own h (fun _ _ f => f)
theorem own_short {w : World} {base n k g d : Nat} {e : TypeId} {xs ys : List Value} (h : w.ownsRow base e 1 (.slice (some ⟨g, 0, none⟩) (n + k) d) (n + k) (xs ++ ys)) (hx : xs.length = n) :
    w.ownsRow base e 1 (.slice (some ⟨g, 0, none⟩) n d) n xs := by
  refine ⟨by omega, .inr ?_⟩
  rcases h.2 with ⟨h1, _⟩ | ⟨g', cap, cur, hv, hb, hg, hnc, hcm, hcs, ht⟩
  · cases h1
  · injection hv with h1 _ h2
    injection h1 with h1
    injection h1 with h1
    subst h1 h2
    refine ⟨g, d, cur, rfl, hb, hg, by omega, hcm, hcs, ?_⟩
    have h3 : (cur.toList.take ((n + k) * 1)).take (n * 1) = (xs ++ ys).take (n * 1) := by rw [ht]
    rw [List.take_take, Nat.min_eq_left (by omega)] at h3
    rw [h3, Nat.mul_one]
    subst hx
    exact List.take_left
theorem fr_app2 {w w' : World} {v v' : Value} (hg : (v'.ownBlock = v.ownBlock ∧ w.grownBy w' v.ownBlock) ∨ (v'.ownBlock = some w.heap.size ∧ w.grownBy w' none)) : Fr (fun b => v.ownBlock = some b) w w' := by
  rcases hg with ⟨_, hg⟩ | ⟨_, hg⟩
  · exact (Fr.refl _ _).grown hg (fun b hb => .inl hb)
  · exact (Fr.refl _ _).grown hg (fun b hb => by cases hb)
theorem below_app2 {B : Nat} {w0 w w' : World} {base : Nat} {e : TypeId} {v v' : Value} {n : Nat} {xs : List Value} (hb : Below B w0 w) (hown : w.ownsRow base e 1 v n xs)
    (hg : (v'.ownBlock = v.ownBlock ∧ w.grownBy w' v.ownBlock) ∨ (v'.ownBlock = some w.heap.size ∧ w.grownBy w' none)) (hB : B ≤ base) (hB2 : B ≤ w.heap.size) : Below B w0 w' := by
  have hf := fr_app2 hg
  refine ⟨hf.os.trans hb.os, hf.tape.trans hb.tape, hf.output.trans hb.output, Nat.le_trans hb.size hf.size, fun b hb' => (hf.block b (by omega) (fun hs => ?_)).trans (hb.block b hb')⟩
  have := (hown.lt b hs).1
  omega
end Go.Proofs.Ytlhappecjjbopaa
namespace Go.Proofs.Ytlhappecjjbopaa
open Go.ChangeShapes Go.WideShapes Go.ChangeAt Go.WideMaps Go.WideElems Go.RowKit Go.Joins
set_option linter.unusedVariables false
section
variable {H : Type} {enc : TypeId × Value → H} {P : Program} {w : World} {base : Nat} {spare : Nat → Bool} {held : Bool}
theorem sub_str {t : TypeId} {fs : Array Field} {fuel : Nat} {cs : List Value} {x : DataW H × List MemPlace} (hs : P.underlying t = some (.struct fs)) (h : DataW.trod enc P w base spare held fuel t cs = some x) :
    cs.length = P.cellsOf t ∧ ∃ n, ∀ (j : Nat) (f : Field), fs[j]? = some f → ∃ y, DataW.trod enc P w base spare held n f.type ((cs.drop f.offset).take (P.cellsOf f.type)) = some y := by
  obtain ⟨xs, n, _, _, hl, hlen, hg⟩ := DataW.trod_struct hs h
  refine ⟨hl, n, fun j f hf => ?_⟩
  have hj : j < fs.size := (Array.getElem?_eq_some_iff.1 hf).1
  exact ⟨xs[j]'(by omega), by rw [hg j f hf, List.getElem?_eq_getElem]⟩
theorem open_str {r : Reach} {b0 : Nat} {t : TypeId} {fs : Array Field} {v : Value} {d : DataW H} {p : List MemPlace} (hs : P.underlying t = some (.struct fs)) (hv : Value.okWide P w r b0 t v) (h : DataW.Trod enc P w base spare held t v d p) :
    ∃ l : List Value, v = .agg l.toArray ∧ l.length = P.cellsOf t ∧ ∃ n, ∀ (j : Nat) (f : Field), fs[j]? = some f → ∃ y, DataW.trod enc P w base spare held n f.type ((l.drop f.offset).take (P.cellsOf f.type)) = some y := by
  obtain ⟨cs, rfl, hsz⟩ := okWide_struct hs hv
  obtain ⟨fuel, hf⟩ := h
  exact ⟨cs.toList, by simp, by simpa using hsz, (sub_str hs (by simpa [Value.cells] using hf)).2⟩
end
theorem len_cons {α : Type} {l : List α} {n : Nat} (h : l.length = n + 1) : ∃ a l', l = a :: l' ∧ l'.length = n := by
  match l, h with
  | a :: l', h => exact ⟨a, l', rfl, by simpa using h⟩
theorem len_nil {α : Type} {l : List α} (h : l.length = 0) : l = [] := List.eq_nil_of_length_eq_zero h

theorem choose_rows {Q : List Value → Prop} {R : Nat → List Value → Prop} : ∀ n : Nat, (∀ i, i < n → ∃ r, Q r ∧ R i r) → ∃ rows : List (List Value), rows.length = n ∧ (∀ r ∈ rows, Q r) ∧ ∀ i r, rows[i]? = some r → R i r
  | 0, _ => ⟨[], rfl, by simp, by simp⟩
  | n + 1, h => by
    obtain ⟨rows, hl, hq, hr⟩ := choose_rows n (fun i hi => h i (by omega))
    obtain ⟨r, h1, h2⟩ := h n (by omega)
    refine ⟨rows ++ [r], by simp [hl], fun x hx => ?_, fun i x hx => ?_⟩
    · rcases List.mem_append.1 hx with hx | hx
      · exact hq x hx
      · simp at hx; subst hx; exact h1
    · by_cases hi : i < n
      · rw [List.getElem?_append_left (by omega)] at hx; exact hr i x hx
      · rw [List.getElem?_append_right (by omega)] at hx
        have h0 : i = n := by
          have := (List.getElem?_eq_some_iff.1 hx).1
          simp at this; omega
        subst h0
        simp [hl] at hx; subst hx; exact h2
theorem flatten_at {m : Nat} : ∀ (rows : List (List Value)), (∀ r ∈ rows, r.length = m) → ∀ (k : Nat) (u : Value), rows.flatten[k]? = some u → ∃ i j r, k = i * m + j ∧ j < m ∧ rows[i]? = some r ∧ r[j]? = some u
  | [], _, k, u, h => by simp at h
  | r :: rows, hm, k, u, h => by
    have hr := hm r (by simp)
    rw [List.flatten_cons] at h
    by_cases hk : k < m
    · rw [List.getElem?_append_left (by omega)] at h
      exact ⟨0, k, r, by omega, hk, rfl, h⟩
    · rw [List.getElem?_append_right (by omega), hr] at h
      obtain ⟨i, j, r', h1, h2, h3, h4⟩ := flatten_at rows (fun x hx => hm x (by simp [hx])) (k - m) u h
      exact ⟨i + 1, j, r', by rw [Nat.succ_mul]; omega, h2, by simpa using h3, h4⟩
/-- a slice that came in, its elements of m cells each -/
theorem open_rows {H : Type} {enc : TypeId × Value → H} {P : Program} {W : World} {spare : Nat → Bool} {held : Bool} {t e : TypeId} {fuel m : Nat} {v : Value} {x : DataW H × List MemPlace} {Q : List Value → Prop}
    (ht : P.underlying t = some (.slice e)) (hc : P.cellsOf e = m) (hm : 0 < m)
    (hQ : ∀ n cs y, cs.length = m → DataW.trod enc P W 0 spare held n e cs = some y → Q cs)
    (h : DataW.trod enc P W 0 spare held fuel t [v] = some x) :
    ∃ (A : Option Addr) (n c : Nat) (rows : List (List Value)), v = .slice A n c ∧ rows.length = n ∧ n ≤ c ∧ c ≤ 9223372036854775807 ∧ (∀ r ∈ rows, r.length = m ∧ Q r) ∧ Rd W W.heap.size A rows.flatten := by
  rcases Go.Deep.open_slice ht h with ⟨hcs, _⟩ | ⟨a, len, cap, m', n, D, Pl, hcs, _, hl, hmx, hmm, _, hi⟩
  · simp only [List.cons.injEq, and_true] at hcs
    exact ⟨none, 0, 0, [], hcs, rfl, Nat.le_refl _, by omega, by simp, .inl rfl⟩
  · simp only [List.cons.injEq, and_true] at hcs
    unfold maxLen at hmx
    have hlm : len ≤ m' := by rw [hmm]; split <;> omega
    obtain ⟨rows, h1, h2, h3⟩ := choose_rows (Q := fun r => r.length = m ∧ Q r) (R := fun i r => ∀ j, j < m → W.cell? ((a.add (i * m)).add j) = r[j]?) len (fun i hil => by
      obtain ⟨cs', hc1, hc2⟩ := hi i (by omega)
      rw [hc] at hc1
      obtain ⟨_, hlen, hcell⟩ := World.cells?_some hc1
      exact ⟨cs', ⟨hlen, hQ n cs' _ hlen hc2⟩, hcell⟩)
    refine ⟨some a, len, cap, rows, hcs, h1, hl, hmx, h2, ?_⟩
    by_cases h0 : len = 0
    · subst h0; left; rw [List.eq_nil_of_length_eq_zero h1]; rfl
    · have hr0 : ∃ r, rows[0]? = some r := ⟨rows[0]'(by omega), List.getElem?_eq_getElem _⟩
      obtain ⟨r0, hr0⟩ := hr0
      have hc0 := h3 0 r0 hr0 0 hm
      have hl0 := (h2 r0 (List.mem_of_getElem? hr0)).1
      rw [List.getElem?_eq_getElem (by omega)] at hc0
      simp only [Nat.zero_mul] at hc0
      obtain ⟨b, o, spot⟩ := a
      have hspot : spot = none := by simpa [Addr.add] using World.cell?_spot hc0
      subst hspot
      rw [add_flat, add_flat] at hc0
      refine .inr ⟨b, o, rfl, World.block_lt_of_cell? W _ hc0, fun k u hu => ?_⟩
      obtain ⟨i, j, r, rfl, hj, hri, hrj⟩ := flatten_at rows (fun r hr => (h2 r hr).1) k u hu
      have := h3 i r hri j hj
      rw [add_flat, add_flat, hrj, Nat.add_assoc] at this
      exact this
theorem flatten_get {m : Nat} : ∀ (rows : List (List Value)), (∀ r ∈ rows, r.length = m) → ∀ (i j : Nat) (r : List Value) (u : Value), rows[i]? = some r → r[j]? = some u → rows.flatten[i * m + j]? = some u
  | [], _, i, j, r, u, h, _ => by simp at h
  | r0 :: rows, hm, i, j, r, u, h, hu => by
    have hr0 := hm r0 (by simp)
    match i with
    | 0 =>
      simp at h; subst h
      rw [List.flatten_cons, Nat.zero_mul, Nat.zero_add, List.getElem?_append_left (List.getElem?_eq_some_iff.1 hu).1]; exact hu
    | i + 1 =>
      rw [List.flatten_cons, List.getElem?_append_right (by rw [Nat.succ_mul]; omega), hr0, show (i + 1) * m + j - m = i * m + j by rw [Nat.succ_mul]; omega]
      exact flatten_get rows (fun x hx => hm x (by simp [hx])) i j r u (by simpa using h) hu
/-- a row of integers -/
def I3 (r : List Value) : Prop := ∃ a b c : Int, r = [.int .i64 a, .int .i64 b, .int .i64 c] ∧ (-9223372036854775808 ≤ a ∧ a ≤ 9223372036854775807) ∧ (-9223372036854775808 ≤ b ∧ b ≤ 9223372036854775807) ∧ (-9223372036854775808 ≤ c ∧ c ≤ 9223372036854775807)
end Go.Proofs.Ytlhappecjjbopaa
namespace Go.Proofs.Ytlhappecjjbopaa
open Go.RowKit
set_option linter.unusedVariables false

theorem own_sliceN {w : World} {base size : Nat} {e : TypeId} {v : Value} {n : Nat} {xs : List Value} (h : w.ownsRow base e size v n xs) : ∃ A c, v = .slice A n c ∧ n ≤ c ∧ c ≤ 9223372036854775807 ∧ Rd w w.heap.size A xs := by
  rcases h.2 with ⟨hv, hn⟩ | ⟨g, cap, cur, hv, hb, hg, hnc, hcm, hcs, ht⟩
  · subst hn
    exact ⟨none, 0, hv, Nat.le_refl _, by omega, by have := h.1; simp at this; exact .inl this⟩
  · subst hv
    unfold maxLen at hcm
    refine ⟨_, _, rfl, hnc, by omega, .inr ⟨g, 0, rfl, (Array.getElem?_eq_some_iff.1 hg).1, fun k u hu => ?_⟩⟩
    have := h.cells (g := g) rfl k u hu
    rwa [add_flat] at this
theorem Fr.ownN {S : Nat → Prop} {w w' : World} {base size n : Nat} {e : TypeId} {v : Value} {xs : List Value} (h : Fr S w w') (ho : w.ownsRow base e size v n xs) (hn : ∀ k, v.ownBlock = some k → ¬ S k) : w'.ownsRow base e size v n xs := by
  have hlt := ho.lt
  refine ⟨ho.1, ?_⟩
  rcases ho.2 with h0 | ⟨g, cap, cur, rfl, hb, hg, rest⟩
  · exact .inl h0
  · exact .inr ⟨g, cap, cur, rfl, hb, (h.block g (hlt g rfl).2 (hn g rfl)).trans hg, rest⟩
theorem own_keepN {w w' : World} {base size n : Nat} {e : TypeId} {v : Value} {xs : List Value} (h : w.ownsRow base e size v n xs) (hb : Below w.heap.size w w') : w'.ownsRow base e size v n xs :=
  (Fr.of_below (S := fun _ => False) hb).ownN h (fun _ _ f => f)
theorem own_baseN {w : World} {base B size n : Nat} {e : TypeId} {v : Value} {xs : List Value} (h : w.ownsRow base e size v n xs) (hB : ∀ k, v.ownBlock = some k → B ≤ k) : w.ownsRow B e size v n xs := by
  refine ⟨h.1, ?_⟩
  rcases h.2 with h0 | ⟨g, cap, cur, rfl, hb, rest⟩
  · exact .inl h0
  · exact .inr ⟨g, cap, cur, rfl, hB g rfl, rest⟩
/-- what an append turns: the row itself, or a new one -/
def Ap (w w' : World) (v v' : Value) : Prop := w.grownBy w' v.ownBlock ∧ (v'.ownBlock = v.ownBlock ∨ v'.ownBlock = some w.heap.size)
theorem Ap.fr {w w' : World} {v v' : Value} (h : Ap w w' v v') : Fr (fun b => v.ownBlock = some b) w w' := (Fr.refl _ _).grown h.1 (fun b hb => .inl hb)
theorem Ap.row {w w' : World} {v v' : Value} (h : Ap w w' v v') : ∀ k, v'.ownBlock = some k → v.ownBlock = some k ∨ w.heap.size ≤ k := fun k hk => by
  rcases h.2 with h | h
  · left; rw [← h]; exact hk
  · right; rw [h] at hk
    have e : w.heap.size = k := Option.some.inj hk
    omega
theorem Ap.below {B : Nat} {w w' : World} {v v' : Value} (h : Ap w w' v v') (hv : ∀ k, v.ownBlock = some k → B ≤ k) (hB : B ≤ w.heap.size) : Below B w w' :=
  h.fr.below (fun k hk hs => by have := hv k hs; omega) hB

section
variable {P : Program} (w : World)
theorem wpList_appN {ops : Array Oper} {rest : List Oper} {o : Oper} {a : Act} {Q : Exit → Act → World → Prop} (hgd : o.guard = none) (s x : Operand) (t : TypeId)
    (ho : o.op = .call { callee := .builtin .append, args := #[s, x], argTypes := #[t, t] })
    {base e size : Nat} {i : TypeInfo} {z : Value} {bytes : Nat} (ht : P.underlying t = some (.slice e)) (hi : P.info? e = some i) (hz : i.zero = some z)
    (hsize : i.size = size) (hby : i.bytes = bytes) (hzs : z.cells.size = size) (hpos : 0 < size)
    {v : Value} {n : Nat} {xs : List Value} (hown : w.ownsRow base e size v n xs) (hs : a.eval s = v)
    {B : Nat} {A : Addr} {m c : Nat} {news : List Value} (hx : a.eval x = .slice (some A) m c) (hr : Rd w B (some A) news) (hm : news.length = m * size) (h1 : ∀ u ∈ news, u.oneCell' = true)
    (h63 : n + m ≤ 9223372036854775807) (hbytes : (n + m) * bytes ≤ 140737488355328) (hbase : base ≤ w.heap.size)
    (h : ∀ v' w', w'.ownsRow base e size v' (n + m) (xs ++ news) → Ap w w' v v' → wpList P ops Q rest (a.put o.dst v') w') : wpList P ops Q (o :: rest) a w := by
  refine wpList_plain hgd fun K hK => ?_
  have hcells : ∀ j u, news[j]? = some u → w.cell? (A.add j) = some u := by
    intro j u hu
    rcases hr with h | ⟨b, off, hA, _, hc⟩
    · subst h; simp at hu
    · injection hA with hA
      subst hA
      rw [add_flat]; exact hc j u hu
  obtain ⟨v', w', hrun, h2, h3, _, h4⟩ := run_append_own_at (P := P) w base t o.type e i z size bytes ht hi hz hsize hby hzs hpos v n xs hown A m c news hm hcells h1 (by simpa [maxLen] using h63) hbytes hbase
  unfold Oper.wp execOp
  simp only [ho, resolve, invoke, builtin, Sem.run_bind, Sem.run_pure, Result.andThen_ok, List.map_toArray, List.map_cons, List.map_nil, hs, hx, hrun]
  exact hK _ _ (h v' w' h2 ⟨h3, h4⟩)
end
theorem Rd.newN (w : World) (e : TypeId) (xs : List Value) : Rd (w.alloc (.cells xs.toArray e)) (w.heap.size + 1) (some ⟨w.heap.size, 0, none⟩) xs := by
  refine .inr ⟨_, 0, rfl, by omega, fun k u hu => ?_⟩
  rw [World.cell?_alloc_at _ _ _ _ rfl, Nat.zero_add]
  simpa using hu
end Go.Proofs.Ytlhappecjjbopaa
namespace Go.Proofs.Ytlhappecjjbopaa
set_option linter.unusedVariables false

/-- by how much a number of so many bits is shifted for its bit at a place -/
def pk (h : Bool) (i c : Nat) : Nat := if h then c - 1 - i else i
theorem pk_lt {h : Bool} {i c : Nat} (hi : i < c) : pk h i c < c := by unfold pk; split <;> omega
def B01 (l : List Int) : Prop := ∀ x ∈ l, x = 0 ∨ x = 1
theorem B01.nil_ : B01 [] := by intro x hx; simp at hx
theorem B01.app {a b : List Int} (h : B01 a) (k : B01 b) : B01 (a ++ b) := fun x hx => by
  rcases List.mem_append.1 hx with hx | hx
  · exact h x hx
  · exact k x hx
theorem B01.one {b : Int} (h : b = 0 ∨ b = 1) : B01 [b] := fun x hx => by simp at hx; subst hx; exact h
theorem B01.take {a : List Int} (h : B01 a) (n : Nat) : B01 (a.take n) := fun x hx => h x (List.mem_of_mem_take hx)
theorem B01.drop {a : List Int} (h : B01 a) (n : Nat) : B01 (a.drop n) := fun x hx => h x (List.mem_of_mem_drop hx)
theorem B01.cons {x : Int} {a : List Int} (h : B01 (x :: a)) : (x = 0 ∨ x = 1) ∧ B01 a := ⟨h x (by simp), fun y hy => h y (by simp [hy])⟩
theorem B01.rep (n : Nat) {b : Int} (h : b = 0 ∨ b = 1) : B01 (List.replicate n b) := fun x hx => by
  rw [(List.mem_replicate.1 hx).2]; exact h

/-- a number of bits: the highest first; the lowest first -/
def hv : List Int → Int
  | [] => 0
  | b :: l => b * 2 ^ l.length + hv l
def lv : List Int → Int
  | [] => 0
  | b :: l => b + 2 * lv l
theorem two_pos (n : Nat) : (1 : Int) ≤ 2 ^ n := by
  have h : ((2 ^ n : Nat) : Int) = (2 : Int) ^ n := by simp
  have := Nat.one_le_two_pow (n := n)
  omega
theorem two_succ (n : Nat) : (2 : Int) ^ (n + 1) = 2 * 2 ^ n := by rw [Int.pow_succ, Int.mul_comm]
theorem two_cast (n : Nat) : ((2 ^ n : Nat) : Int) = (2 : Int) ^ n := by simp
theorem hv_snoc (l : List Int) (b : Int) : hv (l ++ [b]) = 2 * hv l + b := by
  induction l with
  | nil => simp [hv]
  | cons x l ih =>
    show x * 2 ^ (l ++ [b]).length + hv (l ++ [b]) = 2 * (x * 2 ^ l.length + hv l) + b
    rw [ih, List.length_append, List.length_singleton, two_succ, Int.mul_add, ← Int.mul_assoc, ← Int.mul_assoc, Int.mul_comm x 2]
    omega
theorem lv_snoc (l : List Int) (b : Int) : lv (l ++ [b]) = lv l + b * 2 ^ l.length := by
  induction l with
  | nil => simp [lv]
  | cons x l ih =>
    show x + 2 * lv (l ++ [b]) = x + 2 * lv l + b * 2 ^ (l.length + 1)
    rw [ih, two_succ, Int.mul_add, ← Int.mul_assoc, Int.mul_comm 2 b, Int.mul_assoc]
    omega
theorem hv_bd {l : List Int} (h : B01 l) : 0 ≤ hv l ∧ hv l < 2 ^ l.length := by
  induction l with
  | nil => simp [hv]
  | cons x l ih =>
    obtain ⟨hx, hl⟩ := h.cons
    have := ih hl
    show 0 ≤ x * 2 ^ l.length + hv l ∧ x * 2 ^ l.length + hv l < 2 ^ (l.length + 1)
    rw [two_succ]
    rcases hx with rfl | rfl <;> omega
theorem lv_bd {l : List Int} (h : B01 l) : 0 ≤ lv l ∧ lv l < 2 ^ l.length := by
  induction l with
  | nil => simp [lv]
  | cons x l ih =>
    obtain ⟨hx, hl⟩ := h.cons
    have := ih hl
    show 0 ≤ x + 2 * lv l ∧ x + 2 * lv l < 2 ^ (l.length + 1)
    rw [two_succ]
    rcases hx with rfl | rfl <;> omega

/-- the first bits of so many, as a number -/
def part (h : Bool) (c : Nat) (l : List Int) : Int := if h then hv l * 2 ^ (c - l.length) else lv l
theorem part_nil (h : Bool) (c : Nat) : part h c [] = 0 := by unfold part; split <;> simp [hv, lv]
theorem part_snoc (h : Bool) (c : Nat) (l : List Int) (b : Int) (hl : l.length < c) : part h c (l ++ [b]) = part h c l + b * 2 ^ pk h l.length c := by
  unfold part pk
  cases h
  · simp only [Bool.false_eq_true, if_false]
    exact lv_snoc l b
  · simp only [if_true]
    rw [hv_snoc, List.length_append, List.length_singleton, show c - l.length = (c - (l.length + 1)) + 1 by omega, two_succ, show c - 1 - l.length = c - (l.length + 1) by omega, Int.add_mul, ← Int.mul_assoc, Int.mul_comm (hv l) 2]
theorem part_bd {h : Bool} {c : Nat} {l : List Int} (hB : B01 l) (hl : l.length ≤ c) : 0 ≤ part h c l ∧ part h c l < 2 ^ c := by
  unfold part
  cases h
  · simp only [Bool.false_eq_true, if_false]
    have h1 := lv_bd hB
    have h2 : (2 : Int) ^ l.length ≤ 2 ^ c := by
      have := Nat.pow_le_pow_right (show 0 < 2 by omega) hl
      rw [← two_cast, ← two_cast]; omega
    omega
  · simp only [if_true]
    have h1 := hv_bd hB
    have h2 := two_pos (c - l.length)
    have h3 : (2 : Int) ^ c = 2 ^ l.length * 2 ^ (c - l.length) := by rw [← Int.pow_add, show l.length + (c - l.length) = c by omega]
    rw [h3]
    refine ⟨Int.mul_nonneg h1.1 (by omega), Int.mul_lt_mul_of_pos_right h1.2 (by omega)⟩
/-- the next bit's place is free: 'or' is a sum there -/
theorem part_or {h : Bool} {c : Nat} {l : List Int} {b : Int} (hB : B01 l) (hb : b = 0 ∨ b = 1) (hl : l.length < c) :
    (((part h c l).toNat ||| (b * 2 ^ pk h l.length c).toNat : Nat) : Int) = part h c (l ++ [b]) := by
  rw [part_snoc h c l b hl]
  have hbd := part_bd (h := h) hB (Nat.le_of_lt hl)
  have hp := two_pos (pk h l.length c)
  obtain ⟨B, rfl, hB1⟩ : ∃ B : Nat, b = B ∧ B ≤ 1 := by
    rcases hb with rfl | rfl
    · exact ⟨0, rfl, by omega⟩
    · exact ⟨1, rfl, by omega⟩
  have e2 : ((B : Int) * 2 ^ pk h l.length c).toNat = B * 2 ^ pk h l.length c := by rw [← two_cast, ← Int.natCast_mul, Int.toNat_natCast]
  rw [e2]
  unfold part pk at *
  cases h
  · simp only [Bool.false_eq_true, if_false] at *
    have h1 := lv_bd hB
    obtain ⟨q, hq⟩ := Int.eq_ofNat_of_zero_le h1.1
    rw [hq] at h1 ⊢
    rw [Int.toNat_natCast, Nat.or_comm, Nat.mul_comm B, ← Nat.two_pow_add_eq_or_of_lt (by rw [← two_cast] at h1; omega), Int.natCast_add, Int.natCast_mul, two_cast, Int.mul_comm, Int.add_comm]
  · simp only [if_true] at *
    have h1 := hv_bd hB
    obtain ⟨q, hq⟩ := Int.eq_ofNat_of_zero_le h1.1
    rw [hq]
    have e1 : ((q : Int) * 2 ^ (c - l.length)).toNat = 2 ^ (c - l.length) * q := by rw [← two_cast, ← Int.natCast_mul, Int.toNat_natCast, Nat.mul_comm]
    rw [e1, ← Nat.two_pow_add_eq_or_of_lt (by
      rw [show c - l.length = (c - 1 - l.length) + 1 by omega, Nat.pow_succ]
      have := Nat.one_le_two_pow (n := c - 1 - l.length)
      have h4 : B * 2 ^ (c - 1 - l.length) ≤ 1 * 2 ^ (c - 1 - l.length) := Nat.mul_le_mul_right _ hB1
      omega), Int.natCast_add, Int.natCast_mul, two_cast, Int.natCast_mul, two_cast, Int.mul_comm]

/-- a number's bits -/
def digs (h : Bool) : Int → Nat → List Int
  | _, 0 => []
  | n, c + 1 => if h then digs h (n / 2) c ++ [n % 2] else n % 2 :: digs h (n / 2) c
theorem digs_len (h : Bool) : ∀ (n : Int) (c : Nat), (digs h n c).length = c
  | _, 0 => rfl
  | n, c + 1 => by unfold digs; split <;> simp [digs_len h (n / 2) c]
theorem digs_01 (h : Bool) : ∀ (n : Int) (c : Nat), B01 (digs h n c)
  | _, 0 => B01.nil_
  | n, c + 1 => by
    have h1 : n % 2 = 0 ∨ n % 2 = 1 := by omega
    unfold digs; split
    · exact (digs_01 h (n / 2) c).app (B01.one h1)
    · exact (B01.one h1).app (digs_01 h (n / 2) c)
theorem digs_at (h : Bool) : ∀ (c : Nat) (n : Int) (i : Nat), i < c → (digs h n c)[i]? = some (n / 2 ^ pk h i c % 2)
  | c + 1, n, i, hi => by
    have e : ∀ k : Nat, n / 2 / 2 ^ k = n / 2 ^ (k + 1) := fun k => by rw [two_succ, Int.ediv_ediv_of_nonneg (by omega)]
    cases h
    · show (n % 2 :: digs false (n / 2) c)[i]? = _
      match i, hi with
      | 0, _ => simp [pk]
      | i + 1, hi =>
        rw [List.getElem?_cons_succ, digs_at false c (n / 2) i (by omega)]
        simp only [pk, Bool.false_eq_true, if_false]
        rw [e]
    · show (digs true (n / 2) c ++ [n % 2])[i]? = _
      by_cases hlt : i < c
      · rw [List.getElem?_append_left (by rw [digs_len]; exact hlt), digs_at true c (n / 2) i hlt]
        simp only [pk, if_true]
        rw [e, show c - 1 - i + 1 = c + 1 - 1 - i by omega]
      · obtain rfl : i = c := by omega
        rw [List.getElem?_append_right (by rw [digs_len]; omega), digs_len]
        simp [pk]
theorem digs_val (h : Bool) : ∀ (c : Nat) (n : Int), 0 ≤ n → n < 2 ^ c → part h c (digs h n c) = n
  | 0, n, h0, h1 => by
    simp at h1
    have : n = 0 := by omega
    subst this
    exact part_nil h 0
  | c + 1, n, h0, h1 => by
    have ih := digs_val h c (n / 2) (by omega) (by rw [two_succ] at h1; omega)
    unfold part at ih ⊢
    cases h
    · simp only [Bool.false_eq_true, if_false] at ih ⊢
      show n % 2 + 2 * lv (digs false (n / 2) c) = n
      rw [ih]; omega
    · simp only [if_true, digs_len, Nat.sub_self, Int.pow_zero, Int.mul_one] at ih ⊢
      show hv (digs true (n / 2) c ++ [n % 2]) = n
      rw [hv_snoc, ih]; omega
theorem digs_snoc (n : Int) (c : Nat) : digs true n (c + 1) = digs true (n / 2) c ++ [n % 2] := rfl
theorem digs_part (h : Bool) : ∀ (c : Nat) (l : List Int), B01 l → l.length = c → digs h (part h c l) c = l := by
  intro c
  cases h
  · unfold part
    simp only [Bool.false_eq_true, if_false]
    induction c with
    | zero => intro l _ h; rw [List.eq_nil_of_length_eq_zero h]; rfl
    | succ c ih =>
      intro l hB hl
      match l, hl with
      | x :: l, hl =>
        obtain ⟨hx, hB'⟩ := hB.cons
        show (x + 2 * lv l) % 2 :: digs false ((x + 2 * lv l) / 2) c = x :: l
        have e1 : (x + 2 * lv l) % 2 = x := by rcases hx with rfl | rfl <;> omega
        have e2 : (x + 2 * lv l) / 2 = lv l := by rcases hx with rfl | rfl <;> omega
        rw [e1, e2, ih l hB' (by simpa using hl)]
  · unfold part
    simp only [if_true]
    induction c with
    | zero => intro l _ h; rw [List.eq_nil_of_length_eq_zero h]; rfl
    | succ c ih =>
      intro l hB hl
      obtain ⟨a, x, rfl⟩ : ∃ a x, l = a ++ [x] := ⟨l.dropLast, l.getLast (by intro h; simp [h] at hl), (List.dropLast_concat_getLast _).symm⟩
      have hx : x = 0 ∨ x = 1 := hB x (by simp)
      have ha : a.length = c := by simpa using hl
      have ih' := ih a (fun y hy => hB y (by simp [hy])) ha
      rw [ha, Nat.sub_self, Int.pow_zero, Int.mul_one] at ih'
      rw [hl, Nat.sub_self, Int.pow_zero, Int.mul_one, hv_snoc]
      show digs true ((2 * hv a + x) / 2) c ++ [(2 * hv a + x) % 2] = a ++ [x]
      have e1 : (2 * hv a + x) % 2 = x := by rcases hx with rfl | rfl <;> omega
      have e2 : (2 * hv a + x) / 2 = hv a := by rcases hx with rfl | rfl <;> omega
      rw [e1, e2, ih']

theorem bv_get {l : List Int} {i : Nat} (h : i < l.length) : (bv l)[i]? = some (.int .u8 (l.getD i 0)) := by
  simp [bv, h, List.getD_eq_getElem?_getD]

/-- bits as bytes: what is left of the last one is 0 -/
def nby (n : Nat) : Nat := (n + 7) / 8
def pack (h : Bool) (l : List Int) : List Int := (List.range (nby l.length)).map fun k => part h 8 ((l.drop (8 * k)).take 8)
theorem pack_len (h : Bool) (l : List Int) : (pack h l).length = nby l.length := by simp [pack]
theorem part_bs {h : Bool} {l : List Int} (hB : B01 l) (k : Nat) : 0 ≤ part h 8 ((l.drop (8 * k)).take 8) ∧ part h 8 ((l.drop (8 * k)).take 8) ≤ 255 := by
  have h1 := part_bd (h := h) (c := 8) ((hB.drop (8 * k)).take 8) (by rw [List.length_take]; omega)
  simp only [show (2 : Int) ^ 8 = 256 from rfl] at h1
  omega
theorem pack_bs {h : Bool} {l : List Int} (hB : B01 l) : Bs (pack h l) := fun x hx => by
  obtain ⟨k, _, rfl⟩ := List.mem_map.1 hx
  exact part_bs hB k
theorem pack_at (h : Bool) (l : List Int) (k : Nat) (hk : k < nby l.length) : (pack h l)[k]? = some (part h 8 ((l.drop (8 * k)).take 8)) := by
  unfold pack
  rw [List.getElem?_map, List.getElem?_range hk]; rfl
/-- the bytes with one for the next bit -/
def packZ (h : Bool) (l : List Int) : List Int := if l.length % 8 = 0 then pack h l ++ [0] else pack h l
theorem packZ_len (h : Bool) (l : List Int) : (packZ h l).length = l.length / 8 + 1 := by
  unfold packZ; split <;> simp [pack_len, nby] <;> omega
theorem packZ_at (h : Bool) (l : List Int) (k : Nat) (hk : k ≤ l.length / 8) : (packZ h l)[k]? = some (part h 8 ((l.drop (8 * k)).take 8)) := by
  unfold packZ
  split
  · by_cases hlt : k < l.length / 8
    · rw [List.getElem?_append_left (by rw [pack_len, nby]; omega), pack_at h l k (by unfold nby; omega)]
    · obtain rfl : k = l.length / 8 := by omega
      rw [List.getElem?_append_right (by rw [pack_len, nby]; omega), pack_len, List.drop_of_length_le (by omega)]
      rw [show l.length / 8 - nby l.length = 0 by unfold nby; omega]
      simp [part_nil]
  · rw [pack_at h l k (by unfold nby; omega)]
theorem pack_snoc (h : Bool) (l : List Int) (b : Int) :
    pack h (l ++ [b]) = (packZ h l).set (l.length / 8) (part h 8 (l.drop (8 * (l.length / 8)) ++ [b])) := by
  apply List.ext_getElem?
  intro k
  have hn : nby (l ++ [b]).length = l.length / 8 + 1 := by simp [nby]; omega
  by_cases hk : k < l.length / 8 + 1
  · rw [pack_at h _ k (by omega)]
    by_cases he : k = l.length / 8
    · subst he
      rw [List.getElem?_set_self (by rw [packZ_len]; omega), List.drop_append_of_le_length (by omega), List.take_of_length_le (by simp; omega)]
    · rw [List.getElem?_set_ne (by omega), packZ_at h l k (by omega), List.drop_append_of_le_length (by omega), List.take_append_of_le_length (by simp; omega)]
  · rw [List.getElem?_eq_none (by rw [pack_len]; omega), List.getElem?_eq_none (by rw [List.length_set, packZ_len]; omega)]

/-- what is left of the last byte, filled -/
def fill1 (h : Bool) : Int := if h then 1 else 0
def pad (n : Nat) : Nat := (8 - n % 8) % 8
def full (h : Bool) (l : List Int) : List Int := l ++ List.replicate (pad l.length) (fill1 h)
theorem fill1_01 (h : Bool) : fill1 h = 0 ∨ fill1 h = 1 := by unfold fill1; split <;> simp
theorem full_01 {h : Bool} {l : List Int} (hB : B01 l) : B01 (full h l) := hB.app (B01.rep _ (fill1_01 h))
theorem full_len (h : Bool) (l : List Int) : (full h l).length = 8 * nby l.length := by
  unfold full pad nby; simp; omega

/-- bytes as bits -/
def bitsOf (h : Bool) (b : List Int) : List Int := b.flatMap fun x => digs h x 8
theorem bitsOf_len (h : Bool) (b : List Int) : (bitsOf h b).length = 8 * b.length := by
  induction b with
  | nil => rfl
  | cons x b ih => simp only [bitsOf, List.flatMap_cons, List.length_append, digs_len, List.length_cons] at ih ⊢; omega
theorem bitsOf_01 (h : Bool) (b : List Int) : B01 (bitsOf h b) := fun x hx => by
  obtain ⟨y, _, hy⟩ := List.mem_flatMap.1 hx
  exact digs_01 h y 8 x hy
theorem bitsOf_at (h : Bool) : ∀ (b : List Int) (i : Nat), i < 8 * b.length → (bitsOf h b)[i]? = some (b.getD (i / 8) 0 / 2 ^ pk h (i % 8) 8 % 2)
  | x :: b, i, hi => by
    show (digs h x 8 ++ bitsOf h b)[i]? = _
    by_cases hlt : i < 8
    · rw [List.getElem?_append_left (by rw [digs_len]; exact hlt), digs_at h 8 x i hlt, show i / 8 = 0 by omega, show i % 8 = i by omega]; rfl
    · rw [List.getElem?_append_right (by rw [digs_len]; omega), digs_len, bitsOf_at h b (i - 8) (by simp at hi; omega), show i / 8 = (i - 8) / 8 + 1 by omega, show i % 8 = (i - 8) % 8 by omega]
      rfl
  | [], i, hi => by simp at hi
theorem bitsOf_app (h : Bool) (a b : List Int) : bitsOf h (a ++ b) = bitsOf h a ++ bitsOf h b := by simp [bitsOf]
/-- whole bytes of bits give the bits back -/
theorem bitsOf_pack (h : Bool) : ∀ (n : Nat) (l : List Int), B01 l → l.length = 8 * n → bitsOf h (pack h l) = l
  | 0, l, _, hl => by
    rw [show l = [] from List.eq_nil_of_length_eq_zero (by omega)]; rfl
  | n + 1, l, hB, hl => by
    have hp : pack h l = part h 8 (l.take 8) :: pack h (l.drop 8) := by
      unfold pack
      rw [show nby l.length = nby (l.drop 8).length + 1 by simp [nby]; omega, List.range_succ_eq_map, List.map_cons, List.map_map]
      congr 1
      apply List.map_congr_left
      intro k _
      show part h 8 ((l.drop (8 * (k + 1))).take 8) = part h 8 (((l.drop 8).drop (8 * k)).take 8)
      rw [List.drop_drop, show 8 * (k + 1) = 8 + 8 * k by omega]
    rw [hp]
    show digs h (part h 8 (l.take 8)) 8 ++ bitsOf h (pack h (l.drop 8)) = l
    rw [digs_part h 8 _ (hB.take 8) (by simp; omega), bitsOf_pack h n _ (hB.drop 8) (by simp; omega), List.take_append_drop]
end Go.Proofs.Ytlhappecjjbopaa
namespace Go.Proofs.Ytlhappecjjbopaa
set_option linter.unusedVariables false

def su : List Int → Int
  | [] => 0
  | x :: l => x + su l
theorem su_app (a b : List Int) : su (a ++ b) = su a + su b := by
  induction a with
  | nil => simp [su]
  | cons x a ih => simp only [List.cons_append, su, ih]; omega
theorem su_nn {l : List Int} (h : ∀ x ∈ l, 0 ≤ x) : 0 ≤ su l := by
  induction l with
  | nil => simp [su]
  | cons x l ih => have := h x (by simp); have := ih (fun y hy => h y (by simp [hy])); simp only [su]; omega

/-- lengths in form -/
def Vl (ls : List Int) : Prop := ∀ x ∈ ls, 0 ≤ x ∧ x ≤ 16
instance (ls : List Int) : Decidable (Vl ls) := by unfold Vl; infer_instance
/-- the part that a code of a length takes -/
def wt (x : Int) : Int := if 0 < x then 65536 / 2 ^ x.toNat else 0
def kr (ls : List Int) : Int := su (ls.map wt)
theorem wt_pos {x : Int} (h : 0 < x ∧ x ≤ 16) : wt x = 2 ^ (16 - x.toNat) := by
  obtain ⟨n, rfl⟩ := Int.eq_ofNat_of_zero_le (show 0 ≤ x by omega)
  unfold wt
  rw [if_pos h.1, Int.toNat_natCast]
  have : (65536 : Int) = 2 ^ (16 - n) * 2 ^ n := by rw [← Int.pow_add, show 16 - n + n = 16 by omega]; rfl
  rw [this, Int.mul_ediv_cancel _ (by have := two_pos n; omega)]
theorem wt_nn {x : Int} (h : x ≤ 16) : 0 ≤ wt x := by
  by_cases h0 : 0 < x
  · rw [wt_pos ⟨h0, h⟩]; have := two_pos (16 - x.toNat); omega
  · unfold wt; rw [if_neg h0]; omega
theorem wt_le (x : Int) : wt x ≤ 32768 := by
  by_cases h0 : 0 < x
  · unfold wt; rw [if_pos h0]
    obtain ⟨n, hn⟩ : ∃ n, x.toNat = n + 1 := ⟨x.toNat - 1, by omega⟩
    rw [hn, two_succ, ← Int.ediv_ediv_of_nonneg (by omega)]
    exact Int.ediv_le_self _ (by omega)
  · unfold wt; rw [if_neg h0]; omega
/-- in form: what is free is not below 0 -/
def Fm (ls : List Int) : Prop := ls.length ≤ 512 ∧ Vl ls ∧ kr ls ≤ 65536
instance (ls : List Int) : Decidable (Fm ls) := by unfold Fm; infer_instance

/-- the symbols of a length, ahead of k; all of the lengths 1 to m -/
def ordP (ls : List Int) (n : Int) (k : Nat) : List Nat := (List.range k).filter fun s => decide (ls.getD s 0 = n)
def ordU (ls : List Int) (m : Nat) : List Nat := (List.range m).flatMap fun i => ordP ls ((i + 1 : Nat) : Int) ls.length
theorem ordP_succ (ls : List Int) (n : Int) (k : Nat) : ordP ls n (k + 1) = ordP ls n k ++ if ls.getD k 0 = n then [k] else [] := by
  unfold ordP
  rw [List.range_succ, List.filter_append]
  congr 1
  by_cases h : ls.getD k 0 = n
  · rw [if_pos h]; simp only [List.filter_cons, List.filter_nil, h, decide_true, if_true]
  · rw [if_neg h]; simp only [List.filter_cons, List.filter_nil, h, decide_false, Bool.false_eq_true, if_false]
theorem ordU_succ (ls : List Int) (m : Nat) : ordU ls (m + 1) = ordU ls m ++ ordP ls ((m + 1 : Nat) : Int) ls.length := by
  unfold ordU
  rw [List.range_succ, List.flatMap_append]; simp
theorem ordP_mem {ls : List Int} {n : Int} {k s : Nat} (h : s ∈ ordP ls n k) : s < k ∧ ls.getD s 0 = n := by
  unfold ordP at h
  rw [List.mem_filter] at h
  exact ⟨List.mem_range.1 h.1, of_decide_eq_true h.2⟩
theorem ordU_mem {ls : List Int} {m s : Nat} : s ∈ ordU ls m ↔ s < ls.length ∧ 1 ≤ ls.getD s 0 ∧ ls.getD s 0 ≤ m := by
  unfold ordU
  rw [List.mem_flatMap]
  constructor
  · rintro ⟨i, hi, hs⟩
    have h1 := List.mem_range.1 hi
    have h2 := ordP_mem hs
    exact ⟨h2.1, by omega, by omega⟩
  · rintro ⟨h1, h2, h3⟩
    refine ⟨(ls.getD s 0).toNat - 1, List.mem_range.2 (by omega), ?_⟩
    unfold ordP
    rw [List.mem_filter]
    exact ⟨List.mem_range.2 h1, decide_eq_true (by omega)⟩
theorem ordP_nodup (ls : List Int) (n : Int) (k : Nat) : (ordP ls n k).Nodup := List.Pairwise.filter _ List.nodup_range
/-- by lengths, no symbol twice -/
theorem ordU_sorted (ls : List Int) : ∀ m : Nat, (ordU ls m).Pairwise fun a b => a ≠ b ∧ ls.getD a 0 ≤ ls.getD b 0
  | 0 => by simp [ordU]
  | m + 1 => by
    rw [ordU_succ, List.pairwise_append]
    refine ⟨ordU_sorted ls m, ?_, ?_⟩
    · have h1 := ordP_nodup ls ((m + 1 : Nat) : Int) ls.length
      refine List.Pairwise.imp_of_mem ?_ h1
      intro a b ha hb hne
      have h2 := ordP_mem ha
      have h3 := ordP_mem hb
      exact ⟨hne, by omega⟩
    · intro a ha b hb
      have h2 := ordU_mem.1 ha
      have h3 := ordP_mem hb
      refine ⟨fun e => ?_, by omega⟩
      subst e; omega

/-- the parts of symbols -/
def ws (ls : List Int) (O : List Nat) : Int := su (O.map fun s => wt (ls.getD s 0))
theorem ws_app (ls : List Int) (a b : List Nat) : ws ls (a ++ b) = ws ls a + ws ls b := by unfold ws; rw [List.map_append, su_app]
theorem ordP_snoc (ls : List Int) (x n : Int) : ordP (ls ++ [x]) n (ls ++ [x]).length = ordP ls n ls.length ++ if x = n then [ls.length] else [] := by
  rw [show (ls ++ [x]).length = ls.length + 1 by simp, ordP_succ]
  congr 1
  · unfold ordP
    apply List.filter_congr
    intro s hs
    have := List.mem_range.1 hs
    rw [List.getD_eq_getElem?_getD, List.getD_eq_getElem?_getD, List.getElem?_append_left this]
  · have : (ls ++ [x]).getD ls.length 0 = x := by simp [List.getD_eq_getElem?_getD]
    rw [this]
theorem ws_congr {ls ls' : List Int} {O : List Nat} (h : ∀ s ∈ O, ls.getD s 0 = ls'.getD s 0) : ws ls O = ws ls' O := by
  unfold ws
  congr 1
  apply List.map_congr_left
  intro s hs; rw [h s hs]
theorem ws_ordU_snoc (ls : List Int) (x : Int) : ∀ m : Nat, ws (ls ++ [x]) (ordU (ls ++ [x]) m) = ws ls (ordU ls m) + if 1 ≤ x ∧ x ≤ m then wt x else 0
  | 0 => by
    have : ¬ (1 ≤ x ∧ x ≤ ((0 : Nat) : Int)) := by omega
    rw [if_neg this]; simp [ordU, ws, su]
  | m + 1 => by
    rw [ordU_succ, ordU_succ, ws_app, ws_app, ws_ordU_snoc ls x m, ordP_snoc, ws_app]
    have h1 : ws (ls ++ [x]) (ordP ls ((m + 1 : Nat) : Int) ls.length) = ws ls (ordP ls ((m + 1 : Nat) : Int) ls.length) := by
      apply ws_congr
      intro s hs
      have := (ordP_mem hs).1
      rw [List.getD_eq_getElem?_getD, List.getD_eq_getElem?_getD, List.getElem?_append_left this]
    rw [h1]
    by_cases hx : x = ((m + 1 : Nat) : Int)
    · rw [if_pos hx, if_neg (by omega), if_pos (by omega)]
      have h2 : ws (ls ++ [x]) [ls.length] = wt x := by simp [ws, su, List.getD_eq_getElem?_getD]
      rw [h2]; omega
    · rw [if_neg hx]
      have h2 : ws (ls ++ [x]) [] = 0 := rfl
      rw [h2]
      by_cases h3 : 1 ≤ x ∧ x ≤ m
      · rw [if_pos h3, if_pos (by omega)]; omega
      · rw [if_neg h3, if_neg (by omega)]; omega
/-- all the parts together -/
theorem ws_all (ls : List Int) (hv : Vl ls) : ws ls (ordU ls 16) = kr ls := by
  have h : ∀ n : Nat, ∀ ls : List Int, ls.length = n → Vl ls → ws ls (ordU ls 16) = kr ls := by
    intro n
    induction n with
    | zero => intro ls hl _; rw [List.eq_nil_of_length_eq_zero hl]; decide
    | succ n ih =>
      intro ls hl hv
      obtain ⟨a, x, rfl⟩ : ∃ a x, ls = a ++ [x] := ⟨ls.dropLast, ls.getLast (by intro h; simp [h] at hl), (List.dropLast_concat_getLast _).symm⟩
      have hx := hv x (by simp)
      rw [ws_ordU_snoc, ih a (by simpa using hl) (fun y hy => hv y (by simp [hy]))]
      unfold kr
      rw [List.map_append, su_app]
      simp only [List.map_cons, List.map_nil, su]
      by_cases h0 : 1 ≤ x
      · rw [if_pos ⟨h0, by omega⟩]; omega
      · rw [if_neg (by omega)]; unfold wt; rw [if_neg (by omega)]; omega
  exact h _ ls rfl hv

/-- where a symbol's code begins: the parts ahead of it -/
def at_ (ls : List Int) (i : Nat) : Int := ws ls ((ordU ls 16).take i)
theorem at_succ (ls : List Int) (i s : Nat) (h : (ordU ls 16)[i]? = some s) : at_ ls (i + 1) = at_ ls i + wt (ls.getD s 0) := by
  unfold at_
  rw [List.take_add_one, h, ws_app]; simp [ws, su]
theorem wt_ord {ls : List Int} (hv : Vl ls) (k : Nat) : 0 ≤ wt (ls.getD k 0) := by
  by_cases hk : k < ls.length
  · have : ls.getD k 0 ∈ ls := by rw [List.getD_eq_getElem?_getD, List.getElem?_eq_getElem hk]; exact List.getElem_mem _
    exact wt_nn (hv _ this).2
  · rw [List.getD_eq_getElem?_getD, List.getElem?_eq_none (by omega)]; exact wt_nn (by decide)
theorem ws_nn {ls : List Int} (hv : Vl ls) (O : List Nat) : 0 ≤ ws ls O := su_nn (fun x hx => by
  obtain ⟨s, _, rfl⟩ := List.mem_map.1 hx
  exact wt_ord hv s)
theorem at_mono {ls : List Int} (hv : Vl ls) {i j : Nat} (h : i ≤ j) : at_ ls i ≤ at_ ls j := by
  unfold at_
  have h1 : (ordU ls 16).take j = (ordU ls 16).take i ++ ((ordU ls 16).take j).drop i := by
    have := List.take_append_drop i ((ordU ls 16).take j)
    rw [List.take_take, Nat.min_eq_left h] at this
    exact this.symm
  rw [h1, ws_app]
  have := ws_nn hv (((ordU ls 16).take j).drop i)
  omega
theorem at_le {ls : List Int} (hf : Fm ls) (i : Nat) : 0 ≤ at_ ls i ∧ at_ ls i ≤ 65536 := by
  refine ⟨ws_nn hf.2.1 _, ?_⟩
  have h1 := at_mono hf.2.1 (Nat.le_add_right i (ordU ls 16).length)
  have h2 : at_ ls (i + (ordU ls 16).length) = kr ls := by
    unfold at_; rw [List.take_of_length_le (by omega)]; exact ws_all ls hf.2.1
  have := hf.2.2
  omega

/-- these are the codes -/
def Cd (ls C : List Int) : Prop := C.length = ls.length ∧ (∀ (i s : Nat), (ordU ls 16)[i]? = some s → 0 ≤ C.getD s 0 ∧ C.getD s 0 * wt (ls.getD s 0) = at_ ls i) ∧ ∀ s, ls.getD s 0 = 0 → C.getD s 0 = 0
theorem ord_get {ls : List Int} {s : Nat} (hv : Vl ls) (hs : s < ls.length) (h : 0 < ls.getD s 0) : ∃ i : Nat, (ordU ls 16)[i]? = some s ∧ 1 ≤ ls.getD s 0 ∧ ls.getD s 0 ≤ 16 := by
  have hin : ls.getD s 0 ∈ ls := by rw [List.getD_eq_getElem?_getD, List.getElem?_eq_getElem hs]; exact List.getElem_mem _
  have hb := hv _ hin
  have hm : s ∈ ordU ls 16 := ordU_mem.2 ⟨hs, by omega, by omega⟩
  obtain ⟨i, hi, he⟩ := List.getElem_of_mem hm
  exact ⟨i, by rw [List.getElem?_eq_getElem hi, he], by omega, hb.2⟩
/-- no code begins another one -/
theorem cd_prefix {ls C : List Int} (hv : Vl ls) (hc : Cd ls C) {a b : Nat} (ha : a < ls.length) (hb : b < ls.length) (hne : a ≠ b) (hm : 0 < ls.getD a 0) (hn : ls.getD a 0 ≤ ls.getD b 0) :
    C.getD b 0 / 2 ^ (ls.getD b 0 - ls.getD a 0).toNat ≠ C.getD a 0 := by
  intro he
  obtain ⟨i, hi, hi1, hi2⟩ := ord_get hv ha hm
  obtain ⟨j, hj, hj1, hj2⟩ := ord_get hv hb (by omega)
  have hci := hc.2.1 i a hi
  have hcj := hc.2.1 j b hj
  have hsi := at_succ ls i a hi
  have hsj := at_succ ls j b hj
  have wa := wt_pos (x := ls.getD a 0) (by omega)
  have wb := wt_pos (x := ls.getD b 0) (by omega)
  have hp := two_pos (ls.getD b 0 - ls.getD a 0).toNat
  have hwab : wt (ls.getD a 0) = 2 ^ (ls.getD b 0 - ls.getD a 0).toNat * wt (ls.getD b 0) := by
    rw [wa, wb, ← Int.pow_add]; congr 1; omega
  have hwb : 1 ≤ wt (ls.getD b 0) := by rw [wb]; exact two_pos _
  generalize (2 : Int) ^ (ls.getD b 0 - ls.getD a 0).toNat = P at *
  generalize wt (ls.getD b 0) = W at *
  generalize C.getD b 0 = cb at *
  have h1 := Int.emod_add_mul_ediv cb P
  have h2 := Int.emod_nonneg cb (show P ≠ 0 by omega)
  have h3 := Int.emod_lt_of_pos cb (show 0 < P by omega)
  rw [he] at h1
  have h4 : at_ ls j = cb % P * W + at_ ls i := by
    have e1 : cb * W = (cb % P + P * C.getD a 0) * W := by rw [h1]
    rw [← hcj.2, ← hci.2, hwab, e1, Int.add_mul]
    congr 1
    rw [Int.mul_comm P, Int.mul_assoc]
  have h5 : cb % P * W ≤ (P - 1) * W := Int.mul_le_mul_of_nonneg_right (by omega) (by omega)
  have h6 : 0 ≤ cb % P * W := Int.mul_nonneg h2 (by omega)
  rw [Int.sub_mul, Int.one_mul] at h5
  rcases Nat.lt_trichotomy i j with hij | hij | hij
  · have h7 := at_mono hv (show i + 1 ≤ j by omega)
    omega
  · subst hij
    rw [hi] at hj
    injection hj with hj
    exact hne hj
  · have h7 := at_mono hv (show j + 1 ≤ i by omega)
    omega
/-- codes rise with their lengths -/
theorem cd_rise {ls C : List Int} (hv : Vl ls) (hc : Cd ls C) {a b : Nat} (ha : a < ls.length) (hb : b < ls.length) (hm : 0 < ls.getD a 0) (hn : ls.getD a 0 < ls.getD b 0) : C.getD a 0 < C.getD b 0 := by
  obtain ⟨i, hi, hi1, hi2⟩ := ord_get hv ha hm
  obtain ⟨j, hj, hj1, hj2⟩ := ord_get hv hb (by omega)
  have hci := hc.2.1 i a hi
  have hcj := hc.2.1 j b hj
  have hsi := at_succ ls i a hi
  have wa := wt_pos (x := ls.getD a 0) (by omega)
  have wb := wt_pos (x := ls.getD b 0) (by omega)
  have hwb : 1 ≤ wt (ls.getD b 0) := by rw [wb]; exact two_pos _
  have hwab : wt (ls.getD b 0) ≤ wt (ls.getD a 0) := by
    rw [wa, wb, ← two_cast, ← two_cast]
    have := Nat.pow_le_pow_right (show 0 < 2 by omega) (show 16 - (ls.getD b 0).toNat ≤ 16 - (ls.getD a 0).toNat by omega)
    omega
  have hij : i < j := by
    rcases Nat.lt_trichotomy i j with h | h | h
    · exact h
    · subst h; rw [hi] at hj; injection hj with hj; subst hj; omega
    · have hil : i < (ordU ls 16).length := (List.getElem?_eq_some_iff.1 hi).1
      have hjl : j < (ordU ls 16).length := (List.getElem?_eq_some_iff.1 hj).1
      have := (List.pairwise_iff_getElem.1 (ordU_sorted ls 16)) j i hjl hil h
      rw [(List.getElem?_eq_some_iff.1 hi).2, (List.getElem?_eq_some_iff.1 hj).2] at this
      omega
  have h7 := at_mono hv (show i + 1 ≤ j by omega)
  rcases Int.lt_or_le (C.getD a 0) (C.getD b 0) with h | h
  · exact h
  · have h8 : C.getD b 0 * wt (ls.getD b 0) ≤ C.getD a 0 * wt (ls.getD a 0) := by
      calc C.getD b 0 * wt (ls.getD b 0) ≤ C.getD a 0 * wt (ls.getD b 0) := Int.mul_le_mul_of_nonneg_right h (by omega)
        _ ≤ C.getD a 0 * wt (ls.getD a 0) := Int.mul_le_mul_of_nonneg_left hwab hci.1
    omega
end Go.Proofs.Ytlhappecjjbopaa
