/-
  Prog: a pen that collects pieces: flush and end, by contracts. Conditions: fewer than 30000 ends, fewer than 1000000 pieces.
-/
import Derived.Test.YtlhappecjjbopaaScH
import Derived.Test.YtlhappecjjbopaaPrA
import Derived.Deep.RegionHeld3
namespace Go.Proofs.Ytlhappecjjbopaa
open Go.RowKit
set_option linter.unusedVariables false
set_option maxRecDepth 100000

section
variable {P : Program} (w : World)
theorem run_append_rdN (base : Nat) (t ty e : TypeId) (i : TypeInfo) (z : Value) (size bytes : Nat) (ht : P.underlying t = some (.slice e)) (hi : P.info? e = some i) (hz : i.zero = some z)
    (hsize : i.size = size) (hby : i.bytes = bytes) (hzs : z.cells.size = size) (hpos : 0 < size)
    (v : Value) (n : Nat) (xs : List Value) (hown : w.ownsRow base e size v n xs)
    (B : Nat) (A : Option Addr) (m c : Nat) (news : List Value) (hm : news.length = m * size) (hr : Rd w B A news) (h1 : ∀ u ∈ news, u.oneCell' = true)
    (h63 : n + m ≤ 9223372036854775807) (hbytes : (n + m) * bytes ≤ 140737488355328) (hbase : base ≤ w.heap.size) :
    ∃ v' w', (Builtin.append_ #[t, t] ty #[v, .slice A m c]).run P w = .ok v' w' ∧ w'.ownsRow base e size v' (n + m) (xs ++ news) ∧ Ap w w' v v' := by
  rcases A with _ | ad
  · have hn : news = [] := by
      rcases hr with h | ⟨b, off, hA, _⟩
      · exact h
      · cases hA
    have hm0 : m = 0 := by
      subst hn
      rcases Nat.eq_zero_or_pos m with h | h
      · exact h
      · have h2 : 0 < m * size := Nat.mul_pos h hpos
        simp at hm; omega
    subst hn hm0
    refine ⟨v, w, ?_, by simpa using hown, ⟨World.grownBy.refl w _, .inl rfl⟩⟩
    rcases hown.2 with ⟨rfl, rfl⟩ | ⟨g, cap, cur, rfl, _, _, hnc, _⟩
    · simp [Builtin.append_, run_underlying ht, sizeOf, typeInfo, hi, Builtin.lenOf, Builtin.firstCells]
    · simp [Builtin.append_, run_underlying ht, sizeOf, typeInfo, hi, Builtin.lenOf, Builtin.firstCells, hnc, storeCells]
  · have hcells : ∀ j u, news[j]? = some u → w.cell? (ad.add j) = some u := by
      intro j u hu
      rcases hr with h | ⟨b, off, hA, _, hc⟩
      · subst h; simp at hu
      · injection hA with hA
        subst hA
        rw [add_flat]; exact hc j u hu
    obtain ⟨v', w', hrun, h2, h3, _, h4⟩ := run_append_own_at (P := P) w base t ty e i z size bytes ht hi hz hsize hby hzs hpos v n xs hown ad m c news hm hcells h1 (by simpa [maxLen] using h63) hbytes hbase
    exact ⟨v', w', hrun, h2, h3, h4⟩
theorem wpList_appN0 {ops : Array Oper} {rest : List Oper} {o : Oper} {a : Act} {Q : Exit → Act → World → Prop} (hgd : o.guard = none) (s x : Operand) (t : TypeId)
    (ho : o.op = .call { callee := .builtin .append, args := #[s, x], argTypes := #[t, t] })
    {base e size : Nat} {i : TypeInfo} {z : Value} {bytes : Nat} (ht : P.underlying t = some (.slice e)) (hi : P.info? e = some i) (hz : i.zero = some z)
    (hsize : i.size = size) (hby : i.bytes = bytes) (hzs : z.cells.size = size) (hpos : 0 < size)
    {v : Value} {n : Nat} {xs : List Value} (hown : w.ownsRow base e size v n xs) (hs : a.eval s = v)
    {B : Nat} {A : Option Addr} {m c : Nat} {news : List Value} (hx : a.eval x = .slice A m c) (hr : Rd w B A news) (hm : news.length = m * size) (h1 : ∀ u ∈ news, u.oneCell' = true)
    (h63 : n + m ≤ 9223372036854775807) (hbytes : (n + m) * bytes ≤ 140737488355328) (hbase : base ≤ w.heap.size)
    (h : ∀ v' w', w'.ownsRow base e size v' (n + m) (xs ++ news) → Ap w w' v v' → wpList P ops Q rest (a.put o.dst v') w') : wpList P ops Q (o :: rest) a w := by
  refine wpList_plain hgd fun K hK => ?_
  obtain ⟨v', w', hrun, h2, h3⟩ := run_append_rdN (P := P) w base t o.type e i z size bytes ht hi hz hsize hby hzs hpos v n xs hown B A m c news hm hr h1 h63 hbytes hbase
  unfold Oper.wp execOp
  simp only [ho, resolve, invoke, builtin, Sem.run_bind, Sem.run_pure, Result.andThen_ok, List.map_toArray, List.map_cons, List.map_nil, hs, hx, hrun]
  exact hK _ _ (h v' w' h2 h3)
theorem step_appN0 {ops : Array Oper} {o : Oper} {a : Act} {K : Act → World → Prop} {Q : Exit → Act → World → Prop} {E : Prop} (hgd : o.guard = none) (s x : Operand) (t : TypeId)
    (ho : o.op = .call { callee := .builtin .append, args := #[s, x], argTypes := #[t, t] })
    {base e size : Nat} {i : TypeInfo} {z : Value} {bytes : Nat} (ht : P.underlying t = some (.slice e)) (hi : P.info? e = some i) (hz : i.zero = some z)
    (hsize : i.size = size) (hby : i.bytes = bytes) (hzs : z.cells.size = size) (hpos : 0 < size)
    {v : Value} {n : Nat} {xs : List Value} (hown : w.ownsRow base e size v n xs) (hs : a.eval s = v)
    {B : Nat} {A : Option Addr} {m c : Nat} {news : List Value} (hx : a.eval x = .slice A m c) (hr : Rd w B A news) (hm : news.length = m * size) (h1 : ∀ u ∈ news, u.oneCell' = true)
    (h63 : n + m ≤ 9223372036854775807) (hbytes : (n + m) * bytes ≤ 140737488355328) (hbase : base ≤ w.heap.size)
    (h : ∀ v' w', w'.ownsRow base e size v' (n + m) (xs ++ news) → Ap w w' v v' → K (a.put o.dst v') w') :
    if Region.wanted o (yielded ops a.tmps) = true then Oper.wp P o a w K Q else E := by
  have hw : Region.wanted o (yielded ops a.tmps) = true := by simp [Region.wanted, hgd]
  rw [if_pos hw]
  obtain ⟨v', w', hrun, h2, h3⟩ := run_append_rdN (P := P) w base t o.type e i z size bytes ht hi hz hsize hby hzs hpos v n xs hown B A m c news hm hr h1 h63 hbytes hbase
  unfold Oper.wp execOp
  simp only [ho, resolve, invoke, builtin, Sem.run_bind, Sem.run_pure, Result.andThen_ok, List.map_toArray, List.map_cons, List.map_nil, hs, hx, hrun]
  exact h v' w' h2 h3
end
theorem pcRows_one (l : List Pc) : ∀ u ∈ pcRows l, u.oneCell' = true := fun u hu => by
  obtain ⟨p, _, hp⟩ := List.mem_flatMap.1 hu
  exact pcV_one p u hp

/-- what a pen has: pieces, ends that are counted, bits that are held back -/
structure Pen where
  out : List Pc
  ends : Nat
  held : List Pc
/-- the piece of so many ends -/
def eobP (e : Nat) : Pc := (true, 16 * ((bl e - 1 : Nat) : Int), (e : Int) - 2 ^ (bl e - 1), ((bl e - 1 : Nat) : Int))
def Pen.eob (s : Pen) : List Pc := if 0 < s.ends then [eobP s.ends] else []
def Pen.fl (s : Pen) : Pen := ⟨s.out ++ s.eob ++ s.held, 0, []⟩
def Pen.put (s : Pen) (l : List Pc) : Pen := ⟨s.out ++ l, s.ends, s.held⟩
def Pen.end_ (s : Pen) (l : List Pc) : Pen := ⟨s.out, s.ends + 1, s.held ++ l⟩
def Pen.len (s : Pen) : Nat := s.out.length + s.held.length
def penL (f t h l : Int) (vo ve vh : Value) : List Value := [.int .i64 f, .int .i64 t, .int .i64 h, .int .i64 l, vo, ve, vh]
/-- a pen in the heap -/
structure Pn (w : World) (B p : Nat) (f t h l : Int) (vo vh : Value) (s : Pen) : Prop where
  blk : Bln w p 170 (penL f t h l vo (.int .i64 (s.ends : Nat)) vh)
  out : w.ownsRow B 27 4 vo s.out.length (pcRows s.out)
  held : w.ownsRow B 27 4 vh s.held.length (pcRows s.held)
  po : vo.ownBlock ≠ some p
  ph : vh.ownBlock ≠ some p
  oh : ∀ k, vo.ownBlock = some k → vh.ownBlock ≠ some k
/-- what a call may touch of a pen -/
structure Pt (p : Nat) (w : World) (vo vh : Value) (w' : World) (vo' vh' : Value) : Prop where
  fr : Fr (fun k => k = p ∨ vo.ownBlock = some k ∨ vh.ownBlock = some k) w w'
  out : ∀ k, vo'.ownBlock = some k → vo.ownBlock = some k ∨ w.heap.size ≤ k
  held : ∀ k, vh'.ownBlock = some k → vh.ownBlock = some k ∨ w.heap.size ≤ k
theorem Pt.refl (p : Nat) (w : World) (vo vh : Value) : Pt p w vo vh w vo vh := ⟨Fr.refl _ _, fun k h => .inl h, fun k h => .inl h⟩
theorem Pt.trans {p : Nat} {w w1 w2 : World} {a b a1 b1 a2 b2 : Value} (h : Pt p w a b w1 a1 b1) (k : Pt p w1 a1 b1 w2 a2 b2) : Pt p w a b w2 a2 b2 :=
  ⟨h.fr.trans' k.fr (fun i hi hs => by
    rcases hs with hs | hs | hs
    · exact .inl hs
    · rcases h.out i hs with h1 | h1
      · exact .inr (.inl h1)
      · omega
    · rcases h.held i hs with h1 | h1
      · exact .inr (.inr h1)
      · omega), fun i hi => by
    rcases k.out i hi with h1 | h1
    · exact h.out i h1
    · exact .inr (Nat.le_trans h.fr.size h1), fun i hi => by
    rcases k.held i hi with h1 | h1
    · exact h.held i h1
    · exact .inr (Nat.le_trans h.fr.size h1)⟩
theorem Pt.below {p : Nat} {w w' : World} {a b a' b' : Value} {B : Nat} (h : Pt p w a b w' a' b') (hp : B ≤ p) (ha : ∀ k, a.ownBlock = some k → B ≤ k) (hb : ∀ k, b.ownBlock = some k → B ≤ k) (hB : B ≤ w.heap.size) : Below B w w' :=
  h.fr.below (fun k hk hs => by
    rcases hs with hs | hs | hs
    · omega
    · have := ha k hs; omega
    · have := hb k hs; omega) hB
/-- something new beside it -/
theorem Pn.below {w w' : World} {B p : Nat} {f t h l : Int} {vo vh : Value} {s : Pen} (x : Pn w B p f t h l vo vh s) (hb : Below w.heap.size w w') : Pn w' B p f t h l vo vh s :=
  ⟨x.blk.below hb, own_keepN x.out hb, own_keepN x.held hb, x.po, x.ph, x.oh⟩
theorem Pn.base {w : World} {B B' p : Nat} {f t h l : Int} {vo vh : Value} {s : Pen} (x : Pn w B p f t h l vo vh s) (hB : B' ≤ B) : Pn w B' p f t h l vo vh s :=
  ⟨x.blk, own_baseN x.out (fun k hk => by have := (x.out.lt k hk).1; omega), own_baseN x.held (fun k hk => by have := (x.held.lt k hk).1; omega), x.po, x.ph, x.oh⟩
theorem Pt.of_below {p : Nat} {w w' : World} {vo vh : Value} (hb : Below w.heap.size w w') : Pt p w vo vh w' vo vh := ⟨Fr.of_below hb, fun k h => .inl h, fun k h => .inl h⟩
end Go.Proofs.Ytlhappecjjbopaa
