/-
  Prog: a pen that collects pieces: flush and end, by contracts. Conditions: fewer than 30000 ends, fewer than 1000000 pieces.
  Prog: a pen's flush and end, by contracts. Conditions: at most 30000 ends, at most 1000000 pieces.
  Prog: which pieces a band of blocks has, as functions. No program.
-/
import Derived.Test.YtlhappecjjbopaaScH
import Derived.Test.YtlhappecjjbopaaPrB
import Derived.Deep.RegionHeld3
import Derived.Deep.RegionLaw
import Derived.BigRegion
namespace Go.Proofs.Ytlhappecjjbopaa
section
open Go.RowKit
set_option linter.unusedVariables false
set_option maxRecDepth 100000

section
variable {P : Program} (w : World)
theorem run_append_rdN (base : Nat) (t ty e : TypeId) (i : TypeInfo) (z : Value) (size bytes : Nat) (ht : P.underlying t = some (.slice e)) (hi : P.info? e = some i) (hz : i.zero = some z)
    (hsize : i.size = size) (hby : i.bytes = bytes) (hzs : z.cells.size = size) (hpos : 0 < size)
    (v : Value) (n : Nat) (xs : List Value) (hown : w.ownsRow base e size v n xs)
    (B : Nat) (A : Option Addr) (m c : Nat) (news : List Value) (hm : news.length = m * size) (hr : Rd w B A news) (h1 : ∀ u ∈ news, u.oneCell' = true)
    (h63 : n + m ≤ 9223372036854775807) (hbytes : (n + m) * bytes ≤ 140737488355328) (hbase : base ≤ w.heap.size) :
    ∃ v' w', (Builtin.append_ #[t, t] ty #[v, .slice A m c]).run P w = .ok v' w' ∧ w'.ownsRow base e size v' (n + m) (xs ++ news) ∧ Ap w w' v v' := by
  rcases A with _ | ad
  · have hn : news = [] := by
      rcases hr with h | ⟨b, off, hA, _⟩
      · exact h
      · cases hA
    have hm0 : m = 0 := by
      subst hn
      rcases Nat.eq_zero_or_pos m with h | h
      · exact h
      · have h2 : 0 < m * size := Nat.mul_pos h hpos
        simp at hm; omega
    subst hn hm0
    refine ⟨v, w, ?_, by simpa using hown, ⟨World.grownBy.refl w _, .inl rfl⟩⟩
    rcases hown.2 with ⟨rfl, rfl⟩ | ⟨g, cap, cur, rfl, _, _, hnc, _⟩
    · simp [Builtin.append_, run_underlying ht, sizeOf, typeInfo, hi, Builtin.lenOf, Builtin.firstCells]
    · simp [Builtin.append_, run_underlying ht, sizeOf, typeInfo, hi, Builtin.lenOf, Builtin.firstCells, hnc, storeCells]
  · have hcells : ∀ j u, news[j]? = some u → w.cell? (ad.add j) = some u := by
      intro j u hu
      rcases hr with h | ⟨b, off, hA, _, hc⟩
      · subst h; simp at hu
      · injection hA with hA
        subst hA
        rw [add_flat]; exact hc j u hu
    obtain ⟨v', w', hrun, h2, h3, _, h4⟩ := run_append_own_at (P := P) w base t ty e i z size bytes ht hi hz hsize hby hzs hpos v n xs hown ad m c news hm hcells h1 (by simpa [maxLen] using h63) hbytes hbase
    exact ⟨v', w', hrun, h2, h3, h4⟩
theorem wpList_appN0 {ops : Array Oper} {rest : List Oper} {o : Oper} {a : Act} {Q : Exit → Act → World → Prop} (hgd : o.guard = none) (s x : Operand) (t : TypeId)
    (ho : o.op = .call { callee := .builtin .append, args := #[s, x], argTypes := #[t, t] })
    {base e size : Nat} {i : TypeInfo} {z : Value} {bytes : Nat} (ht : P.underlying t = some (.slice e)) (hi : P.info? e = some i) (hz : i.zero = some z)
    (hsize : i.size = size) (hby : i.bytes = bytes) (hzs : z.cells.size = size) (hpos : 0 < size)
    {v : Value} {n : Nat} {xs : List Value} (hown : w.ownsRow base e size v n xs) (hs : a.eval s = v)
    {B : Nat} {A : Option Addr} {m c : Nat} {news : List Value} (hx : a.eval x = .slice A m c) (hr : Rd w B A news) (hm : news.length = m * size) (h1 : ∀ u ∈ news, u.oneCell' = true)
    (h63 : n + m ≤ 9223372036854775807) (hbytes : (n + m) * bytes ≤ 140737488355328) (hbase : base ≤ w.heap.size)
    (h : ∀ v' w', w'.ownsRow base e size v' (n + m) (xs ++ news) → Ap w w' v v' → wpList P ops Q rest (a.put o.dst v') w') : wpList P ops Q (o :: rest) a w := by
  refine wpList_plain hgd fun K hK => ?_
  obtain ⟨v', w', hrun, h2, h3⟩ := run_append_rdN (P := P) w base t o.type e i z size bytes ht hi hz hsize hby hzs hpos v n xs hown B A m c news hm hr h1 h63 hbytes hbase
  unfold Oper.wp execOp
  simp only [ho, resolve, invoke, builtin, Sem.run_bind, Sem.run_pure, Result.andThen_ok, List.map_toArray, List.map_cons, List.map_nil, hs, hx, hrun]
  exact hK _ _ (h v' w' h2 h3)
theorem step_appN0 {ops : Array Oper} {o : Oper} {a : Act} {K : Act → World → Prop} {Q : Exit → Act → World → Prop} {E : Prop} (hgd : o.guard = none) (s x : Operand) (t : TypeId)
    (ho : o.op = .call { callee := .builtin .append, args := #[s, x], argTypes := #[t, t] })
    {base e size : Nat} {i : TypeInfo} {z : Value} {bytes : Nat} (ht : P.underlying t = some (.slice e)) (hi : P.info? e = some i) (hz : i.zero = some z)
    (hsize : i.size = size) (hby : i.bytes = bytes) (hzs : z.cells.size = size) (hpos : 0 < size)
    {v : Value} {n : Nat} {xs : List Value} (hown : w.ownsRow base e size v n xs) (hs : a.eval s = v)
    {B : Nat} {A : Option Addr} {m c : Nat} {news : List Value} (hx : a.eval x = .slice A m c) (hr : Rd w B A news) (hm : news.length = m * size) (h1 : ∀ u ∈ news, u.oneCell' = true)
    (h63 : n + m ≤ 9223372036854775807) (hbytes : (n + m) * bytes ≤ 140737488355328) (hbase : base ≤ w.heap.size)
    (h : ∀ v' w', w'.ownsRow base e size v' (n + m) (xs ++ news) → Ap w w' v v' → K (a.put o.dst v') w') :
    if Region.wanted o (yielded ops a.tmps) = true then Oper.wp P o a w K Q else E := by
  have hw : Region.wanted o (yielded ops a.tmps) = true := by simp [Region.wanted, hgd]
  rw [if_pos hw]
  obtain ⟨v', w', hrun, h2, h3⟩ := run_append_rdN (P := P) w base t o.type e i z size bytes ht hi hz hsize hby hzs hpos v n xs hown B A m c news hm hr h1 h63 hbytes hbase
  unfold Oper.wp execOp
  simp only [ho, resolve, invoke, builtin, Sem.run_bind, Sem.run_pure, Result.andThen_ok, List.map_toArray, List.map_cons, List.map_nil, hs, hx, hrun]
  exact h v' w' h2 h3
end
theorem pcRows_one (l : List Pc) : ∀ u ∈ pcRows l, u.oneCell' = true := fun u hu => by
  obtain ⟨p, _, hp⟩ := List.mem_flatMap.1 hu
  exact pcV_one p u hp

/-- what a pen has: pieces, ends that are counted, bits that are held back -/
structure Pen where
  out : List Pc
  ends : Nat
  held : List Pc
/-- the piece of so many ends -/
def eobP (e : Nat) : Pc := (true, 16 * ((bl e - 1 : Nat) : Int), (e : Int) - 2 ^ (bl e - 1), ((bl e - 1 : Nat) : Int))
def Pen.eob (s : Pen) : List Pc := if 0 < s.ends then [eobP s.ends] else []
def Pen.fl (s : Pen) : Pen := ⟨s.out ++ s.eob ++ s.held, 0, []⟩
def Pen.put (s : Pen) (l : List Pc) : Pen := ⟨s.out ++ l, s.ends, s.held⟩
def Pen.end_ (s : Pen) (l : List Pc) : Pen := ⟨s.out, s.ends + 1, s.held ++ l⟩
def Pen.len (s : Pen) : Nat := s.out.length + s.held.length
def penL (f t h l : Int) (vo ve vh : Value) : List Value := [.int .i64 f, .int .i64 t, .int .i64 h, .int .i64 l, vo, ve, vh]
/-- a pen in the heap -/
structure Pn (w : World) (B p : Nat) (f t h l : Int) (vo vh : Value) (s : Pen) : Prop where
  blk : Bln w p 170 (penL f t h l vo (.int .i64 (s.ends : Nat)) vh)
  out : w.ownsRow B 27 4 vo s.out.length (pcRows s.out)
  held : w.ownsRow B 27 4 vh s.held.length (pcRows s.held)
  po : vo.ownBlock ≠ some p
  ph : vh.ownBlock ≠ some p
  oh : ∀ k, vo.ownBlock = some k → vh.ownBlock ≠ some k
/-- what a call may touch of a pen -/
structure Pt (p : Nat) (w : World) (vo vh : Value) (w' : World) (vo' vh' : Value) : Prop where
  fr : Fr (fun k => k = p ∨ vo.ownBlock = some k ∨ vh.ownBlock = some k) w w'
  out : ∀ k, vo'.ownBlock = some k → vo.ownBlock = some k ∨ w.heap.size ≤ k
  held : ∀ k, vh'.ownBlock = some k → vh.ownBlock = some k ∨ w.heap.size ≤ k
theorem Pt.refl (p : Nat) (w : World) (vo vh : Value) : Pt p w vo vh w vo vh := ⟨Fr.refl _ _, fun k h => .inl h, fun k h => .inl h⟩
theorem Pt.trans {p : Nat} {w w1 w2 : World} {a b a1 b1 a2 b2 : Value} (h : Pt p w a b w1 a1 b1) (k : Pt p w1 a1 b1 w2 a2 b2) : Pt p w a b w2 a2 b2 :=
  ⟨h.fr.trans' k.fr (fun i hi hs => by
    rcases hs with hs | hs | hs
    · exact .inl hs
    · rcases h.out i hs with h1 | h1
      · exact .inr (.inl h1)
      · omega
    · rcases h.held i hs with h1 | h1
      · exact .inr (.inr h1)
      · omega), fun i hi => by
    rcases k.out i hi with h1 | h1
    · exact h.out i h1
    · exact .inr (Nat.le_trans h.fr.size h1), fun i hi => by
    rcases k.held i hi with h1 | h1
    · exact h.held i h1
    · exact .inr (Nat.le_trans h.fr.size h1)⟩
theorem Pt.below {p : Nat} {w w' : World} {a b a' b' : Value} {B : Nat} (h : Pt p w a b w' a' b') (hp : B ≤ p) (ha : ∀ k, a.ownBlock = some k → B ≤ k) (hb : ∀ k, b.ownBlock = some k → B ≤ k) (hB : B ≤ w.heap.size) : Below B w w' :=
  h.fr.below (fun k hk hs => by
    rcases hs with hs | hs | hs
    · omega
    · have := ha k hs; omega
    · have := hb k hs; omega) hB
/-- something new beside it -/
theorem Pn.below {w w' : World} {B p : Nat} {f t h l : Int} {vo vh : Value} {s : Pen} (x : Pn w B p f t h l vo vh s) (hb : Below w.heap.size w w') : Pn w' B p f t h l vo vh s :=
  ⟨x.blk.below hb, own_keepN x.out hb, own_keepN x.held hb, x.po, x.ph, x.oh⟩
theorem Pn.base {w : World} {B B' p : Nat} {f t h l : Int} {vo vh : Value} {s : Pen} (x : Pn w B p f t h l vo vh s) (hB : B' ≤ B) : Pn w B' p f t h l vo vh s :=
  ⟨x.blk, own_baseN x.out (fun k hk => by have := (x.out.lt k hk).1; omega), own_baseN x.held (fun k hk => by have := (x.held.lt k hk).1; omega), x.po, x.ph, x.oh⟩
theorem Pt.of_below {p : Nat} {w w' : World} {vo vh : Value} (hb : Below w.heap.size w w') : Pt p w vo vh w' vo vh := ⟨Fr.of_below hb, fun k h => .inl h, fun k h => .inl h⟩
end
section
open Go.RowKit
set_option linter.unusedVariables false
set_option maxRecDepth 100000

theorem Pn.lt {w : World} {B p : Nat} {f t h l : Int} {vo vh : Value} {s : Pen} (x : Pn w B p f t h l vo vh s) : p < w.heap.size := x.blk.lt
theorem eob_len (s : Pen) : s.eob.length ≤ 1 := by unfold Pen.eob; split <;> simp
/-- the row's new value in its cell -/
theorem Pn.setO {w w' : World} {B p : Nat} {f t h l : Int} {vo vh vo' : Value} {s : Pen} {nw : List Pc} (x : Pn w B p f t h l vo vh s)
    {n : Nat} (ho : w'.ownsRow B 27 4 vo' n (pcRows s.out ++ pcRows nw)) (hn : n = s.out.length + nw.length) (ha : Ap w w' vo vo') :
    Pn (w'.setCell ⟨p, 4, none⟩ vo') B p f t h l vo' vh (s.put nw) ∧ Pt p w vo vh (w'.setCell ⟨p, 4, none⟩ vo') vo' vh := by
  subst hn
  have hpo : vo'.ownBlock ≠ some p := fun e => by
    rcases ha.row p e with h1 | h1
    · exact x.po h1
    · have := x.lt; omega
  have hb := x.blk.keep ha.fr (fun e => x.po e)
  refine ⟨⟨hb.set 4 vo', ?_, ?_, hpo, x.ph, fun k hk hk2 => ?_⟩, ⟨(ha.fr.mono (fun i hi => .inr (.inl hi))).setCell (p := ⟨p, 4, none⟩) (.inl (.inl rfl)) vo', fun k hk => ha.row k hk, fun k hk => .inl hk⟩⟩
  · have := ownsRow_setCell_other ho (a := ⟨p, 4, none⟩) hpo vo'
    show World.ownsRow _ B _ 4 vo' (s.out ++ nw).length (pcRows (s.out ++ nw))
    rw [List.length_append, pcRows_app]; exact this
  · exact ownsRow_setCell_other (ha.fr.ownN x.held (fun k hk hk2 => x.oh k hk2 hk)) (a := ⟨p, 4, none⟩) x.ph vo'
  · rcases ha.row k hk with h1 | h1
    · exact x.oh k h1 hk2
    · have := (x.held.lt k hk2).2; omega
/-- the ends' count in its cell -/
theorem Pn.setE {w : World} {B p : Nat} {f t h l : Int} {vo vh : Value} {s : Pen} (x : Pn w B p f t h l vo vh s) (e : Nat) {z : Int} (hz : z = (e : Int)) :
    Pn (w.setCell ⟨p, 5, none⟩ (.int .i64 z)) B p f t h l vo vh ⟨s.out, e, s.held⟩ ∧ Pt p w vo vh (w.setCell ⟨p, 5, none⟩ (.int .i64 z)) vo vh := by
  subst hz
  exact ⟨⟨x.blk.set 5 _, ownsRow_setCell_other x.out (a := ⟨p, 5, none⟩) x.po _, ownsRow_setCell_other x.held (a := ⟨p, 5, none⟩) x.ph _, x.po, x.ph, x.oh⟩,
    ⟨(Fr.refl _ _).setCell (p := ⟨p, 5, none⟩) (.inl (.inl rfl)) _, fun k hk => .inl hk, fun k hk => .inl hk⟩⟩
/-- nothing is held -/
theorem Pn.setN {w : World} {B p : Nat} {f t h l : Int} {vo vh : Value} {s : Pen} (x : Pn w B p f t h l vo vh s) :
    Pn (w.setCell ⟨p, 6, none⟩ (.slice none 0 0)) B p f t h l vo (.slice none 0 0) ⟨s.out, s.ends, []⟩ ∧ Pt p w vo vh (w.setCell ⟨p, 6, none⟩ (.slice none 0 0)) vo (.slice none 0 0) :=
  ⟨⟨x.blk.set 6 _, ownsRow_setCell_other x.out (a := ⟨p, 6, none⟩) x.po _, World.ownsRow_nil _ _ _ _, x.po, fun e => by simp [Value.ownBlock] at e, fun k _ e => by simp [Value.ownBlock] at e⟩,
    ⟨(Fr.refl _ _).setCell (p := ⟨p, 6, none⟩) (.inl (.inl rfl)) _, fun k hk => .inl hk, fun k hk => by simp [Value.ownBlock] at hk⟩⟩
/-- the held row's new value in its cell -/
theorem Pn.setH {w w' : World} {B p : Nat} {f t h l : Int} {vo vh vh' : Value} {s : Pen} {nw : List Pc} (x : Pn w B p f t h l vo vh s)
    {n : Nat} (ho : w'.ownsRow B 27 4 vh' n (pcRows s.held ++ pcRows nw)) (hn : n = s.held.length + nw.length) (ha : Ap w w' vh vh') :
    Pn (w'.setCell ⟨p, 6, none⟩ vh') B p f t h l vo vh' ⟨s.out, s.ends, s.held ++ nw⟩ ∧ Pt p w vo vh (w'.setCell ⟨p, 6, none⟩ vh') vo vh' := by
  subst hn
  have hpo : vh'.ownBlock ≠ some p := fun e => by
    rcases ha.row p e with h1 | h1
    · exact x.ph h1
    · have := x.lt; omega
  have hb := x.blk.keep ha.fr (fun e => x.ph e)
  refine ⟨⟨hb.set 6 vh', ?_, ?_, x.po, hpo, fun k hk hk2 => ?_⟩, ⟨(ha.fr.mono (fun i hi => .inr (.inr hi))).setCell (p := ⟨p, 6, none⟩) (.inl (.inl rfl)) vh', fun k hk => .inl hk, fun k hk => ha.row k hk⟩⟩
  · exact ownsRow_setCell_other (ha.fr.ownN x.out (fun k hk hk2 => x.oh k hk hk2)) (a := ⟨p, 6, none⟩) x.po vh'
  · have := ownsRow_setCell_other ho (a := ⟨p, 6, none⟩) hpo vh'
    show World.ownsRow _ B _ 4 vh' (s.held ++ nw).length (pcRows (s.held ++ nw))
    rw [List.length_append, pcRows_app]; exact this
  · rcases ha.row k hk2 with h1 | h1
    · exact x.oh k hk h1
    · have := (x.out.lt k hk).2; omega

theorem Pn.drew {w : World} {B p : Nat} {f t h l : Int} {vo vh : Value} {s : Pen} (x : Pn w B p f t h l vo vh s) : Pn w.drew B p f t h l vo vh s :=
  ⟨x.blk.drew, x.out.drew, x.held.drew, x.po, x.ph, x.oh⟩
theorem Pt.drew {p : Nat} {w : World} {vo vh : Value} : Pt p w vo vh w.drew vo vh := ⟨(Fr.refl _ _).drew, fun k h => .inl h, fun k h => .inl h⟩
def FlP (B p : Nat) (f t h l : Int) (vo vh : Value) (s : Pen) (w : World) (e : Ending) (w' : World) : Prop :=
  e = .returned (.tuple #[]) ∧ ∃ vo', Pn w' B p f t h l vo' (.slice none 0 0) s.fl ∧ Pt p w vo vh w' vo' (.slice none 0 0)
set_option maxHeartbeats 4000000 in
theorem flush_any {w : World} {B p : Nat} {f t h l : Int} {vo vh : Value} {s : Pen} (X : Pn w B p f t h l vo vh s) (hB : B ≤ w.heap.size) (he : s.ends ≤ 30000) (hn : s.out.length + s.held.length ≤ 1000000) :
    Calls Try.prog 120 #[.pointer (some ⟨p, 0, none⟩)] w (FlP B p f t h l vo vh s w) := by
  obtain ⟨i0, hi0, hz0, hz1, hz2⟩ := info_parts Try.info_pc
  obtain ⟨out, ends, held⟩ := s
  simp only at he hn
  have hfo : ∀ q : Pc, List.foldl (fun (cs : Array Value) (x : Value × Nat) => cs.setIfInBounds x.2 x.1) #[.bool false, .int .i64 0, .int .i64 0, .int .i64 0] (pcV q).zipIdx = (pcV q).toArray := fun _ => rfl
  have hp4 : ∀ q : Pc, (pcV q).length = 4 := fun _ => rfl
  obtain ⟨lo, hlo⟩ : ∃ lo, lo = out.length := ⟨_, rfl⟩
  obtain ⟨lh, hlh⟩ : ∃ lh, lh = held.length := ⟨_, rfl⟩
  have ho := X.out
  have hl := X.held
  simp only at ho hl
  rw [← hlo] at ho hn
  rw [← hlh] at hl hn
  obtain ⟨Av, cv, hve, _⟩ := own_sliceN ho
  subst hve
  have HLO := Lib.hid hlo
  have HLH := Lib.hid hlh
  have hXX := Lib.hid X
  have c4 := X.blk.cell (i := 4) (u := .slice Av lo cv) rfl
  have c5 := X.blk.cell (i := 5) (u := .int .i64 (ends : Nat)) rfl
  have hh4 : (pcRows held).length = lh * 4 := by rw [pcRows_len, hlh]
  by_cases h0 : 0 < ends
  · have d0 : decide (0 < ends) = true := decide_eq_true h0
    have hk2 : bl ends ≤ 16 := bl_bd (by omega)
    have hk1 : 1 ≤ bl ends := by unfold bl; rw [if_neg (by omega)]; omega
    have hkk : ((bl ends : Nat) : Int) - 1 = ((bl ends - 1 : Nat) : Int) := by omega
    obtain ⟨kk, hkq⟩ : ∃ kk, kk = bl ends - 1 := ⟨_, rfl⟩
    have hkb : kk ≤ 15 := by omega
    have hpw : (2 : Int) ^ kk ≤ 32768 := by
      have := Nat.pow_le_pow_right (show 0 < 2 by omega) hkb
      rw [← two_cast]; omega
    have hpw1 := two_pos kk
    rw [← hkq] at hkk
    clear X
    have hle := len_any ends (by omega)
    obtain ⟨bq, hbq⟩ : ∃ bq, bq = bl ends := ⟨_, rfl⟩
    rw [← hbq] at hk1 hk2 hkk hkq hle
    have HBL := Lib.hid hbq.symm
    have HKQ := Lib.hid hkq
    clear hkq hbq
    clear hlo hlh
    go_enter Try.func120, Try.ntmps120
    go_wp2_with fail
    refine (hle w).mono ?_; rintro e w' ⟨rfl, rfl⟩
    go_upto_region 2 with fail
    have hw1 : IntKind.i64.wrap (16 * (kk : Int)) = 16 * (kk : Int) := IntWalk.i64_in _ (by omega)
    have hw2 : IntKind.i64.wrap ((2 : Int) ^ kk) = (2 : Int) ^ kk := IntWalk.i64_in _ (by omega)
    have hw3 : IntKind.i64.wrap ((ends : Int) - 2 ^ kk) = (ends : Int) - 2 ^ kk := IntWalk.i64_in _ (by omega)
    have oD := World.ownsRow.drew (World.ownsRow.alloc ho (.cells (pcV (true, 16 * (kk : Int), (ends : Int) - 2 ^ kk, (kk : Int))).toArray 27))
    have hba : Below w.heap.size w (w.alloc (.cells (pcV (true, 16 * (kk : Int), (ends : Int) - 2 ^ kk, (kk : Int))).toArray 27)).drew := ((Below.refl _ _).alloc (Nat.le_refl _) _).drew
    have XD := hXX.out.blk.below hba
    have hnr := Rd.newN w 27 (pcV (true, 16 * (kk : Int), (ends : Int) - 2 ^ kk, (kk : Int)))
    have hRD : Rd (w.alloc (.cells (pcV (true, 16 * (kk : Int), (ends : Int) - 2 ^ kk, (kk : Int))).toArray 27)).drew (w.heap.size + 1) (some ⟨w.heap.size, 0, none⟩) (pcV (true, 16 * (kk : Int), (ends : Int) - 2 ^ kk, (kk : Int))) := hnr
    have e4 : ∀ o, (w.alloc o).cell? ⟨p, 4, none⟩ = some (.slice Av lo cv) := fun o => (World.cell?_of_block (w := w) (a := ⟨p, 4, none⟩) (Below.heap_alloc w o p hXX.out.lt)).trans c4
    have e5 : ∀ o, (w.alloc o).cell? ⟨p, 5, none⟩ = some (.int .i64 (ends : Nat)) := fun o => (World.cell?_of_block (w := w) (a := ⟨p, 5, none⟩) (Below.heap_alloc w o p hXX.out.lt)).trans c5
    go_region_law (first | (refine step_appN0 _ (by rfl) _ _ _ (by rfl) Try.underlying23 hi0 hz0 hz1 hz2 rfl (by omega) oD (by rfl) (by rfl) hRD (by rfl) (pcV_one _) (by omega) (by omega) (Nat.le_trans hB hba.size) ?_; intro v7 w7 hown7 hap7; obtain ⟨A7, c7, rfl, _⟩ := own_sliceN hown7; have Xb := XD.keep hap7.fr hXX.out.po; have q4 := Xb.cell (i := 4) (u := .slice Av lo cv) rfl; have f4 := Xb.fz (i := 4) (show 4 < 7 by decide)))
    all_goals
      obtain ⟨Y, hT⟩ := (hXX.out.below hba).setO (nw := [(true, 16 * (kk : Int), (ends : Int) - 2 ^ kk, (kk : Int))]) (by simpa [pcRows] using hown7) (by rw [HLO.out]; rfl) hap7
      have hT0 : Pt p w (.slice Av lo cv) vh (w7.setCell ⟨p, 4, none⟩ (.slice A7 (lo + 1) c7)) (.slice A7 (lo + 1) c7) vh := (Pt.of_below hba).trans hT
      have hs0 := hT0.fr.size
      have HT0 := Lib.hid hT0
      have hlp : (out ++ [(true, 16 * (kk : Int), (ends : Int) - 2 ^ kk, (kk : Int))]).length = lo + 1 := by rw [List.length_append, ← HLO.out]; rfl
      obtain ⟨wn, hwn⟩ : ∃ wn, wn = w7.setCell ⟨p, 4, none⟩ (.slice A7 (lo + 1) c7) := ⟨_, rfl⟩
      have HWN := Lib.hid hwn
      rw [← hwn] at Y hs0
      have ho2 := Y.out
      have hl2 := Y.held
      simp only [Pen.put, hlp, ← HLH.out] at ho2 hl2
      obtain ⟨Ah, ch, hvh, _, _, hRh⟩ := own_sliceN hl2
      have hvh' := Lib.hid hvh
      subst hvh
      have HY := Lib.hid Y
      have c4 := Y.blk.cell (i := 4) (u := .slice A7 (lo + 1) c7) rfl
      have c5 := Y.blk.cell (i := 5) (u := .int .i64 (ends : Nat)) rfl
      have c6 := Y.blk.cell (i := 6) (u := .slice Ah lh ch) rfl
      clear hown7 hap7 q4 f4 Xb oD XD e4 e5 hRD hnr hba hl ho hT hT0 Y hwn hw1 hw2 hw3 hlp hpw hpw1 hkk
      rw [← HWN.out]
      go_upto_region 3 with fail
      have oD := World.ownsRow.drew ho2
      have XD := Bln.drew HY.out.blk
      have hBn : B ≤ wn.heap.size := Nat.le_trans hB hs0
      go_region_law (first | (refine step_appN0 _ (by rfl) _ _ _ (by rfl) Try.underlying23 hi0 hz0 hz1 hz2 rfl (by omega) oD (by rfl) (by rfl) hRh hh4 (pcRows_one held) (by omega) (by omega) hBn ?_; intro v8 w8 hown7 hap7; obtain ⟨A8, c8, rfl, _⟩ := own_sliceN hown7; have Xb := XD.keep hap7.fr HY.out.po; have q4 := Xb.cell (i := 4) (u := .slice A7 (lo + 1) c7) rfl; have f4 := Xb.fz (i := 4) (show 4 < 7 by decide)))
      all_goals
        obtain ⟨Y, hT⟩ := HY.out.drew.setO (nw := held) hown7 (by rw [HLH.out]; show _ = (out ++ [(true, 16 * (kk : Int), (ends : Int) - 2 ^ kk, (kk : Int))]).length + _; rw [List.length_append, ← HLO.out]; rfl) hap7
        have y5 := Y.blk.fz (i := 5) (show 5 < 7 by decide)
        have y5' := Y.blk.cell (i := 5) (u := .int .i64 (ends : Nat)) rfl
        obtain ⟨Z, hT2⟩ := Y.setE 0 (z := 0) rfl
        have z6 := Z.blk.fz (i := 6) (show 6 < 7 by decide)
        have z6' := Z.blk.cell (i := 6) (u := .slice Ah lh ch) rfl
        obtain ⟨V, hT3⟩ := Z.setN
        have HV := Lib.hid V
        have HT := Lib.hid (HT0.out.trans (by rw [← HWN.out]; exact ((Pt.drew (w := wn)).trans hT).trans (hT2.trans hT3)))
        clear hT hT2 hT3 V Z Y hown7 hap7 q4 f4 Xb oD XD c4 c5 c6 ho2
        generalize w8.setCell ⟨p, 4, none⟩ (.slice A8 (lo + 1 + lh) c8) = w9 at *
        go_wp2
        go_end0
        have hkq := HKQ.out
        have h1 : ({ out := out, ends := ends, held := held } : Pen).fl = ⟨out ++ [(true, 16 * (kk : Int), (ends : Int) - 2 ^ kk, (kk : Int))] ++ held, 0, []⟩ := by
          unfold Pen.fl Pen.eob eobP
          rw [if_pos h0]
          simp only
          rw [HBL.out, ← hkq]
        exact ⟨rfl, _, by rw [h1]; simpa [Pen.put] using HV.out, HT.out⟩
  · obtain rfl : ends = 0 := by omega
    have c6 := X.blk.cell (i := 6) (u := vh) rfl
    obtain ⟨Ah, ch, hvh, _, _, hRh⟩ := own_sliceN hl
    subst hvh
    clear X
    clear hlo hlh
    go_enter Try.func120, Try.ntmps120
    go_upto_region 3 with fail
    have oD := World.ownsRow.drew ho
    have XD := Bln.drew hXX.out.blk
    go_region_law (first | (refine step_appN0 _ (by rfl) _ _ _ (by rfl) Try.underlying23 hi0 hz0 hz1 hz2 rfl (by omega) oD (by rfl) (by rfl) hRh hh4 (pcRows_one held) (by omega) (by omega) hB ?_; intro v7 w7 hown7 hap7; obtain ⟨A7, c7, rfl, _⟩ := own_sliceN hown7; have Xb := XD.keep hap7.fr hXX.out.po; have q4 := Xb.cell (i := 4) (u := .slice Av lo cv) rfl; have f4 := Xb.fz (i := 4) (show 4 < 7 by decide)))
    all_goals
      obtain ⟨Y, hT⟩ := hXX.out.drew.setO (nw := held) hown7 (by rw [HLO.out, HLH.out]) hap7
      have y5 := Y.blk.fz (i := 5) (show 5 < 7 by decide)
      have y5' := Y.blk.cell (i := 5) (u := .int .i64 ((0 : Nat) : Int)) rfl
      obtain ⟨Z, hT2⟩ := Y.setE 0 (z := 0) rfl
      have z6 := Z.blk.fz (i := 6) (show 6 < 7 by decide)
      have z6' := Z.blk.cell (i := 6) (u := .slice Ah lh ch) rfl
      obtain ⟨V, hT3⟩ := Z.setN
      have HV := Lib.hid V
      have HT := Lib.hid (((Pt.drew (w := w)).trans hT).trans (hT2.trans hT3))
      clear hT hT2 hT3 V Z Y hown7 hap7 q4 f4 Xb oD XD c4 c5 c6 ho
      generalize w7.setCell ⟨p, 4, none⟩ (.slice A7 (lo + lh) c7) = w8 at *
      go_wp2
      go_end0
      exact ⟨rfl, _, by simpa [Pen.fl, Pen.eob, Pen.put] using HV.out, HT.out⟩
def EndP (B p : Nat) (f t h l : Int) (vo vh : Value) (s : Pen) (nw : List Pc) (w : World) (e : Ending) (w' : World) : Prop :=
  e = .returned (.tuple #[]) ∧ ∃ vh', Pn w' B p f t h l vo vh' (s.end_ nw) ∧ Pt p w vo vh w' vo vh'
set_option maxHeartbeats 4000000 in
theorem end_any {w : World} {B p : Nat} {f t h l : Int} {vo vh : Value} {s : Pen} (X : Pn w B p f t h l vo vh s) (hB : B ≤ w.heap.size) (he : s.ends ≤ 30000) {A : Option Addr} {m c : Nat} {nw : List Pc} (hm : nw.length = m) (hR : Rd w w.heap.size A (pcRows nw)) (hA : ∀ a, A = some a → a.block ≠ p) (hn : s.held.length + m ≤ 1000000) :
    Calls Try.prog 148 #[.pointer (some ⟨p, 0, none⟩), .slice A m c] w (EndP B p f t h l vo vh s nw w) := by
  obtain ⟨i0, hi0, hz0, hz1, hz2⟩ := info_parts Try.info_pc
  obtain ⟨out, ends, held⟩ := s
  simp only at he hn
  have hh4 : (pcRows nw).length = m * 4 := by rw [pcRows_len, hm]
  have HM := Lib.hid hm
  obtain ⟨lh, hlh⟩ : ∃ lh, lh = held.length := ⟨_, rfl⟩
  have hl := X.held
  simp only at hl
  rw [← hlh] at hl hn
  obtain ⟨Ah, ch, hvh, _⟩ := own_sliceN hl
  subst hvh
  have HLH := Lib.hid hlh
  have c5 := X.blk.cell (i := 5) (u := .int .i64 (ends : Nat)) rfl
  have f5 := X.blk.fz (i := 5) (show 5 < 7 by decide)
  obtain ⟨Y, hT⟩ := X.setE (ends + 1) (z := (ends : Int) + 1) (by omega)
  have hRY : Rd (w.setCell ⟨p, 5, none⟩ (.int .i64 ((ends : Int) + 1))) w.heap.size A (pcRows nw) := ((Fr.refl (fun k => k = p) w).setCell (p := ⟨p, 5, none⟩) (.inl rfl) _).rd hR (Nat.le_refl _) (fun a ha => hA a ha)
  have hs0 := hT.fr.size
  clear hlh hm hR X hl
  go_enter Try.func148, Try.ntmps148
  go_upto_region 1 with fail
  generalize w.setCell ⟨p, 5, none⟩ (.int .i64 ((ends : Int) + 1)) = w1 at *
  have HT := Lib.hid hT
  have hl1 := Y.held
  simp only [← HLH.out] at hl1
  have HY := Lib.hid Y
  have c6 := Y.blk.cell (i := 6) (u := .slice Ah lh ch) rfl
  have oD := hl1
  have XD := Y.blk
  have hBn : B ≤ w1.heap.size := Nat.le_trans hB hs0
  have y5 := Y.blk.cell (i := 5) (u := .int .i64 ((ends + 1 : Nat) : Int)) rfl
  rw [show (((ends + 1 : Nat) : Int)) = (ends : Int) + 1 by omega] at y5
  have dne : ((ends : Int) + 1 == 32767) = false := by simp; omega
  clear Y c5 f5 hT hl1
  have hfar : ∀ (v7 : Value) (w7 : World), Ap w1 w7 (.slice Ah lh ch) v7 → w7.cell? ⟨p, 5, none⟩ = some (.int .i64 ((ends : Int) + 1)) := fun v7 w7 h => (h.fr.cell (p := ⟨p, 5, none⟩) HY.out.lt (fun e => HY.out.ph e)).trans y5
  go_wp2_with (at_builtin; refine wpList_appN0 _ rfl (.tmp 15) (.tmp 16) 23 rfl Try.underlying23 hi0 hz0 hz1 hz2 rfl (by omega) oD rfl rfl hRY hh4 (pcRows_one nw) (by omega) (by omega) hBn ?_; intro v8 w8 hown7 hap7; obtain ⟨A8, c8, rfl, _⟩ := own_sliceN hown7; have Xb := XD.keep hap7.fr HY.out.ph; have q4 := Xb.cell (i := 6) (u := .slice Ah lh ch) rfl; have f4 := Xb.fz (i := 6) (show 6 < 7 by decide); have q5 := hfar _ _ hap7)
  obtain ⟨Z, hT⟩ := HY.out.setH (nw := nw) hown7 (by rw [HLH.out, HM.out]) hap7
  go_end0
  exact ⟨rfl, _, Z, HT.out.trans hT⟩
end
section
open Go.RowKit
set_option linter.unusedVariables false

/-- what the i-th number of a band that begins at f tells from bit l on -/
def tn (x : List Int) (f : Nat) (l : Int) (i : Nat) : Int := tl (x.getD (zzN (f + i)) 0) l false
/-- a first band: the pen and the noughts behind i numbers -/
def fsN (x : List Int) (f : Nat) (l : Int) (s : Pen) : Nat → Pen × Nat
  | 0 => (s, 0)
  | i + 1 => if tn x f l i = 0 then ((fsN x f l s i).1, (fsN x f l s i).2 + 1)
    else ((fsN x f l s i).1.fl.put (List.replicate ((fsN x f l s i).2 / 16) skipP ++ [numP true (tn x f l i) ((fsN x f l s i).2 % 16)]), 0)
def fsB (x : List Int) (f n : Nat) (l : Int) (s : Pen) : Pen := if 0 < (fsN x f l s n).2 then (fsN x f l s n).1.end_ [] else (fsN x f l s n).1
/-- the place behind the last number that is new -/
def nwst (x : List Int) (f : Nat) (l : Int) : Nat → Int
  | 0 => -1
  | i + 1 => if tn x f l i = 1 ∨ tn x f l i = -1 then (i : Int) else nwst x f l i
def bitP (n : Int) : Pc := (true, -1, ((n.natAbs % 2 : Nat) : Int), 1)
def onP (n : Int) (k : Nat) : Pc := (true, 16 * (k : Int) + 1, (if n = 1 then 1 else 0), 1)
/-- a finer band: the pen, the noughts, the bits of known numbers behind i numbers -/
def fiN (x : List Int) (f : Nat) (l nw : Int) (s : Pen) : Nat → Pen × Nat × List Pc
  | 0 => (s, 0, [])
  | i + 1 => if tn x f l i = 0 then
      if (fiN x f l nw s i).2.1 = 15 ∧ (i : Int) < nw then ((fiN x f l nw s i).1.fl.put (skipP :: (fiN x f l nw s i).2.2), 0, [])
      else ((fiN x f l nw s i).1, (fiN x f l nw s i).2.1 + 1, (fiN x f l nw s i).2.2)
    else if tn x f l i = 1 ∨ tn x f l i = -1 then ((fiN x f l nw s i).1.fl.put (onP (tn x f l i) (fiN x f l nw s i).2.1 :: (fiN x f l nw s i).2.2), 0, [])
    else ((fiN x f l nw s i).1, (fiN x f l nw s i).2.1, (fiN x f l nw s i).2.2 ++ [bitP (tn x f l i)])
def fiE (r : Pen × Nat × List Pc) : Pen := if 0 < r.2.1 ∨ 0 < r.2.2.length then r.1.end_ r.2.2 else r.1
def fiB (x : List Int) (f n : Nat) (l : Int) (s : Pen) : Pen := fiE (fiN x f l (nwst x f l n) s n)
/-- a block of a band -/
def acB (f n : Nat) (h l : Int) (s : Pen) (x : List Int) : Pen := if 0 < h then fiB x f n l s else fsB x f n l s
def acL (f n : Nat) (h l : Int) (G : List (List Int)) (s : Pen) : Pen := G.foldl (acB f n h l) s
def acP (f n : Nat) (h l : Int) (G : List (List Int)) : List Pc := (acL f n h l G ⟨[], 0, []⟩).fl.out

theorem fl_len (s : Pen) : s.fl.len ≤ s.len + 1 := by
  unfold Pen.fl Pen.len Pen.eob
  simp only [List.length_append, List.length_nil]
  split <;> simp <;> omega
theorem fl_ends (s : Pen) : s.fl.ends = 0 := rfl
theorem put_len (s : Pen) (l : List Pc) : (s.put l).len = s.len + l.length := by
  unfold Pen.put Pen.len; simp only [List.length_append]; omega
theorem end_len (s : Pen) (l : List Pc) : (s.end_ l).len = s.len + l.length := by
  unfold Pen.end_ Pen.len; simp only [List.length_append]; omega
theorem fsN_bd (x : List Int) (f : Nat) (l : Int) (s : Pen) : ∀ i, (fsN x f l s i).1.len + (fsN x f l s i).2 ≤ s.len + 3 * i ∧ (fsN x f l s i).1.ends ≤ s.ends ∧ (fsN x f l s i).2 ≤ i
  | 0 => ⟨Nat.le_refl _, Nat.le_refl _, Nat.le_refl _⟩
  | i + 1 => by
    have ih := fsN_bd x f l s i
    rw [fsN]
    split
    · dsimp only; omega
    · dsimp only
      rw [put_len, List.length_append, List.length_replicate]
      have := fl_len (fsN x f l s i).1
      refine ⟨?_, Nat.zero_le _, Nat.zero_le _⟩
      simp only [List.length_cons, List.length_nil]
      omega
theorem fsB_bd (x : List Int) (f n : Nat) (l : Int) (s : Pen) : (fsB x f n l s).len ≤ s.len + 3 * n ∧ (fsB x f n l s).ends ≤ s.ends + 1 := by
  have h := fsN_bd x f l s n
  unfold fsB
  split
  · rw [end_len]; unfold Pen.end_; simp only [List.length_nil]; omega
  · omega
theorem fiN_bd (x : List Int) (f : Nat) (l nw : Int) (s : Pen) : ∀ i, (fiN x f l nw s i).1.len + (fiN x f l nw s i).2.2.length ≤ s.len + 3 * i ∧ (fiN x f l nw s i).1.ends ≤ s.ends ∧ (fiN x f l nw s i).2.1 ≤ i ∧ (fiN x f l nw s i).2.2.length ≤ i
  | 0 => ⟨Nat.le_refl _, Nat.le_refl _, Nat.le_refl _, Nat.le_refl _⟩
  | i + 1 => by
    have ih := fiN_bd x f l nw s i
    have h1 := fl_len (fiN x f l nw s i).1
    rw [fiN]
    split
    · split
      · dsimp only
        rw [put_len]
        refine ⟨?_, Nat.zero_le _, Nat.zero_le _, Nat.zero_le _⟩
        simp only [List.length_cons, List.length_nil]; omega
      · dsimp only; omega
    · split
      · dsimp only
        rw [put_len]
        refine ⟨?_, Nat.zero_le _, Nat.zero_le _, Nat.zero_le _⟩
        simp only [List.length_cons, List.length_nil]; omega
      · dsimp only
        rw [List.length_append]; simp only [List.length_cons, List.length_nil]; omega
theorem fiB_bd (x : List Int) (f n : Nat) (l : Int) (s : Pen) : (fiB x f n l s).len ≤ s.len + 3 * n ∧ (fiB x f n l s).ends ≤ s.ends + 1 := by
  have h := fiN_bd x f l (nwst x f l n) s n
  unfold fiB fiE
  split
  · rw [end_len]; unfold Pen.end_; simp only; omega
  · omega
theorem acB_bd (f n : Nat) (h l : Int) (s : Pen) (x : List Int) : (acB f n h l s x).len ≤ s.len + 3 * n ∧ (acB f n h l s x).ends ≤ s.ends + 1 := by
  unfold acB
  split
  · exact fiB_bd x f n l s
  · exact fsB_bd x f n l s
theorem acL_bd (f n : Nat) (h l : Int) : ∀ (G : List (List Int)) (s : Pen), (acL f n h l G s).len ≤ s.len + 3 * n * G.length ∧ (acL f n h l G s).ends ≤ s.ends + G.length
  | [], s => ⟨Nat.le_refl _, Nat.le_refl _⟩
  | x :: G, s => by
    have h1 := acB_bd f n h l s x
    have h2 := acL_bd f n h l G (acB f n h l s x)
    show (acL f n h l G (acB f n h l s x)).len ≤ _ ∧ (acL f n h l G (acB f n h l s x)).ends ≤ _
    rw [List.length_cons, Nat.mul_succ]
    omega
theorem acL_snoc (f n : Nat) (h l : Int) (G : List (List Int)) (x : List Int) (s : Pen) : acL f n h l (G ++ [x]) s = acB f n h l (acL f n h l G s) x := by
  unfold acL; rw [List.foldl_append]; rfl
theorem tn_zero {x : List Int} {f i : Nat} {l : Int} {nz : Nat} {s s' : Pen} (h : fsN x f l s i = (s', nz)) (h0 : tn x f l i = 0) : fsN x f l s (i + 1) = (s', nz + 1) := by
  rw [fsN, if_pos h0, h]
theorem tn_num {x : List Int} {f i : Nat} {l : Int} {nz : Nat} {s s' : Pen} (h : fsN x f l s i = (s', nz)) (h0 : tn x f l i ≠ 0) : fsN x f l s (i + 1) = (s'.fl.put (List.replicate (nz / 16) skipP ++ [numP true (tn x f l i) (nz % 16)]), 0) := by
  rw [fsN, if_neg h0, h]
theorem fi_skip {x : List Int} {f i : Nat} {l nw : Int} {s s' : Pen} {hd : List Pc} (h : fiN x f l nw s i = (s', 15, hd)) (h0 : tn x f l i = 0) (h1 : (i : Int) < nw) : fiN x f l nw s (i + 1) = (s'.fl.put (skipP :: hd), 0, []) := by
  rw [fiN, if_pos h0, h, if_pos ⟨rfl, h1⟩]
theorem fi_zero {x : List Int} {f i nz : Nat} {l nw : Int} {s s' : Pen} {hd : List Pc} (h : fiN x f l nw s i = (s', nz, hd)) (h0 : tn x f l i = 0) (h1 : ¬ (nz = 15 ∧ (i : Int) < nw)) : fiN x f l nw s (i + 1) = (s', nz + 1, hd) := by
  rw [fiN, if_pos h0, h, if_neg h1]
theorem fi_on {x : List Int} {f i nz : Nat} {l nw : Int} {s s' : Pen} {hd : List Pc} (h : fiN x f l nw s i = (s', nz, hd)) (h1 : tn x f l i = 1 ∨ tn x f l i = -1) : fiN x f l nw s (i + 1) = (s'.fl.put (onP (tn x f l i) nz :: hd), 0, []) := by
  rw [fiN, if_neg (by omega), h, if_pos h1]
theorem fi_bit {x : List Int} {f i nz : Nat} {l nw : Int} {s s' : Pen} {hd : List Pc} (h : fiN x f l nw s i = (s', nz, hd)) (h0 : tn x f l i ≠ 0) (h1 : ¬ (tn x f l i = 1 ∨ tn x f l i = -1)) : fiN x f l nw s (i + 1) = (s', nz, hd ++ [bitP (tn x f l i)]) := by
  rw [fiN, if_neg h0, h, if_neg h1]
end
end Go.Proofs.Ytlhappecjjbopaa
