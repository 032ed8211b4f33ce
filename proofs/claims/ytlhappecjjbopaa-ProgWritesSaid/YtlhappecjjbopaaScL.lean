/-
  The document's bits of pieces, by a contract. Conditions: at most 1000000 pieces that fit.
-/
import Derived.Test.YtlhappecjjbopaaScK
import Derived.Deep.RegionHeld3
namespace Go.Proofs.Ytlhappecjjbopaa
open Go.RowKit
set_option linter.unusedVariables false
set_option maxRecDepth 100000

/-- an append at a step of a region that draws its order -/
theorem step_app2 {P : Program} (w : World) {ops : Array Oper} {o : Oper} {a : Act} {K : Act → World → Prop} {Q : Exit → Act → World → Prop} {E : Prop} (hgd : o.guard = none) (s x : Operand) (t : TypeId)
    (ho : o.op = .call { callee := .builtin .append, args := #[s, x], argTypes := #[t, t] })
    {base e : Nat} {i : TypeInfo} {z : Value} {bytes : Nat} (ht : P.underlying t = some (.slice e)) (hi : P.info? e = some i) (hz : i.zero = some z)
    (hsize : i.size = 1) (hby : i.bytes = bytes) (hzs : z.cells.size = 1)
    {v : Value} {n : Nat} {xs : List Value} (hown : w.ownsRow base e 1 v n xs) (hs : a.eval s = v)
    {B : Nat} {A : Option Addr} {m c : Nat} {news : List Value} (hx : a.eval x = .slice A m c) (hr : Rd w B A news) (hm : news.length = m) (h1 : ∀ u ∈ news, u.oneCell' = true)
    (h63 : n + m ≤ 9223372036854775807) (hbytes : (n + m) * bytes ≤ 140737488355328) (hbase : base ≤ w.heap.size)
    (h : ∀ v' w', w'.ownsRow base e 1 v' (n + m) (xs ++ news) → ((v'.ownBlock = v.ownBlock ∧ w.grownBy w' v.ownBlock) ∨ (v'.ownBlock = some w.heap.size ∧ w.grownBy w' none)) → K (a.put o.dst v') w') :
    if Region.wanted o (yielded ops a.tmps) = true then Oper.wp P o a w K Q else E := by
  have hw : Region.wanted o (yielded ops a.tmps) = true := by simp [Region.wanted, hgd]
  rw [if_pos hw]
  obtain ⟨v', w', hrun, h2, h3⟩ := run_append_rd2 (P := P) w base t o.type e i z bytes ht hi hz hsize hby hzs v n xs hown B A m c news hm hr h1 h63 hbytes hbase
  unfold Oper.wp execOp
  simp only [ho, resolve, invoke, builtin, Sem.run_bind, Sem.run_pure, Result.andThen_ok, List.map_toArray, List.map_cons, List.map_nil, hs, hx, hrun]
  exact h v' w' h2 h3
theorem keep_a {W w5 : World} {b o o' : Nat} {x y : Value} (hb : Below W.heap.size W w5) (h : W.cell? ⟨b, o, none⟩ = some x ∧ W.cell? ⟨b, o', none⟩ = some y) : w5.cell? ⟨b, o, none⟩ = some x ∧ w5.cell? ⟨b, o', none⟩ = some y :=
  ⟨(hb.cell (p := ⟨b, o, none⟩) (World.block_lt_of_cell? W _ h.1)).trans h.1, (hb.cell (p := ⟨b, o', none⟩) (World.block_lt_of_cell? W _ h.2)).trans h.2⟩
theorem keep_b {W w7 : World} {v v' : Value} {b o o' : Nat} {x y : Value} (hg : (v'.ownBlock = v.ownBlock ∧ W.grownBy w7 v.ownBlock) ∨ (v'.ownBlock = some W.heap.size ∧ W.grownBy w7 none)) (hn : v.ownBlock ≠ some b) (h : W.cell? ⟨b, o, none⟩ = some x ∧ W.cell? ⟨b, o', none⟩ = some y) : w7.cell? ⟨b, o, none⟩ = some x ∧ w7.cell? ⟨b, o', none⟩ = some y :=
  ⟨((fr_app2 hg).cell (p := ⟨b, o, none⟩) (World.block_lt_of_cell? W _ h.1) hn).trans h.1, ((fr_app2 hg).cell (p := ⟨b, o', none⟩) (World.block_lt_of_cell? W _ h.2) hn).trans h.2⟩
/-- a piece that fits -/
def FitP (p : Pc) : Prop := (0 ≤ p.2.2.2 ∧ p.2.2.2 ≤ 16) ∧ 0 ≤ p.2.2.1 ∧ p.2.2.1 / 2 ^ p.2.2.2.toNat = 0 ∧ -1 ≤ p.2.1 ∧ p.2.1 ≤ 9223372036854775807
theorem fitP_ex {p : Pc} (h : FitP p) : p.2.2.1 ≤ 65535 := by
  obtain ⟨⟨h1, h2⟩, h3, h4, _⟩ := h
  have h5 : (2 : Int) ^ p.2.2.2.toNat ≤ 65536 := (pow_le15 (s := p.2.2.2.toNat) (by omega)).1
  have h6 := two_pos p.2.2.2.toNat
  have h7 := Int.emod_add_mul_ediv p.2.2.1 (2 ^ p.2.2.2.toNat)
  have h8 := Int.emod_lt_of_pos p.2.2.1 (show (0 : Int) < 2 ^ p.2.2.2.toNat by omega)
  rw [h4, Int.mul_zero] at h7
  omega
def CodS (w : World) (K : Nat) (A : Option Addr) (n : Nat) (ls : List Int) (O : List Nat) (C : List Int) : Prop :=
  O.length = n ∧ n ≤ 1000 ∧ AllO ls O ∧ Cs w K A (sy O) (sz ls O) ∧ (∀ (i : Nat) s, O[i]? = some s → cb (sz ls O) i = co ls C s ∧ s < ls.length ∧ 0 < ls.getD s 0 ∧ ls.getD s 0 ≤ 16)
theorem CodS.keep {w w' : World} {K : Nat} {A : Option Addr} {n : Nat} {ls : List Int} {O : List Nat} {C : List Int} (h : CodS w K A n ls O C) (hb : Below K w w') : CodS w' K A n ls O C :=
  ⟨h.1, h.2.1, h.2.2.1, h.2.2.2.1.keep hb, h.2.2.2.2⟩
def BitsP (ls1 C1 ls2 C2 : List Int) (l : List Pc) (w : World) (e : Ending) (w' : World) : Prop :=
  ((∀ p ∈ l, OkQ ls1 ls2 p) → ∃ v, e = .returned (.tuple #[v, .bool true]) ∧ w'.ownsRow w.heap.size 3 1 v (flatQ ls1 C1 ls2 C2 l).length (iv (flatQ ls1 C1 ls2 C2 l))) ∧
  ((¬ ∀ p ∈ l, OkQ ls1 ls2 p) → e = .returned (.tuple #[.slice none 0 0, .bool false])) ∧ Below w.heap.size w w'

set_option maxHeartbeats 16000000 in
theorem refBits_any {w : World} {K1 K2 n c n1 c1 n2 c2 : Nat} {ls1 ls2 : List Int} {O1 O2 : List Nat} {C1 C2 : List Int} {A A1 A2 : Option Addr} {l : List Pc}
    (hS1 : CodS w K1 A1 n1 ls1 O1 C1) (hS2 : CodS w K2 A2 n2 ls2 O2 C2) (hK1 : K1 ≤ w.heap.size) (hK2 : K2 ≤ w.heap.size)
    (hn : l.length = n) (hR : Rd w w.heap.size A (pcRows l)) (hF : ∀ p ∈ l, FitP p) (hm : n ≤ 1000000) :
    Calls Try.prog 76 #[.slice A n c, .slice A1 n1 c1, .slice A2 n2 c2] w (BitsP ls1 C1 ls2 C2 l w) := by
  obtain ⟨i0, hi0, hz0, hz1, hz2⟩ := info_parts Try.info_int
  have HN := Lib.hid hn
  have HS1 := Lib.hid hS1
  have HS2 := Lib.hid hS2
  have HF := Lib.hid hF
  clear hn hS1 hS2 hF
  go_enter Try.func76, Try.ntmps76
  go_wp2
  go_loopw [8, 9] (fun v ix wr => ∃ i : Nat, i ≤ n ∧ ix = .int .i64 i ∧ (∀ p ∈ l.take i, OkQ ls1 ls2 p) ∧ wr.ownsRow w.heap.size 3 1 v (flatQ ls1 C1 ls2 C2 (l.take i)).length (iv (flatQ ls1 C1 ls2 C2 (l.take i))) ∧ (flatQ ls1 C1 ls2 C2 (l.take i)).length ≤ 32 * i ∧ Below w.heap.size w wr) (fun _ ix _ => n - (intOf ix).toNat)
  case atStart => exact ⟨0, Nat.zero_le _, rfl, by simp, by simpa [flatQ, iv] using World.ownsRow_nil w w.heap.size 3 1, by simp [flatQ], Below.refl _ _⟩
  case round =>
    obtain ⟨i, hi, rfl, hok, hrow, hlen, hb⟩ := hrel
    have HOK := Lib.hid hok
    clear hok
    obtain ⟨wo, rfl⟩ : ∃ wo : World, wo = wr := ⟨_, rfl⟩
    by_cases hlt : i < n
    · have dl : decide (i < n) = true := decide_eq_true hlt
      obtain ⟨p, hp⟩ : ∃ p, l[i]? = some p := ⟨l[i]'(by rw [HN.out]; exact hlt), List.getElem?_eq_getElem _⟩
      have hpl : i * 4 < (pcRows l).length := by rw [pcRows_len, HN.out]; omega
      obtain ⟨b1, o1, rfl, hb1w, hcr⟩ := hR.at_ hpl
      have hfp := HF.out p (List.mem_of_getElem? hp)
      have hfe := fitP_ex hfp
      have htk : l.take (i + 1) = l.take i ++ [p] := by rw [List.take_add_one, hp]; rfl
      have hmem := List.mem_of_getElem? hp
      have HTK := Lib.hid htk
      have HMEM := Lib.hid hmem
      obtain ⟨ac, sym, ex, bn⟩ := p
      have a0 := hcr _ _ (pcRows_get hp (j := 0) (u := .bool ac) rfl)
      have a1 := hcr _ _ (pcRows_get hp (j := 1) (u := .int .i64 sym) rfl)
      have a2 := hcr _ _ (pcRows_get hp (j := 2) (u := .int .i64 ex) rfl)
      have a3 := hcr _ _ (pcRows_get hp (j := 3) (u := .int .i64 bn) rfl)
      rw [← Nat.add_assoc] at a0 a1 a2 a3
      rw [Nat.add_zero] at a0
      have hi0' : (0 : Int) ≤ (i : Int) := by omega
      have hi1' : (i : Int) < (n : Int) := by omega
      obtain ⟨⟨hf1, hf2⟩, hf3, hf4, hf5, hf6⟩ := hfp
      simp only at hf1 hf2 hf3 hf4 hf5 hf6 hfe
      obtain ⟨m, rfl⟩ := Int.eq_ofNat_of_zero_le hf1
      rw [Int.toNat_natCast] at hf4
      have HF4 := Lib.hid hf4
      generalize hfl : flatQ ls1 C1 ls2 C2 (l.take i) = F0 at *
      have HFL := Lib.hid hfl
      obtain ⟨Av, cv, hve, _⟩ := own_sliceN hrow
      subst hve
      have HAA := Lib.hid (⟨a0, a1, a2, a3⟩ : w.cell? ⟨b1, o1 + i * 4, none⟩ = some (.bool ac) ∧ w.cell? ⟨b1, o1 + i * 4 + 1, none⟩ = some (.int .i64 sym) ∧ w.cell? ⟨b1, o1 + i * 4 + 2, none⟩ = some (.int .i64 ex) ∧ w.cell? ⟨b1, o1 + i * 4 + 3, none⟩ = some (.int .i64 (m : Int)))
      have z0 := (hb.cell (p := ⟨b1, o1 + i * 4, none⟩) hb1w).trans a0
      have z1 := (hb.cell (p := ⟨b1, o1 + i * 4 + 1, none⟩) hb1w).trans a1
      clear hcr hp hpl htk hmem hf4 hfl a0 a1 a2 a3
      cases ac
      · obtain ⟨ln, hlq⟩ : ∃ ln, ln = F0.length := ⟨_, rfl⟩
        rw [← hlq] at hrow hlen
        rw [← hlq]
        have HL0 := Lib.hid hlq
        have hcod := HS1.out.keep (hb.mono hK1)
        obtain ⟨hcn, hcn2, hall, hcs, hcf⟩ := hcod
        have HCN := Lib.hid hcn
        have HALL := Lib.hid hall
        have HCF := Lib.hid hcf
        clear hcn hall hcf hlq
        by_cases g0 : 0 ≤ sym
        · have d0 : decide (0 ≤ sym) = true := decide_eq_true g0
          have hb01 := hb.size
          go_wp2
          go_loopw [8, 11, 12] (fun v fd kx wr => ∃ k : Nat, k ≤ n1 ∧ kx = .int .i64 k ∧ Below w.heap.size w wr ∧ ((fd = .bool false ∧ (∀ (j : Nat) s, j < k → O1[j]? = some s → (s : Int) ≠ sym) ∧ wr.ownsRow w.heap.size 3 1 v ln (iv F0)) ∨ (fd = .bool true ∧ hasL ls1 sym ∧ wr.ownsRow w.heap.size 3 1 v (ln + (co ls1 C1 sym.toNat).length) (iv (F0 ++ co ls1 C1 sym.toNat))))) (fun _ _ kx _ => n1 - (intOf kx).toNat)
          case atStart => exact ⟨0, Nat.zero_le _, rfl, hb, .inl ⟨rfl, fun j s h => by omega, hrow⟩⟩
          case round =>
            clear hrow hb z0 z1 hcs
            obtain ⟨k, hk, rfl, hb, ⟨rfl, hnf, hrow⟩ | ⟨rfl, hfd, hrow⟩⟩ := hrel
            · obtain ⟨wi, rfl⟩ : ∃ wi : World, wi = wr := ⟨_, rfl⟩
              have HNF := Lib.hid hnf
              clear hnf
              obtain ⟨Aw, cw, hwe, _⟩ := own_sliceN hrow
              subst hwe
              by_cases hkn : k < n1
              · have dk : decide (k < n1) = true := decide_eq_true hkn
                obtain ⟨_, _, _, hcs, _⟩ := HS1.out.keep (hb.mono hK1)
                obtain ⟨rows, hRr, hCl⟩ := hcs.get
                have hkz : k < (sz ls1 O1).length := by rw [sz_len, HCN.out]; exact hkn
                obtain ⟨s, hs⟩ : ∃ s, O1[k]? = some s := ⟨O1[k]'(by rw [HCN.out]; exact hkn), List.getElem?_eq_getElem _⟩
                have hcat := codesOf_at (sy O1) (sz ls1 O1) k hkz
                rw [sy_at hs] at hcat
                obtain ⟨bc, oc, ac_, cc_, hA', k0, k1, hRb⟩ := hCl.cells hRr hcat
                subst hA'
                obtain ⟨hco, hsl, hsp, hs16⟩ := HCF.out k s hs
                rw [hco] at k1 hRb
                have z1 := (hb.cell (p := ⟨b1, o1 + i * 4 + 1, none⟩) hb1w).trans HAA.out.2.1
                have hk0 : (0 : Int) ≤ (k : Int) := by omega
                have hk1 : (k : Int) < (n1 : Int) := by omega
                have HSK := Lib.hid hs
                have hcol := co_len ls1 C1 s
                clear hcat hCl hRr hs hco hcs
                by_cases heq : (s : Int) = sym
                · have de : ((s : Int) == sym) = true := by simp; exact heq
                  have hts : sym.toNat = s := by omega
                  have hhl : hasL ls1 sym := ⟨g0, by omega, by rw [hts]; exact hsp⟩
                  have hcol2 : (co ls1 C1 s).length ≤ 16 := by omega
                  have HHL := Lib.hid hhl
                  have HTS := Lib.hid hts
                  have hrow2 := own_keep hrow (below_drewN (Below.refl wi.heap.size wi) 1)
                  generalize hcoq : co ls1 C1 s = cs at *
                  have HCOQ := Lib.hid hcoq
                  obtain ⟨lc, hlc⟩ : ∃ lc, lc = cs.length := ⟨_, rfl⟩
                  rw [← hlc] at k1 hcol2
                  have HLC := Lib.hid hlc
                  have hgi : w.heap.size ≤ wi.heap.size := hb.size
                  clear heq hhl hts hcol hcoq hlc
                  go_wp2
                  go_quiet (fail)
                  have hrowq : ∀ nq, (wi.drewN nq).ownsRow w.heap.size 3 1 (.slice Aw ln cw) ln (iv F0) := fun nq => own_keep hrow (below_drewN (Below.refl wi.heap.size wi) nq)
                  have hrq := hrowq nq
                  have hbq := below_drewN hb nq
                  clear hrow hrow2 hrowq
                  go_wp2_with (at_builtin; refine wpList_app2 _ rfl (.tmp 53) (.tmp 58) 24 rfl Try.underlying24 hi0 hz0 hz1 hz2 rfl hrq rfl rfl (Rd.drewN hRb nq) (by rw [iv_len, HLC.out]) (one_iv _) (by omega) (by omega) hbq.size ?_; intro v7 w7 hown7 hg7; obtain ⟨A7, c7, hv7, _⟩ := own_sliceN hown7; subst hv7)
                  go_roundw
                  case rel => exact ⟨k + 1, by omega, by go_num, below_app2 hbq hrq hg7 (Nat.le_refl _) hbq.size, .inr ⟨rfl, HHL.out, by rw [HTS.out, HCOQ.out, ← HLC.out, iv_app]; exact hown7⟩⟩
                  case measure => simp [intOf]; omega
                · have de : ((s : Int) == sym) = false := by simp; exact heq
                  have HEQ := Lib.hid heq
                  clear heq hcol
                  go_wp2
                  go_quiet (fail)
                  go_wp2
                  go_roundw
                  case rel => exact ⟨k + 1, by omega, by go_num, below_drewN hb _, .inl ⟨rfl, fun j t hj ht => by
                    rcases Nat.lt_or_ge j k with h1 | h1
                    · exact HNF.out j t h1 ht
                    · obtain rfl : j = k := by omega
                      rw [HSK.out] at ht; injection ht with ht; rw [← ht]; exact HEQ.out, own_keep hrow (below_drewN (Below.refl wi.heap.size wi) _)⟩⟩
                  case measure => simp [intOf]; omega
              · have dk : decide (k < n1) = false := decide_eq_false hkn
                have hno : ¬ ∀ q ∈ l, OkQ ls1 ls2 q := fun h => by
                  have h1 := (h _ HMEM.out).2.2.2
                  rcases h1 with h1 | h1
                  · simp only at h1; omega
                  · have h1' : hasL ls1 sym := h1
                    obtain ⟨s, hs, hs1, hs2⟩ : ∃ s : Nat, sym = (s : Int) ∧ s < ls1.length ∧ 0 < ls1.getD s 0 := ⟨sym.toNat, by omega, by have := h1'.2.1; omega, h1'.2.2⟩
                    obtain ⟨j, hj⟩ := HALL.out s hs1 hs2
                    exact HNF.out j s (by have := (List.getElem?_eq_some_iff.1 hj).1; rw [HCN.out] at this; omega) hj hs.symm
                have HNO := Lib.hid hno
                clear hno
                go_wp2
                go_ret2
                exact ⟨fun h => absurd h HNO.out, fun _ => rfl, hb⟩
            · obtain ⟨wi, rfl⟩ : ∃ wi : World, wi = wr := ⟨_, rfl⟩
              have hbq : bitsQ ls1 C1 ls2 C2 (false, sym, ex, (m : Int)) = co ls1 C1 sym.toNat ++ digs true ex m := by
                have h5 : ¬ sym = -1 := by omega
                simp [bitsQ, bitsP, h5]
              have hoq : OkQ ls1 ls2 (false, sym, ex, (m : Int)) := ⟨⟨hf1, hf2⟩, hf3, by rw [Int.toNat_natCast]; exact HF4.out, .inr hfd⟩
              have HBQ := Lib.hid hbq
              have HOQ := Lib.hid hoq
              have hV16 : (co ls1 C1 sym.toNat).length ≤ 16 := by
                obtain ⟨j, hj⟩ := HALL.out sym.toNat (by have := hfd.2.1; have := hfd.1; omega) hfd.2.2
                have := (HCF.out j _ hj).2.2.2
                rw [co_len]; omega
              obtain ⟨lc, hlc⟩ : ∃ lc, lc = ln + (co ls1 C1 sym.toNat).length := ⟨_, rfl⟩
              rw [← hlc] at hrow
              have hlc2 : lc ≤ ln + 16 := by omega
              have HLC := Lib.hid hlc
              obtain ⟨Aw, cw, hwe, _⟩ := own_sliceN hrow
              subst hwe
              by_cases hkn : k < n1
              · have dk : decide (k < n1) = true := decide_eq_true hkn
                clear hbq hoq hlc hfd
                go_upto_region 18 with fail
                have z2 := (hb.cell (p := ⟨b1, o1 + i * 4 + 2, none⟩) hb1w).trans HAA.out.2.2.1
                have z3 := (hb.cell (p := ⟨b1, o1 + i * 4 + 3, none⟩) hb1w).trans HAA.out.2.2.2
                have hrd := World.ownsRow.drew hrow
                have hbd : Below w.heap.size w wi.drew := below_drewN hb 1
                have hbs := hbd.size
                go_region_held3 (fun w' => w'.cell? ⟨b1, o1 + i * 4 + 2, none⟩ = some (.int .i64 ex) ∧ w'.cell? ⟨b1, o1 + i * 4 + 3, none⟩ = some (.int .i64 (m : Int)))
                  (first | go_keep | exact keep_a hb5 (by first | assumption | exact ⟨by assumption, by assumption⟩) | exact keep_b hg7 (fun e => by have := (hrd.lt _ e).1; omega) (by first | assumption | exact ⟨by assumption, by assumption⟩))
                  (first | (go_at_call 121; refine (digits_any ex m true (by omega) (by omega) _).mono ?_; rintro e w5 ⟨v5, rfl, ho5, hb5⟩; obtain ⟨A5, c5, hv5, hR5⟩ := own_slice ho5; subst hv5; have hr5 := own_keep hrd hb5; have hs5 := hb5.size) | (refine step_app2 _ (by rfl) _ _ _ (by rfl) Try.underlying24 hi0 hz0 hz1 hz2 rfl hr5 (by rfl) (by rfl) hR5 (by rw [iv_len, digs_len]) (one_iv _) (by omega) (by omega) (by omega) ?_; intro v7 w7 hown7 hg7))
                have hb7 : Below w.heap.size w w7 := below_app2 (hbd.trans (hb5.mono hbs)) hr5 hg7 (Nat.le_refl _) (by omega)
                go_wp2
                go_roundw
                case rel =>
                  have hfin : flatQ ls1 C1 ls2 C2 (l.take (i + 1)) = (F0 ++ co ls1 C1 sym.toNat) ++ digs true ex m := by
                    rw [HTK.out]; unfold flatQ; rw [List.flatMap_append, List.flatMap_cons, List.flatMap_nil, List.append_nil]
                    rw [show List.flatMap (bitsQ ls1 C1 ls2 C2) (l.take i) = F0 from HFL.out, HBQ.out]; rw [List.append_assoc]
                  have hln2 : ((F0 ++ co ls1 C1 sym.toNat) ++ digs true ex m).length = lc + m := by rw [List.length_append, digs_len, List.length_append, HLC.out, HL0.out]
                  refine ⟨i + 1, by omega, by go_num, fun q hq => ?_, ?_, by rw [hfin, hln2]; omega, hb7⟩
                  · rw [HTK.out] at hq
                    rcases List.mem_append.1 hq with hq | hq
                    · exact HOK.out q hq
                    · simp only [List.mem_singleton] at hq
                      subst hq; exact HOQ.out
                  · rw [hfin, hln2, iv_app]; exact hown7
                case measure => simp [intOf]; omega
              · have dk : decide (k < n1) = false := decide_eq_false hkn
                clear hbq hoq hlc hfd
                go_upto_region 18 with fail
                have z2 := (hb.cell (p := ⟨b1, o1 + i * 4 + 2, none⟩) hb1w).trans HAA.out.2.2.1
                have z3 := (hb.cell (p := ⟨b1, o1 + i * 4 + 3, none⟩) hb1w).trans HAA.out.2.2.2
                have hrd := World.ownsRow.drew hrow
                have hbd : Below w.heap.size w wi.drew := below_drewN hb 1
                have hbs := hbd.size
                go_region_held3 (fun w' => w'.cell? ⟨b1, o1 + i * 4 + 2, none⟩ = some (.int .i64 ex) ∧ w'.cell? ⟨b1, o1 + i * 4 + 3, none⟩ = some (.int .i64 (m : Int)))
                  (first | go_keep | exact keep_a hb5 (by first | assumption | exact ⟨by assumption, by assumption⟩) | exact keep_b hg7 (fun e => by have := (hrd.lt _ e).1; omega) (by first | assumption | exact ⟨by assumption, by assumption⟩))
                  (first | (go_at_call 121; refine (digits_any ex m true (by omega) (by omega) _).mono ?_; rintro e w5 ⟨v5, rfl, ho5, hb5⟩; obtain ⟨A5, c5, hv5, hR5⟩ := own_slice ho5; subst hv5; have hr5 := own_keep hrd hb5; have hs5 := hb5.size) | (refine step_app2 _ (by rfl) _ _ _ (by rfl) Try.underlying24 hi0 hz0 hz1 hz2 rfl hr5 (by rfl) (by rfl) hR5 (by rw [iv_len, digs_len]) (one_iv _) (by omega) (by omega) (by omega) ?_; intro v7 w7 hown7 hg7))
                have hb7 : Below w.heap.size w w7 := below_app2 (hbd.trans (hb5.mono hbs)) hr5 hg7 (Nat.le_refl _) (by omega)
                go_wp2
                go_roundw
                case rel =>
                  have hfin : flatQ ls1 C1 ls2 C2 (l.take (i + 1)) = (F0 ++ co ls1 C1 sym.toNat) ++ digs true ex m := by
                    rw [HTK.out]; unfold flatQ; rw [List.flatMap_append, List.flatMap_cons, List.flatMap_nil, List.append_nil]
                    rw [show List.flatMap (bitsQ ls1 C1 ls2 C2) (l.take i) = F0 from HFL.out, HBQ.out]; rw [List.append_assoc]
                  have hln2 : ((F0 ++ co ls1 C1 sym.toNat) ++ digs true ex m).length = lc + m := by rw [List.length_append, digs_len, List.length_append, HLC.out, HL0.out]
                  refine ⟨i + 1, by omega, by go_num, fun q hq => ?_, ?_, by rw [hfin, hln2]; omega, hb7⟩
                  · rw [HTK.out] at hq
                    rcases List.mem_append.1 hq with hq | hq
                    · exact HOK.out q hq
                    · simp only [List.mem_singleton] at hq
                      subst hq; exact HOQ.out
                  · rw [hfin, hln2, iv_app]; exact hown7
                case measure => simp [intOf]; omega
        · have d0 : decide (0 ≤ sym) = false := decide_eq_false g0
          have hbq : bitsQ ls1 C1 ls2 C2 (false, sym, ex, (m : Int)) = digs true ex m := by
            have h5 : sym = -1 := by omega
            simp [bitsQ, bitsP, h5]
          have hoq : OkQ ls1 ls2 (false, sym, ex, (m : Int)) := ⟨⟨hf1, hf2⟩, hf3, by rw [Int.toNat_natCast]; exact HF4.out, .inl (by show sym = -1; omega)⟩
          have HBQ := Lib.hid hbq
          have HOQ := Lib.hid hoq
          clear hbq hoq hcs
          go_upto_region 18 with fail
          have z2 := (hb.cell (p := ⟨b1, o1 + i * 4 + 2, none⟩) hb1w).trans HAA.out.2.2.1
          have z3 := (hb.cell (p := ⟨b1, o1 + i * 4 + 3, none⟩) hb1w).trans HAA.out.2.2.2
          have hrd := World.ownsRow.drew hrow
          have hbd : Below w.heap.size w wo.drew := below_drewN hb 1
          have hbs := hbd.size
          go_region_held3 (fun w' => w'.cell? ⟨b1, o1 + i * 4 + 2, none⟩ = some (.int .i64 ex) ∧ w'.cell? ⟨b1, o1 + i * 4 + 3, none⟩ = some (.int .i64 (m : Int)))
            (first | go_keep | exact keep_a hb5 (by first | assumption | exact ⟨by assumption, by assumption⟩) | exact keep_b hg7 (fun e => by have := (hrd.lt _ e).1; omega) (by first | assumption | exact ⟨by assumption, by assumption⟩))
            (first | (go_at_call 121; refine (digits_any ex m true (by omega) (by omega) _).mono ?_; rintro e w5 ⟨v5, rfl, ho5, hb5⟩; obtain ⟨A5, c5, hv5, hR5⟩ := own_slice ho5; subst hv5; have hr5 := own_keep hrd hb5; have hs5 := hb5.size) | (refine step_app2 _ (by rfl) _ _ _ (by rfl) Try.underlying24 hi0 hz0 hz1 hz2 rfl hr5 (by rfl) (by rfl) hR5 (by rw [iv_len, digs_len]) (one_iv _) (by omega) (by omega) (by omega) ?_; intro v7 w7 hown7 hg7))
          have hb7 : Below w.heap.size w w7 := below_app2 (hbd.trans (hb5.mono hbs)) hr5 hg7 (Nat.le_refl _) (by omega)
          go_wp2
          go_roundw
          case rel =>
            have hfin : flatQ ls1 C1 ls2 C2 (l.take (i + 1)) = F0 ++ digs true ex m := by
              rw [HTK.out]; unfold flatQ; rw [List.flatMap_append, List.flatMap_cons, List.flatMap_nil, List.append_nil]
              rw [show List.flatMap (bitsQ ls1 C1 ls2 C2) (l.take i) = F0 from HFL.out, HBQ.out]
            have hln2 : (F0 ++ digs true ex m).length = ln + m := by rw [List.length_append, digs_len, HL0.out]
            refine ⟨i + 1, by omega, by go_num, fun q hq => ?_, ?_, by rw [hfin, hln2]; omega, hb7⟩
            · rw [HTK.out] at hq
              rcases List.mem_append.1 hq with hq | hq
              · exact HOK.out q hq
              · simp only [List.mem_singleton] at hq
                subst hq; exact HOQ.out
            · rw [hfin, hln2, iv_app]; exact hown7
          case measure => simp [intOf]; omega
      · obtain ⟨ln, hlq⟩ : ∃ ln, ln = F0.length := ⟨_, rfl⟩
        rw [← hlq] at hrow hlen
        rw [← hlq]
        have HL0 := Lib.hid hlq
        have hcod := HS2.out.keep (hb.mono hK2)
        obtain ⟨hcn, hcn2, hall, hcs, hcf⟩ := hcod
        have HCN := Lib.hid hcn
        have HALL := Lib.hid hall
        have HCF := Lib.hid hcf
        clear hcn hall hcf hlq
        by_cases g0 : 0 ≤ sym
        · have d0 : decide (0 ≤ sym) = true := decide_eq_true g0
          have hb01 := hb.size
          go_wp2
          go_loopw [8, 11, 12] (fun v fd kx wr => ∃ k : Nat, k ≤ n2 ∧ kx = .int .i64 k ∧ Below w.heap.size w wr ∧ ((fd = .bool false ∧ (∀ (j : Nat) s, j < k → O2[j]? = some s → (s : Int) ≠ sym) ∧ wr.ownsRow w.heap.size 3 1 v ln (iv F0)) ∨ (fd = .bool true ∧ hasL ls2 sym ∧ wr.ownsRow w.heap.size 3 1 v (ln + (co ls2 C2 sym.toNat).length) (iv (F0 ++ co ls2 C2 sym.toNat))))) (fun _ _ kx _ => n2 - (intOf kx).toNat)
          case atStart => exact ⟨0, Nat.zero_le _, rfl, hb, .inl ⟨rfl, fun j s h => by omega, hrow⟩⟩
          case round =>
            clear hrow hb z0 z1 hcs
            obtain ⟨k, hk, rfl, hb, ⟨rfl, hnf, hrow⟩ | ⟨rfl, hfd, hrow⟩⟩ := hrel
            · obtain ⟨wi, rfl⟩ : ∃ wi : World, wi = wr := ⟨_, rfl⟩
              have HNF := Lib.hid hnf
              clear hnf
              obtain ⟨Aw, cw, hwe, _⟩ := own_sliceN hrow
              subst hwe
              by_cases hkn : k < n2
              · have dk : decide (k < n2) = true := decide_eq_true hkn
                obtain ⟨_, _, _, hcs, _⟩ := HS2.out.keep (hb.mono hK2)
                obtain ⟨rows, hRr, hCl⟩ := hcs.get
                have hkz : k < (sz ls2 O2).length := by rw [sz_len, HCN.out]; exact hkn
                obtain ⟨s, hs⟩ : ∃ s, O2[k]? = some s := ⟨O2[k]'(by rw [HCN.out]; exact hkn), List.getElem?_eq_getElem _⟩
                have hcat := codesOf_at (sy O2) (sz ls2 O2) k hkz
                rw [sy_at hs] at hcat
                obtain ⟨bc, oc, ac_, cc_, hA', k0, k1, hRb⟩ := hCl.cells hRr hcat
                subst hA'
                obtain ⟨hco, hsl, hsp, hs16⟩ := HCF.out k s hs
                rw [hco] at k1 hRb
                have z1 := (hb.cell (p := ⟨b1, o1 + i * 4 + 1, none⟩) hb1w).trans HAA.out.2.1
                have hk0 : (0 : Int) ≤ (k : Int) := by omega
                have hk1 : (k : Int) < (n2 : Int) := by omega
                have HSK := Lib.hid hs
                have hcol := co_len ls2 C2 s
                clear hcat hCl hRr hs hco hcs
                by_cases heq : (s : Int) = sym
                · have de : ((s : Int) == sym) = true := by simp; exact heq
                  have hts : sym.toNat = s := by omega
                  have hhl : hasL ls2 sym := ⟨g0, by omega, by rw [hts]; exact hsp⟩
                  have hcol2 : (co ls2 C2 s).length ≤ 16 := by omega
                  have HHL := Lib.hid hhl
                  have HTS := Lib.hid hts
                  have hrow2 := own_keep hrow (below_drewN (Below.refl wi.heap.size wi) 1)
                  generalize hcoq : co ls2 C2 s = cs at *
                  have HCOQ := Lib.hid hcoq
                  obtain ⟨lc, hlc⟩ : ∃ lc, lc = cs.length := ⟨_, rfl⟩
                  rw [← hlc] at k1 hcol2
                  have HLC := Lib.hid hlc
                  have hgi : w.heap.size ≤ wi.heap.size := hb.size
                  clear heq hhl hts hcol hcoq hlc
                  go_wp2
                  go_quiet (fail)
                  have hrowq : ∀ nq, (wi.drewN nq).ownsRow w.heap.size 3 1 (.slice Aw ln cw) ln (iv F0) := fun nq => own_keep hrow (below_drewN (Below.refl wi.heap.size wi) nq)
                  have hrq := hrowq nq
                  have hbq := below_drewN hb nq
                  clear hrow hrow2 hrowq
                  go_wp2_with (at_builtin; refine wpList_app2 _ rfl (.tmp 53) (.tmp 58) 24 rfl Try.underlying24 hi0 hz0 hz1 hz2 rfl hrq rfl rfl (Rd.drewN hRb nq) (by rw [iv_len, HLC.out]) (one_iv _) (by omega) (by omega) hbq.size ?_; intro v7 w7 hown7 hg7; obtain ⟨A7, c7, hv7, _⟩ := own_sliceN hown7; subst hv7)
                  go_roundw
                  case rel => exact ⟨k + 1, by omega, by go_num, below_app2 hbq hrq hg7 (Nat.le_refl _) hbq.size, .inr ⟨rfl, HHL.out, by rw [HTS.out, HCOQ.out, ← HLC.out, iv_app]; exact hown7⟩⟩
                  case measure => simp [intOf]; omega
                · have de : ((s : Int) == sym) = false := by simp; exact heq
                  have HEQ := Lib.hid heq
                  clear heq hcol
                  go_wp2
                  go_quiet (fail)
                  go_wp2
                  go_roundw
                  case rel => exact ⟨k + 1, by omega, by go_num, below_drewN hb _, .inl ⟨rfl, fun j t hj ht => by
                    rcases Nat.lt_or_ge j k with h1 | h1
                    · exact HNF.out j t h1 ht
                    · obtain rfl : j = k := by omega
                      rw [HSK.out] at ht; injection ht with ht; rw [← ht]; exact HEQ.out, own_keep hrow (below_drewN (Below.refl wi.heap.size wi) _)⟩⟩
                  case measure => simp [intOf]; omega
              · have dk : decide (k < n2) = false := decide_eq_false hkn
                have hno : ¬ ∀ q ∈ l, OkQ ls1 ls2 q := fun h => by
                  have h1 := (h _ HMEM.out).2.2.2
                  rcases h1 with h1 | h1
                  · simp only at h1; omega
                  · have h1' : hasL ls2 sym := h1
                    obtain ⟨s, hs, hs1, hs2⟩ : ∃ s : Nat, sym = (s : Int) ∧ s < ls2.length ∧ 0 < ls2.getD s 0 := ⟨sym.toNat, by omega, by have := h1'.2.1; omega, h1'.2.2⟩
                    obtain ⟨j, hj⟩ := HALL.out s hs1 hs2
                    exact HNF.out j s (by have := (List.getElem?_eq_some_iff.1 hj).1; rw [HCN.out] at this; omega) hj hs.symm
                have HNO := Lib.hid hno
                clear hno
                go_wp2
                go_ret2
                exact ⟨fun h => absurd h HNO.out, fun _ => rfl, hb⟩
            · obtain ⟨wi, rfl⟩ : ∃ wi : World, wi = wr := ⟨_, rfl⟩
              have hbq : bitsQ ls1 C1 ls2 C2 (true, sym, ex, (m : Int)) = co ls2 C2 sym.toNat ++ digs true ex m := by
                have h5 : ¬ sym = -1 := by omega
                simp [bitsQ, bitsP, h5]
              have hoq : OkQ ls1 ls2 (true, sym, ex, (m : Int)) := ⟨⟨hf1, hf2⟩, hf3, by rw [Int.toNat_natCast]; exact HF4.out, .inr hfd⟩
              have HBQ := Lib.hid hbq
              have HOQ := Lib.hid hoq
              have hV16 : (co ls2 C2 sym.toNat).length ≤ 16 := by
                obtain ⟨j, hj⟩ := HALL.out sym.toNat (by have := hfd.2.1; have := hfd.1; omega) hfd.2.2
                have := (HCF.out j _ hj).2.2.2
                rw [co_len]; omega
              obtain ⟨lc, hlc⟩ : ∃ lc, lc = ln + (co ls2 C2 sym.toNat).length := ⟨_, rfl⟩
              rw [← hlc] at hrow
              have hlc2 : lc ≤ ln + 16 := by omega
              have HLC := Lib.hid hlc
              obtain ⟨Aw, cw, hwe, _⟩ := own_sliceN hrow
              subst hwe
              by_cases hkn : k < n2
              · have dk : decide (k < n2) = true := decide_eq_true hkn
                clear hbq hoq hlc hfd
                go_upto_region 18 with fail
                have z2 := (hb.cell (p := ⟨b1, o1 + i * 4 + 2, none⟩) hb1w).trans HAA.out.2.2.1
                have z3 := (hb.cell (p := ⟨b1, o1 + i * 4 + 3, none⟩) hb1w).trans HAA.out.2.2.2
                have hrd := World.ownsRow.drew hrow
                have hbd : Below w.heap.size w wi.drew := below_drewN hb 1
                have hbs := hbd.size
                go_region_held3 (fun w' => w'.cell? ⟨b1, o1 + i * 4 + 2, none⟩ = some (.int .i64 ex) ∧ w'.cell? ⟨b1, o1 + i * 4 + 3, none⟩ = some (.int .i64 (m : Int)))
                  (first | go_keep | exact keep_a hb5 (by first | assumption | exact ⟨by assumption, by assumption⟩) | exact keep_b hg7 (fun e => by have := (hrd.lt _ e).1; omega) (by first | assumption | exact ⟨by assumption, by assumption⟩))
                  (first | (go_at_call 121; refine (digits_any ex m true (by omega) (by omega) _).mono ?_; rintro e w5 ⟨v5, rfl, ho5, hb5⟩; obtain ⟨A5, c5, hv5, hR5⟩ := own_slice ho5; subst hv5; have hr5 := own_keep hrd hb5; have hs5 := hb5.size) | (refine step_app2 _ (by rfl) _ _ _ (by rfl) Try.underlying24 hi0 hz0 hz1 hz2 rfl hr5 (by rfl) (by rfl) hR5 (by rw [iv_len, digs_len]) (one_iv _) (by omega) (by omega) (by omega) ?_; intro v7 w7 hown7 hg7))
                have hb7 : Below w.heap.size w w7 := below_app2 (hbd.trans (hb5.mono hbs)) hr5 hg7 (Nat.le_refl _) (by omega)
                go_wp2
                go_roundw
                case rel =>
                  have hfin : flatQ ls1 C1 ls2 C2 (l.take (i + 1)) = (F0 ++ co ls2 C2 sym.toNat) ++ digs true ex m := by
                    rw [HTK.out]; unfold flatQ; rw [List.flatMap_append, List.flatMap_cons, List.flatMap_nil, List.append_nil]
                    rw [show List.flatMap (bitsQ ls1 C1 ls2 C2) (l.take i) = F0 from HFL.out, HBQ.out]; rw [List.append_assoc]
                  have hln2 : ((F0 ++ co ls2 C2 sym.toNat) ++ digs true ex m).length = lc + m := by rw [List.length_append, digs_len, List.length_append, HLC.out, HL0.out]
                  refine ⟨i + 1, by omega, by go_num, fun q hq => ?_, ?_, by rw [hfin, hln2]; omega, hb7⟩
                  · rw [HTK.out] at hq
                    rcases List.mem_append.1 hq with hq | hq
                    · exact HOK.out q hq
                    · simp only [List.mem_singleton] at hq
                      subst hq; exact HOQ.out
                  · rw [hfin, hln2, iv_app]; exact hown7
                case measure => simp [intOf]; omega
              · have dk : decide (k < n2) = false := decide_eq_false hkn
                clear hbq hoq hlc hfd
                go_upto_region 18 with fail
                have z2 := (hb.cell (p := ⟨b1, o1 + i * 4 + 2, none⟩) hb1w).trans HAA.out.2.2.1
                have z3 := (hb.cell (p := ⟨b1, o1 + i * 4 + 3, none⟩) hb1w).trans HAA.out.2.2.2
                have hrd := World.ownsRow.drew hrow
                have hbd : Below w.heap.size w wi.drew := below_drewN hb 1
                have hbs := hbd.size
                go_region_held3 (fun w' => w'.cell? ⟨b1, o1 + i * 4 + 2, none⟩ = some (.int .i64 ex) ∧ w'.cell? ⟨b1, o1 + i * 4 + 3, none⟩ = some (.int .i64 (m : Int)))
                  (first | go_keep | exact keep_a hb5 (by first | assumption | exact ⟨by assumption, by assumption⟩) | exact keep_b hg7 (fun e => by have := (hrd.lt _ e).1; omega) (by first | assumption | exact ⟨by assumption, by assumption⟩))
                  (first | (go_at_call 121; refine (digits_any ex m true (by omega) (by omega) _).mono ?_; rintro e w5 ⟨v5, rfl, ho5, hb5⟩; obtain ⟨A5, c5, hv5, hR5⟩ := own_slice ho5; subst hv5; have hr5 := own_keep hrd hb5; have hs5 := hb5.size) | (refine step_app2 _ (by rfl) _ _ _ (by rfl) Try.underlying24 hi0 hz0 hz1 hz2 rfl hr5 (by rfl) (by rfl) hR5 (by rw [iv_len, digs_len]) (one_iv _) (by omega) (by omega) (by omega) ?_; intro v7 w7 hown7 hg7))
                have hb7 : Below w.heap.size w w7 := below_app2 (hbd.trans (hb5.mono hbs)) hr5 hg7 (Nat.le_refl _) (by omega)
                go_wp2
                go_roundw
                case rel =>
                  have hfin : flatQ ls1 C1 ls2 C2 (l.take (i + 1)) = (F0 ++ co ls2 C2 sym.toNat) ++ digs true ex m := by
                    rw [HTK.out]; unfold flatQ; rw [List.flatMap_append, List.flatMap_cons, List.flatMap_nil, List.append_nil]
                    rw [show List.flatMap (bitsQ ls1 C1 ls2 C2) (l.take i) = F0 from HFL.out, HBQ.out]; rw [List.append_assoc]
                  have hln2 : ((F0 ++ co ls2 C2 sym.toNat) ++ digs true ex m).length = lc + m := by rw [List.length_append, digs_len, List.length_append, HLC.out, HL0.out]
                  refine ⟨i + 1, by omega, by go_num, fun q hq => ?_, ?_, by rw [hfin, hln2]; omega, hb7⟩
                  · rw [HTK.out] at hq
                    rcases List.mem_append.1 hq with hq | hq
                    · exact HOK.out q hq
                    · simp only [List.mem_singleton] at hq
                      subst hq; exact HOQ.out
                  · rw [hfin, hln2, iv_app]; exact hown7
                case measure => simp [intOf]; omega
        · have d0 : decide (0 ≤ sym) = false := decide_eq_false g0
          have hbq : bitsQ ls1 C1 ls2 C2 (true, sym, ex, (m : Int)) = digs true ex m := by
            have h5 : sym = -1 := by omega
            simp [bitsQ, bitsP, h5]
          have hoq : OkQ ls1 ls2 (true, sym, ex, (m : Int)) := ⟨⟨hf1, hf2⟩, hf3, by rw [Int.toNat_natCast]; exact HF4.out, .inl (by show sym = -1; omega)⟩
          have HBQ := Lib.hid hbq
          have HOQ := Lib.hid hoq
          clear hbq hoq hcs
          go_upto_region 18 with fail
          have z2 := (hb.cell (p := ⟨b1, o1 + i * 4 + 2, none⟩) hb1w).trans HAA.out.2.2.1
          have z3 := (hb.cell (p := ⟨b1, o1 + i * 4 + 3, none⟩) hb1w).trans HAA.out.2.2.2
          have hrd := World.ownsRow.drew hrow
          have hbd : Below w.heap.size w wo.drew := below_drewN hb 1
          have hbs := hbd.size
          go_region_held3 (fun w' => w'.cell? ⟨b1, o1 + i * 4 + 2, none⟩ = some (.int .i64 ex) ∧ w'.cell? ⟨b1, o1 + i * 4 + 3, none⟩ = some (.int .i64 (m : Int)))
            (first | go_keep | exact keep_a hb5 (by first | assumption | exact ⟨by assumption, by assumption⟩) | exact keep_b hg7 (fun e => by have := (hrd.lt _ e).1; omega) (by first | assumption | exact ⟨by assumption, by assumption⟩))
            (first | (go_at_call 121; refine (digits_any ex m true (by omega) (by omega) _).mono ?_; rintro e w5 ⟨v5, rfl, ho5, hb5⟩; obtain ⟨A5, c5, hv5, hR5⟩ := own_slice ho5; subst hv5; have hr5 := own_keep hrd hb5; have hs5 := hb5.size) | (refine step_app2 _ (by rfl) _ _ _ (by rfl) Try.underlying24 hi0 hz0 hz1 hz2 rfl hr5 (by rfl) (by rfl) hR5 (by rw [iv_len, digs_len]) (one_iv _) (by omega) (by omega) (by omega) ?_; intro v7 w7 hown7 hg7))
          have hb7 : Below w.heap.size w w7 := below_app2 (hbd.trans (hb5.mono hbs)) hr5 hg7 (Nat.le_refl _) (by omega)
          go_wp2
          go_roundw
          case rel =>
            have hfin : flatQ ls1 C1 ls2 C2 (l.take (i + 1)) = F0 ++ digs true ex m := by
              rw [HTK.out]; unfold flatQ; rw [List.flatMap_append, List.flatMap_cons, List.flatMap_nil, List.append_nil]
              rw [show List.flatMap (bitsQ ls1 C1 ls2 C2) (l.take i) = F0 from HFL.out, HBQ.out]
            have hln2 : (F0 ++ digs true ex m).length = ln + m := by rw [List.length_append, digs_len, HL0.out]
            refine ⟨i + 1, by omega, by go_num, fun q hq => ?_, ?_, by rw [hfin, hln2]; omega, hb7⟩
            · rw [HTK.out] at hq
              rcases List.mem_append.1 hq with hq | hq
              · exact HOK.out q hq
              · simp only [List.mem_singleton] at hq
                subst hq; exact HOQ.out
            · rw [hfin, hln2, iv_app]; exact hown7
          case measure => simp [intOf]; omega
    · have dl : decide (i < n) = false := decide_eq_false hlt
      have htl : l.take i = l := List.take_of_length_le (by rw [HN.out]; omega)
      have hok := HOK.out
      rw [htl] at hrow hok
      have HOKK := Lib.hid hok
      have HROW := Lib.hid hrow
      obtain ⟨Av, cv, hve, _⟩ := own_sliceN hrow
      subst hve
      clear htl hok hrow
      go_wp2
      go_ret2
      exact ⟨fun _ => ⟨_, rfl, HROW.out⟩, fun h => absurd HOKK.out h, hb⟩
end Go.Proofs.Ytlhappecjjbopaa
