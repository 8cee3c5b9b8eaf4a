/- The holds' map; its values, one by one. -/
import Derived.Test.YtgoeocfgajbldaaD
import Derived.RangeFuncNested
import Derived.RangeFuncBound
import Derived.RangeFuncCalls
import Derived.RangeFuncLeaves
import Derived.Shelf.Abstract
import Derived.Shelf.RegionOpen
import Derived.TacticsInMore
import Derived.LoopNIn
import Derived.LoopIn
import Derived.Maps.OwnSet
import Derived.Maps.RangeWalk
import Derived.Sort.MapsRangeIn
namespace Go.Proofs.Ytgoeocfgajbldaa
open Go.RowKit Go.Shelf
open Go.Maps (Keyed)
set_option linter.unusedVariables false

attribute [local go_sem] Oper.semAt_some

/-- A hold as it lies: two slices. -/
structure HV where
  R : Option Addr
  nr : Nat
  cr : Nat
  W : Option Addr
  nw : Nat
  cw : Nat
def HV.v2 (h : HV) : V2 := (.slice h.R h.nr h.cr, .slice h.W h.nw h.cw)
/-- How an element reads. -/
def hR (v : Value) : Option (DataW HV × List MemPlace) :=
  match v with
  | .agg cs => match cs.toList with
    | [.slice a n c, .slice b m d] => some (.held ⟨a, n, c, b, m, d⟩, [])
    | _ => none
  | _ => none
theorem hR_mk (h : HV) : hR (agg2 h.v2) = some (.held h, []) := rfl
theorem hR_inv {v : Value} {z : DataW HV × List MemPlace} (h : hR v = some z) : ∃ p : HV, v = agg2 p.v2 ∧ z = (.held p, []) := by
  cases v with
  | agg cs =>
    obtain ⟨l⟩ := cs
    unfold hR at h
    dsimp only at h
    split at h
    · rename_i a n c b m d
      injection h with h
      exact ⟨⟨a, n, c, b, m, d⟩, rfl, h.symm⟩
    · cases h
  | _ => cases h

abbrev Ent : Type := Int × HV
def ent (e : Ent) : Lit × DataW HV := (.int .i64 e.1, .held e.2)
def dat (E : List Ent) : DataW HV := .map (E.map ent)
theorem sameKey_i (a b : Int) : (Lit.int .i64 a).sameKey (.int .i64 b) = (a == b) := by
  rw [Bool.eq_iff_iff]; simp [Lit.sameKey]
theorem has_dat (E : List Ent) (n : Int) : Maps.has (dat E) (.int .i64 n) = E.any fun e => e.1 == n := by
  show (E.map ent).any _ = _
  rw [List.any_map]
  congr 1
  funext e
  exact sameKey_i _ _
theorem size_dat (E : List Ent) : Maps.size (dat E) = E.length := by
  show (E.map ent).length = _
  simp
theorem del_dat (E : List Ent) (n : Int) : (dat E).del (.int .i64 n) = dat (E.filter fun e => !(e.1 == n)) := by
  show DataW.map ((E.map ent).filter _) = DataW.map _
  rw [List.filter_map]
  congr 2
  apply List.filter_congr
  intro e _
  show (!(Lit.int .i64 e.1).sameKey (.int .i64 n)) = _
  rw [sameKey_i]
/-- One more, by its number. -/
def insE (x : Ent) : List Ent → List Ent
  | [] => [x]
  | y :: r => if x.1 < y.1 then x :: y :: r else y :: insE x r
theorem insert_dat (x : Ent) : ∀ E : List Ent, DataW.insert (ent x) (E.map ent) = (insE x E).map ent
  | [] => rfl
  | y :: r => by
    unfold insE
    show (if (Lit.int .i64 x.1).before (.int .i64 y.1) then _ else _) = _
    rw [show (Lit.int .i64 x.1).before (.int .i64 y.1) = decide (x.1 < y.1) from rfl]
    by_cases h : x.1 < y.1
    · rw [if_pos (decide_eq_true h), if_pos h]; rfl
    · rw [if_neg (by rw [decide_eq_false h]; decide), if_neg h]
      show ent y :: DataW.insert (ent x) (r.map ent) = _
      rw [insert_dat x r]; rfl
theorem put_dat (E : List Ent) (x : Ent) (h : E.any (fun e => e.1 == x.1) = false) : (dat E).put (.int .i64 x.1) (.held x.2) = dat (insE x E) := by
  show DataW.map (DataW.insert (ent x) ((E.map ent).filter _)) = DataW.map _
  rw [List.filter_map, List.filter_eq_self.2 (fun e he => ?_), insert_dat]
  show (!(Lit.int .i64 e.1).sameKey (.int .i64 x.1)) = true
  rw [sameKey_i, List.any_eq_false.1 h e he |> eq_false_of_ne_true]
  rfl
theorem at_dat (E : List Ent) (n : Int) (h : HV) (hat : ∀ zd, (dat E).atKey (.int .i64 n) zd = .held h) : (n, h) ∈ E := by
  have := hat .nil
  unfold dat DataW.atKey at this
  dsimp only at this
  split at this
  · rename_i p hp
    have h1 := List.find?_some hp
    obtain ⟨e, he, rfl⟩ := List.mem_map.1 (List.mem_of_find?_eq_some hp)
    have h2 : (Lit.int .i64 e.1).sameKey (.int .i64 n) = true := h1
    rw [sameKey_i] at h2
    have h3 : e.1 = n := by simpa using h2
    have h4 : DataW.held e.2 = DataW.held h := this
    injection h4 with h4
    rw [← h3, ← h4]
    exact he
  · cases this

/-- Block m is a map of these. -/
def Mp (w : World) (m : Nat) (E : List Ent) : Prop := w.ownsMap Try.prog 3 hR m E.length (dat E)
theorem under3 : Try.prog.underlying 3 = some (.int .i64) := by kernel_rfl
theorem under53 : Try.prog.underlying 53 = some (.map 3 57) := by kernel_rfl
theorem K3 : Keyed Try.prog 3 := Maps.int_keyed under3
theorem Mp.lt {w : World} {m : Nat} {E : List Ent} (h : Mp w m E) : m < w.heap.size := World.ownsMap.lt h
theorem Mp.of {w : World} {m n : Nat} {E : List Ent} (h : w.ownsMap Try.prog 3 hR m n (dat E)) : Mp w m E := by
  obtain ⟨es, clock, hb, F, hs, hD⟩ := h
  refine ⟨es, clock, hb, F, ?_, hD⟩
  have e1 := congrArg Maps.size hD
  rw [size_dat] at e1
  have e2 : Maps.size (DataW.map ((es.toList.map (WideElems.rg Try.prog 3 hR)).foldr DataW.insert [])) = es.size := by simp [Maps.size, length_sorted]
  omega
theorem Mp.touch {S : Nat → Prop} {w w' : World} {m : Nat} {E : List Ent} (h : Mp w m E) (ht : Touch S w w') (hS : ¬ S m) : Mp w' m E := by
  have hlt := h.lt
  obtain ⟨es, clock, hb, F, hs, hD⟩ := h
  exact ⟨es, clock, (ht.block m hlt hS).trans hb, F, hs, hD⟩
theorem Mp.uniq {w : World} {m : Nat} {E : List Ent} (h : Mp w m E) : E.Pairwise fun p q => p.1 ≠ q.1 := by
  obtain ⟨es, he, hp⟩ := World.ownsMap.tidy h K3
  have : es = E.map ent := by injection he with he; exact he.symm
  rw [this, List.pairwise_map] at hp
  exact hp.imp (fun {a b} hab e => hab (by show Lit.int .i64 a.1 = Lit.int .i64 b.1; rw [e]))
theorem uniq_of {E : List Ent} (h : E.Pairwise fun p q => p.1 ≠ q.1) {p q : Ent} (hp : p ∈ E) (hq : q ∈ E) (he : p.1 = q.1) : p = q := by
  induction E with
  | nil => cases hp
  | cons x t ih =>
    obtain ⟨h1, h2⟩ := List.pairwise_cons.1 h
    rcases List.mem_cons.1 hp with e1 | hp' <;> rcases List.mem_cons.1 hq with e2 | hq'
    · rw [e1, e2]
    · rw [e1] at he; exact absurd he (h1 q hq')
    · rw [e2] at he; exact absurd he.symm (h1 p hp')
    · exact ih h2 hp' hq'

/-- All the values. -/
def ValsOf (E : List Ent) (xs : List HV) : Prop := (∀ h, h ∈ xs ↔ ∃ n, (n, h) ∈ E) ∧ xs.length ≤ E.length

set_option maxRecDepth 100000 in
set_option maxHeartbeats 1000000 in
theorem vals1_in (n : Nat) (hn : 1 ≤ n) (l Bm b : Nat) (E : List Ent) (J Jx : List HV → World → Prop)
    (hY : ∀ pre x W, J pre W → pre.length < E.length → YieldAt Fence.wide (n - 1) Try.prog l #[agg2 x.v2] W fun e W' =>
      (e = .returned (.bool true) ∧ J (pre ++ [x]) W' ∧ KeepsWalks W W') ∨ (e = .returned (.bool false) ∧ Jx (pre ++ [x]) W'))
    (W : World) (hJ : AbidesFrom W.heap.size J) (hm : W.cell? ⟨Bm, 0, none⟩ = some (.map (some b))) (hown : Mp W b E) (h0 : J [] W) :
    CallsIn Fence.wide n Try.prog 30 #[.func (.yield l) #[] #[], .pointer (some ⟨Bm, 0, none⟩)] W fun e W' => (∃ v, e = .returned v) ∧
      ((∃ xs, ValsOf E xs ∧ J xs W') ∨ (∃ pre, True ∧ Jx pre W')) := by
  have hu := hown.uniq
  unfold Mp at hown
  refine callsIn_of_wp Try.func30 rfl trivial ?_ rfl
  simp only [Try.ntmps30, List.size_toArray, List.length_cons, List.length_nil, Nat.reduceAdd, Nat.reduceSub, Array.replicate_succ, Array.replicate_zero, List.push_toArray, List.append_toArray, List.nil_append, List.cons_append]
  gi_wp2_with (first
    | (gi_at_range; refine wpListIn_range_own _ rfl _ 53 rfl 3 57 K3 under53 _ b E.length _ rfl hown ?_; intro w0 hrg0 hg0 hs0)
    | gi_in)
  go_frame
  gi_loopw [4] (fun _ wr => ∃ (left : Lit → Bool) (cnt : Nat) (ps : List Ent), wr.ranges Try.prog 3 hR b W.heap.size E.length (dat E) left cnt ∧ ps.length + cnt ≤ E.length ∧ (∀ q ∈ ps, q ∈ E) ∧ (∀ q ∈ E, q ∈ ps ∨ left (.int .i64 q.1) = true) ∧ J (ps.map (·.2)) wr)
    (fun _ wr => wr.rangeLeft b W.heap.size)
  case atStart =>
    refine ⟨_, _, [], hrg0, by rw [size_dat]; simp, by simp, fun q hq => .inr ?_, hJ [] W w0 none h0 hg0 (fun r e => by cases e)⟩
    rw [has_dat]
    exact List.any_eq_true.2 ⟨q, hq, by simp⟩
  case round =>
    obtain ⟨left, cnt, ps, hrg, hcs, hp1, hp2, hJs⟩ := hrel
    gi_wp2_with (first
      | (gi_at_next; refine wpListIn_next_ranges _ rfl _ rfl 3 K3 hR (Value.int .i64) (fun p : HV => .agg #[.slice p.R p.nr p.cr, .slice p.W p.nw p.cw]) (fun key kl hk => by obtain ⟨x, hx, _⟩ := Maps.keyOf_int_inv under3 hk; exact ⟨x, hx⟩) (fun v y hv => by obtain ⟨p, hp, _⟩ := hR_inv hv; exact ⟨p, hp⟩) b W.heap.size E.length _ _ _ rfl hrg ?_ ?_)
      | gi_in)
    · intro hc0 hl0
      gi_wp2
      go_end0
      refine ⟨⟨_, rfl⟩, .inl ⟨ps.map (·.2), ⟨fun h => ?_, by simp; omega⟩, hJs⟩⟩
      constructor
      · intro hh
        obtain ⟨q, hq, rfl⟩ := List.mem_map.1 hh
        exact ⟨q.1, hp1 q hq⟩
      · rintro ⟨m, hm⟩
        rcases hp2 _ hm with h1 | h1
        · exact List.mem_map.2 ⟨_, h1, rfl⟩
        · rw [hl0] at h1; cases h1
    · intro x c kl yd yp w2 cnt2 hkey hlk hv hat hrg2 hlt hg2 hs2 hen
      obtain ⟨x', ex, rfl, _⟩ := Maps.keyOf_int_inv under3 hkey
      injection ex with _ ex
      subst ex
      have hv' : hR (agg2 c.v2) = some (yd, yp) := hv
      rw [hR_mk] at hv'
      obtain rfl : DataW.held c = yd := congrArg Prod.fst (Option.some.inj hv')
      have hcE : (x, c) ∈ E := at_dat E x c hat
      have hJ2 : J (ps.map (·.2)) w2 := hJ _ wr w2 (some W.heap.size) hJs hg2 (fun r e => by cases e; exact ⟨Nat.le_refl _, hrg.iter_walk⟩)
      have hJ3 : J (ps.map (·.2)) (w2.alloc (.cells #[.slice c.R c.nr c.cr, .slice c.W c.nw c.cw] 57)) := hJ _ w2 _ none hJ2 (World.grownBy_alloc w2 _ none) (fun r e => by cases e)
      obtain ⟨fn, tmps, assign, body, hy, hR⟩ := hY (ps.map (·.2)) c _ hJ3 (by simp; omega)
      dsimp only [agg2, HV.v2] at hy
      have hb0 : Blk (w2.alloc (.cells #[.slice c.R c.nr c.cr, .slice c.W c.nw c.cw] 57)) w2.heap.size 57 #[.slice c.R c.nr c.cr, .slice c.W c.nw c.cw] := Blk.new _ _ _
      have d0 := hb0.cell 0
      have d1 := hb0.cell 1
      simp only [List.getElem?_toArray, List.getElem?_cons_zero, List.getElem?_cons_succ] at d0 d1
      have hrg3 := hrg2.alloc (.cells #[.slice c.R c.nr c.cr, .slice c.W c.nw c.cw] 57)
      have HP := Lib.hid (And.intro hp1 (And.intro hp2 (And.intro hcE hu)))
      clear hs2 hb0 hp1 hp2 hcE hu hat hkey hlk hv'
      gi_wp2
      refine hR.mono ?_
      have hp1 := HP.out.1
      have hp2 := HP.out.2.1
      have hps : ∀ q ∈ ps ++ [(x, c)], q ∈ E := fun q hq => (List.mem_append.1 hq).elim (hp1 q) (fun e => by simp at e; rw [e]; exact HP.out.2.2.1)
      have hps2 : ∀ q ∈ E, q ∈ ps ++ [(x, c)] ∨ (left (.int .i64 q.1) && !(Lit.int .i64 q.1).sameKey (.int .i64 x)) = true := fun q hq => by
        rcases hp2 q hq with h1 | h1
        · exact .inl (List.mem_append.2 (.inl h1))
        · by_cases hqx : q.1 = x
          · exact .inl (List.mem_append.2 (.inr (by rw [uniq_of HP.out.2.2.2 hq HP.out.2.2.1 hqx]; simp)))
          · refine .inr ?_
            rw [h1, sameKey_i]
            simp [hqx]
      have HPS := Lib.hid (And.intro hps hps2)
      clear hps hps2 hp1 hp2
      rintro e W3 (⟨rfl, hJ3, hk3⟩ | ⟨rfl, hJx3⟩)
      · gi_wp2
        have hrg4 := hrg3.of_walks hk3
        go_roundw
        case rel => exact ⟨_, cnt2, ps ++ [(x, c)], hrg4, by simp; omega, HPS.out.1, HPS.out.2, by simpa using hJ3⟩
        case measure => rw [hrg4.left_eq, hrg.left_eq]; exact hlt
      · gi_wp2
        refine bodyPost_ret (results_none rfl _ _ _) rfl ?_
        exact ⟨⟨_, rfl⟩, .inr ⟨_, trivial, hJx3⟩⟩

theorem vals_any (w : World) (m : Option Nat) :
    Calls Try.prog 22 #[.map m] w fun e w' => e = .returned (.func (.func 30) #[] #[.pointer (some ⟨w.heap.size, 0, none⟩)]) ∧ w' = w.alloc (.cells #[.map m] 53) := by
  go_enter Try.func22, Try.ntmps22
  go_wp2
  go_ret
  exact ⟨rfl, rfl⟩

theorem vals_stops (n : Nat) (hn : 1 ≤ n) (Bm b : Nat) (E : List Ent) (w : World) (hm : w.cell? ⟨Bm, 0, none⟩ = some (.map (some b))) (hown : Mp w b E) :
    SeqStops Fence.wide n Try.prog 30 #[.pointer (some ⟨Bm, 0, none⟩)] (fun x : HV => agg2 x.v2) (ValsOf E) (fun _ => True) E.length w := fun l J Jx W hW hJ hJx hY h0 =>
  vals1_in n hn l Bm b E J Jx hY W hJ ((hW.cell (p := ⟨Bm, 0, none⟩) (block_lt_of_cell hm)).trans hm) (hown.touch (S := fun _ => False) ⟨hW.os, hW.tape, hW.output, hW.size, fun k hk _ => hW.block k hk⟩ (fun h => h)) h0
end Go.Proofs.Ytgoeocfgajbldaa
