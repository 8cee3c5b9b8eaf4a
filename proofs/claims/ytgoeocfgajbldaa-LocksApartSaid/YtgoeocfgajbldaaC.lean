/- desc.Meet. -/
import Derived.Test.YtgoeocfgajbldaaB
namespace Go.Proofs.Ytgoeocfgajbldaa
open Go.RowKit
set_option linter.unusedVariables false

def spV2 (s : Sp) : V2 := (.int .i64 s.1, .int .i64 s.2)
def spOf (v : V2) : Sp := (match v.1 with | .int _ a => a.toNat | _ => 0, match v.2 with | .int _ a => a.toNat | _ => 0)
theorem spOf_spV2 (s : Sp) : spOf (spV2 s) = s := by simp [spOf, spV2]
def AllSmall (l : List Sp) : Prop := ∀ s ∈ l, Small s
/-- Do two lists meet? -/
def meetB (l r : List Sp) : Bool := l.any fun s => r.any fun t => meetsB s t
theorem any_sp (l : List Sp) (P : Sp → Bool) : (l.map spV2).any (fun v => P (spOf v)) = l.any P := by
  rw [List.any_map]
  rfl
theorem mem_sp {l : List Sp} {p : V2} (h : p ∈ l.map spV2) : ∃ s ∈ l, p = spV2 s := by
  obtain ⟨s, h1, h2⟩ := List.mem_map.1 h
  exact ⟨s, h1, h2.symm⟩

theorem enter38 (a : Nat) (v : Value) (w : World) : (callFunc 38 (#[v] ++ #[.pointer (some ⟨a, 0, none⟩)])).run Try.prog w = .ok (.enter 38 (#[v] ++ #[.pointer (some ⟨a, 0, none⟩)])) w := by kernel_rfl
theorem enter37 (a : Nat) (v : Value) (w : World) : (callFunc 37 (#[v] ++ #[.pointer (some ⟨a, 0, none⟩)])).run Try.prog w = .ok (.enter 37 (#[v] ++ #[.pointer (some ⟨a, 0, none⟩)])) w := by kernel_rfl

theorem f38_any (w : World) (p : Nat) (s t : Sp) (hs : Small s) (ht : Small t) (hb : Blk w p 52 #[.int .i64 s.1, .int .i64 s.2]) :
    Calls Try.prog 38 #[spV t, .pointer (some ⟨p, 0, none⟩)] w fun e w' => e = .returned (.bool (meetsB s t)) ∧ Touch (fun _ => False) w w' := by
  obtain ⟨W, hW⟩ : ∃ W, W = w.alloc (.cells #[.int .i64 t.1, .int .i64 t.2] 52) := ⟨_, rfl⟩
  have hT : Touch (fun _ => False) w W := by rw [hW]; exact (Touch.refl _ w).alloc _
  have hb1 : Blk W w.heap.size 52 #[.int .i64 t.1, .int .i64 t.2] := by rw [hW]; exact Blk.new w _ _
  have c0 := (hb.touch hT (fun h => h)).cell 0
  have c1 := (hb.touch hT (fun h => h)).cell 1
  have d0 := hb1.cell 0
  have d1 := hb1.cell 1
  simp only [List.getElem?_toArray, List.getElem?_cons_zero, List.getElem?_cons_succ] at c0 c1 d0 d1
  have H := Lib.hid (And.intro hT (fun w => meets_any w s t hs ht))
  clear hT hb hs ht hb1
  obtain ⟨R, hR⟩ : ∃ R, R = meetsB s t := ⟨_, rfl⟩
  rw [← hR] at H ⊢
  clear hR
  obtain ⟨a, n⟩ := s
  obtain ⟨b, m⟩ := t
  unfold spV at H ⊢
  dsimp only at hW c0 c1 d0 d1 H ⊢
  go_enter Try.func38, Try.ntmps38
  go_upto_region 1 with fail
  refine Eq.mp (congrArg (fun x => Code.wp _ _ _ _ x) hW) ?_
  clear hW
  go_wp2_with fail
  refine (H.out.2 _).mono ?_
  rintro e w1 ⟨rfl, hT1⟩
  go_wp2
  go_ret
  exact ⟨rfl, H.out.1.trans hT1 (fun _ _ h => h)⟩

theorem f37_any (w : World) (p : Nat) (s : Sp) (B : Option Addr) (cb : Nat) (r : List Sp) (hs : Small s) (hr : AllSmall r) (hl : r.length ≤ 100000) (hrow : Row2 w B (r.map spV2)) (hb : Blk w p 22 #[.slice B r.length cb]) :
    Calls Try.prog 37 #[spV s, .pointer (some ⟨p, 0, none⟩)] w fun e w' => e = .returned (.bool (r.any fun t => meetsB s t)) ∧ Touch (fun _ => False) w w' := by
  obtain ⟨W, hW⟩ : ∃ W, W = w.alloc (.cells #[.int .i64 s.1, .int .i64 s.2] 52) := ⟨_, rfl⟩
  have hT : Touch (fun _ => False) w W := by rw [hW]; exact (Touch.refl _ w).alloc _
  have hb1 : Blk W w.heap.size 52 #[.int .i64 s.1, .int .i64 s.2] := by rw [hW]; exact Blk.new w _ _
  have c0 := (hb.touch hT (fun h => h)).cell 0
  simp only [List.getElem?_toArray, List.getElem?_cons_zero] at c0
  have hc := has36_any W B cb r.length 38 (r.map spV2) (by simp) (hrow.touch0 hT) #[.pointer (some ⟨w.heap.size, 0, none⟩)] (fun v => meetsB s (spOf v)) hl (fun v w => enter38 _ v w)
    (fun q hq w' ht => by
      obtain ⟨t, htr, rfl⟩ := mem_sp hq
      rw [spOf_spV2]
      exact f38_any w' w.heap.size s t hs (hr t htr) (hb1.touch ht (fun h => h)))
  rw [any_sp] at hc
  obtain ⟨R, hR⟩ : ∃ R, R = r.any fun t => meetsB s t := ⟨_, rfl⟩
  rw [← hR] at hc ⊢
  have H := Lib.hid (And.intro hc hT)
  clear hR hc hT hb hb1 hs hr hrow
  obtain ⟨a, n⟩ := s
  unfold spV
  dsimp only at hW ⊢
  go_enter Try.func37, Try.ntmps37
  go_upto_region 1 with fail
  refine Eq.mp (congrArg (fun x => Code.wp _ _ _ _ x) hW) ?_
  clear hW
  go_wp2_with fail
  refine H.out.1.mono ?_
  rintro e w1 ⟨rfl, hT1⟩
  go_wp2
  go_ret
  exact ⟨rfl, H.out.2.trans hT1 (fun _ _ h => h)⟩

theorem meet_any (w : World) (A B : Option Addr) (ca cb : Nat) (l r : List Sp) (hl : AllSmall l) (hr : AllSmall r) (ll : l.length ≤ 100000) (lr : r.length ≤ 100000) (rl : Row2 w A (l.map spV2)) (rr : Row2 w B (r.map spV2)) :
    Calls Try.prog 32 #[.slice A l.length ca, .slice B r.length cb] w fun e w' => e = .returned (.bool (meetB l r)) ∧ Touch (fun _ => False) w w' := by
  obtain ⟨W, hW⟩ : ∃ W, W = w.alloc (.cells #[.slice B r.length cb] 22) := ⟨_, rfl⟩
  have hT : Touch (fun _ => False) w W := by rw [hW]; exact (Touch.refl _ w).alloc _
  have hb1 : Blk W w.heap.size 22 #[.slice B r.length cb] := by rw [hW]; exact Blk.new w _ _
  have hc := has36_any W A ca l.length 37 (l.map spV2) (by simp) (rl.touch0 hT) #[.pointer (some ⟨w.heap.size, 0, none⟩)] (fun v => r.any fun t => meetsB (spOf v) t) ll (fun v w => enter37 _ v w)
    (fun q hq w' ht => by
      obtain ⟨s, hsl, rfl⟩ := mem_sp hq
      rw [spOf_spV2]
      exact f37_any w' w.heap.size s B cb r (hl s hsl) hr lr ((rr.touch0 hT).touch0 ht) (hb1.touch ht (fun h => h)))
  rw [any_sp l (fun s => r.any fun t => meetsB s t)] at hc
  obtain ⟨R, hR⟩ : ∃ R, R = meetB l r := ⟨_, rfl⟩
  rw [show (l.any fun s => r.any fun t => meetsB s t) = meetB l r from rfl, ← hR] at hc
  rw [← hR]
  have H := Lib.hid (And.intro hc hT)
  clear hR hc hT hb1 hl hr rl rr
  go_enter Try.func32, Try.ntmps32
  go_upto_region 1 with fail
  refine Eq.mp (congrArg (fun x => Code.wp _ _ _ _ x) hW) ?_
  clear hW
  go_wp2_with fail
  refine H.out.1.mono ?_
  rintro e w1 ⟨rfl, hT1⟩
  go_wp2
  go_ret
  exact ⟨rfl, H.out.2.trans hT1 (fun _ _ h => h)⟩

/-- A hold: what is read, what is written; as it lies. -/
structure Hd where
  R : Option Addr
  cr : Nat
  reads : List Sp
  W : Option Addr
  cw : Nat
  writes : List Sp
def hdV2 (h : Hd) : V2 := (.slice h.R h.reads.length h.cr, .slice h.W h.writes.length h.cw)
def HdOk (w : World) (h : Hd) : Prop := AllSmall h.reads ∧ AllSmall h.writes ∧ h.reads.length ≤ 100000 ∧ h.writes.length ≤ 100000 ∧ Row2 w h.R (h.reads.map spV2) ∧ Row2 w h.W (h.writes.map spV2)
theorem HdOk.touch {S : Nat → Prop} {w w' : World} {h : Hd} (hh : HdOk w h) (ht : Touch S w w') (h1 : ∀ a, h.R = some a → h.reads ≠ [] → ¬ S a.block) (h2 : ∀ a, h.W = some a → h.writes ≠ [] → ¬ S a.block) : HdOk w' h := by
  obtain ⟨a, b, c, d, e, f⟩ := hh
  exact ⟨a, b, c, d, e.touch ht (fun x hx hn _ => h1 x hx (by rintro he; exact hn (by rw [he]; rfl))), f.touch ht (fun x hx hn _ => h2 x hx (by rintro he; exact hn (by rw [he]; rfl)))⟩
theorem HdOk.touch0 {w w' : World} {h : Hd} (hh : HdOk w h) (ht : Touch (fun _ => False) w w') : HdOk w' h := hh.touch ht (fun _ _ _ h => h) (fun _ _ _ h => h)
/-- Does it clash with spans that are read, or written? -/
def clashB (h : Hd) (l : List Sp) (wr : Bool) : Bool := meetB h.writes l || (wr && meetB h.reads l)

theorem clash_any (w : World) (h : Hd) (A : Option Addr) (c : Nat) (l : List Sp) (wr : Bool) (hh : HdOk w h) (hl : AllSmall l) (ll : l.length ≤ 100000) (rl : Row2 w A (l.map spV2)) :
    Calls Try.prog 25 #[agg2 (hdV2 h), .slice A l.length c, .bool wr] w fun e w' => e = .returned (.bool (clashB h l wr)) ∧ Touch (fun _ => False) w w' := by
  obtain ⟨W, hW⟩ : ∃ W, W = w.alloc (.cells #[.slice h.R h.reads.length h.cr, .slice h.W h.writes.length h.cw] 57) := ⟨_, rfl⟩
  have hT : Touch (fun _ => False) w W := by rw [hW]; exact (Touch.refl _ w).alloc _
  have hb1 : Blk W w.heap.size 57 #[.slice h.R h.reads.length h.cr, .slice h.W h.writes.length h.cw] := by rw [hW]; exact Blk.new w _ _
  have hh1 := hh.touch0 hT
  have m1 := meet_any W h.W A h.cw c h.writes l hh1.2.1 hl hh1.2.2.2.1 ll hh1.2.2.2.2.2 (rl.touch0 hT)
  have m2 := fun w' (ht : Touch (fun _ => False) W w') => meet_any w' h.R A h.cr c h.reads l hh1.1 hl hh1.2.2.1 ll (hh1.touch0 ht).2.2.2.2.1 ((rl.touch0 hT).touch0 ht)
  have c1 := hb1.cell 1
  simp only [List.getElem?_toArray, List.getElem?_cons_zero, List.getElem?_cons_succ] at c1
  unfold clashB
  obtain ⟨x, hx⟩ : ∃ x, x = meetB h.writes l := ⟨_, rfl⟩
  obtain ⟨y, hy⟩ : ∃ y, y = meetB h.reads l := ⟨_, rfl⟩
  rw [← hx] at m1 ⊢
  rw [← hy] at m2 ⊢
  have H := Lib.hid (And.intro m1 (And.intro m2 (And.intro hT hb1)))
  clear m1 m2 hT hb1 hh hh1 hl rl hx hy
  unfold agg2 hdV2
  dsimp only
  go_enter Try.func25, Try.ntmps25
  go_upto_region 1 with fail
  refine Eq.mp (congrArg (fun x => Code.wp _ _ _ _ x) hW) ?_
  clear hW
  go_wp2_with fail
  refine H.out.1.mono ?_
  rintro e w1 ⟨rfl, hT1⟩
  have HT1 := Lib.hid (And.intro hT1 (H.out.2.2.1.trans hT1 (fun _ _ h => h)))
  have c0 := (H.out.2.2.2.touch hT1 (fun h => h)).cell 0
  simp only [List.getElem?_toArray, List.getElem?_cons_zero] at c0
  clear hT1 c1
  cases x with
  | true =>
    go_wp2
    go_ret
    exact ⟨rfl, HT1.out.2⟩
  | false =>
    cases wr with
    | false =>
      go_wp2
      go_ret
      exact ⟨rfl, HT1.out.2⟩
    | true =>
      go_wp2_with fail
      refine (H.out.2.1 _ HT1.out.1).mono ?_
      rintro e w2 ⟨rfl, hT2⟩
      have HT2 := Lib.hid (HT1.out.2.trans hT2 (fun _ _ h => h))
      clear hT2
      go_wp2
      go_ret
      exact ⟨by cases y <;> rfl, HT2.out⟩

theorem enter24 (a b : Nat) (v : Value) (w : World) : (callFunc 24 (#[v] ++ #[.pointer (some ⟨a, 0, none⟩), .pointer (some ⟨b, 0, none⟩)])).run Try.prog w = .ok (.enter 24 (#[v] ++ #[.pointer (some ⟨a, 0, none⟩), .pointer (some ⟨b, 0, none⟩)])) w := by kernel_rfl
theorem f24_any (w : World) (h : Hd) (p q : Nat) (A : Option Addr) (c : Nat) (l : List Sp) (wr : Bool) (hh : HdOk w h) (hl : AllSmall l) (ll : l.length ≤ 100000) (rl : Row2 w A (l.map spV2)) (h1 : Blk w p 22 #[.slice A l.length c]) (h2 : Blk w q 4 #[.bool wr]) :
    Calls Try.prog 24 #[agg2 (hdV2 h), .pointer (some ⟨p, 0, none⟩), .pointer (some ⟨q, 0, none⟩)] w fun e w' => e = .returned (.bool (clashB h l wr)) ∧ Touch (fun _ => False) w w' := by
  obtain ⟨W, hW⟩ : ∃ W, W = w.alloc (.cells #[.slice h.R h.reads.length h.cr, .slice h.W h.writes.length h.cw] 57) := ⟨_, rfl⟩
  have hT : Touch (fun _ => False) w W := by rw [hW]; exact (Touch.refl _ w).alloc _
  have c0 := (h1.touch hT (fun h => h)).cell 0
  have c1 := (h2.touch hT (fun h => h)).cell 0
  have hb0 : Blk W w.heap.size 57 #[.slice h.R h.reads.length h.cr, .slice h.W h.writes.length h.cw] := by rw [hW]; exact Blk.new w _ _
  have d0 := hb0.cell 0
  have d1 := hb0.cell 1
  simp only [List.getElem?_toArray, List.getElem?_cons_zero, List.getElem?_cons_succ] at c0 c1 d0 d1
  have hc := clash_any W h A c l wr (hh.touch0 hT) hl ll (rl.touch0 hT)
  obtain ⟨R, hR⟩ : ∃ R, R = clashB h l wr := ⟨_, rfl⟩
  rw [← hR] at hc ⊢
  have H := Lib.hid (And.intro hc hT)
  clear hR hc hT hb0 h1 h2 hh hl rl
  unfold agg2 hdV2 at H ⊢
  dsimp only at H ⊢
  go_enter Try.func24, Try.ntmps24
  go_upto_region 1 with fail
  refine Eq.mp (congrArg (fun x => Code.wp _ _ _ _ x) hW) ?_
  clear hW
  go_wp2_with fail
  refine H.out.1.mono ?_
  rintro e w1 ⟨rfl, hT1⟩
  go_wp2
  go_ret
  exact ⟨rfl, H.out.2.trans hT1 (fun _ _ h => h)⟩
end Go.Proofs.Ytgoeocfgajbldaa
