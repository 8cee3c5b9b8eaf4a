/- slices.AppendSeq, slices.Collect of the holds. -/
import Derived.Test.YtgoeocfgajbldaaE
import Derived.WalkMore
import Derived.ScopeJumps
namespace Go.Proofs.Ytgoeocfgajbldaa
open Go.RowKit Go.Shelf
set_option linter.unusedVariables false

attribute [local go_sem] Oper.semAt_some

theorem blk_grown {X Y : World} {row : Option Nat} {b : Nat} {t : TypeId} {cs : Array Value} (h : Blk X b t cs) (hg : X.grownBy Y row) (hr : ∀ r, row = some r → ∃ o : Obj, X.heap[r]? = some o ∧ o.isCells = false) : Blk Y b t cs := by
  refine (hg.block b h.lt (fun e => ?_)).trans h
  obtain ⟨o, ho, hc⟩ := hr b e.symm
  unfold Blk at h
  rw [h] at ho
  cases ho
  cases hc
theorem rw2_grown {X Y : World} {row : Option Nat} {t : TypeId} {A : Option Addr} {cap : Nat} {vs : List V2} (h : Rw2 X t A cap vs) (hg : X.grownBy Y row) (hr : ∀ r, row = some r → ∃ o : Obj, X.heap[r]? = some o ∧ o.isCells = false) : Rw2 Y t A cap vs := by
  rcases h with h | ⟨g, cur, rfl, hb, hrest⟩
  · exact .inl h
  · exact .inr ⟨g, cur, rfl, blk_grown hb hg hr, hrest⟩
theorem touch_grown {S : Nat → Prop} {W0 X Y : World} {row : Option Nat} (h : Touch S W0 X) (hg : X.grownBy Y row) (hr : ∀ r, row = some r → S r) : Touch S W0 Y :=
  h.trans ⟨hg.os, hg.tape, hg.output, hg.size, fun k hk hs => hg.block k hk (fun e => hs (hr k e.symm))⟩ (fun _ _ h => h)
theorem keepsOthers_of_touch {S : Nat → Prop} {W W' : World} (h : Touch S W W') (hS : ∀ b o, S b → W.heap[b]? = some o → o.isCells = true) : KeepsOthers W W' :=
  ⟨h.size, fun k o hk ho => by
    rw [h.block k (Array.getElem?_eq_some_iff.1 hk).1 (fun hs => by rw [hS k o hs hk] at ho; cases ho)]
    exact hk⟩
theorem blk_cells {w : World} {b : Nat} {t : TypeId} {cs : Array Value} (h : Blk w b t cs) (o : Obj) (ho : w.heap[b]? = some o) : o.isCells = true := by
  unfold Blk at h; rw [h] at ho; cases ho; rfl
theorem rw2_cells {w : World} {t : TypeId} {A : Option Addr} {cap : Nat} {vs : List V2} (h : Rw2 w t A cap vs) (b : Nat) (o : Obj) (hb : ∃ a, A = some a ∧ a.block = b) (ho : w.heap[b]? = some o) : o.isCells = true := by
  obtain ⟨a, ha, rfl⟩ := hb
  rcases h with ⟨h0, _⟩ | ⟨g, cur, hg, hb, _⟩
  · rw [h0] at ha; cases ha
  · rw [hg] at ha; injection ha with ha; subst ha; exact blk_cells hb o ho
theorem Rw2.ne_blk {w : World} {t t' : TypeId} {A : Option Addr} {cap g : Nat} {l : List V2} {cs : Array Value} (h : Rw2 w t A cap l) (hb : Blk w g t' cs) (hne : t ≠ t') : ∀ a, A = some a → a.block ≠ g := fun a ha => by
  rcases h with ⟨h0, _⟩ | ⟨g', cur, hg, hb', _⟩
  · rw [h0] at ha; cases ha
  · rw [hg] at ha; injection ha with ha; subst ha
    exact hb'.ne_ hb hne

theorem one2_hv (l : List HV) : One2 (l.map HV.v2) := fun p hp => by
  obtain ⟨s, _, rfl⟩ := List.mem_map.1 hp
  exact ⟨rfl, rfl⟩

/-- What the loop keeps. -/
def AsI (ob N0 : Nat) (W0 : World) (pre : List HV) (W : World) : Prop :=
  ∃ (A : Option Addr) (cap : Nat), Blk W ob 60 #[.slice A pre.length cap] ∧ Rw2 W 57 A cap (pre.map HV.v2) ∧ (∀ a, A = some a → N0 ≤ a.block) ∧ Touch (fun b => b = ob ∨ N0 ≤ b) W0 W
theorem asI_own (ob N0 : Nat) (W0 : World) : OwnFrom N0 (AsI ob N0 W0) := by
  rintro s X Y row ⟨A, cap, h1, h2, h3, h4⟩ hg hr
  have hr' : ∀ r, row = some r → ∃ o : Obj, X.heap[r]? = some o ∧ o.isCells = false := fun r e => (hr r e).2
  exact ⟨A, cap, blk_grown h1 hg hr', rw2_grown h2 hg hr', h3, touch_grown h4 hg (fun r e => .inr (hr r e).1)⟩

/-- Behind a round. -/
theorem as_push {ob N0 : Nat} {W0 W W5 w3 : World} {A2 A3 : Option Addr} {cap2 cap3 : Nat} {pre : List HV} {x : HV}
    (hb : Blk W ob 60 #[.slice A2 pre.length cap2]) (hr : Rw2 W 57 A2 cap2 (pre.map HV.v2)) (hf : ∀ a, A2 = some a → N0 ≤ a.block) (hT : Touch (fun b => b = ob ∨ N0 ≤ b) W0 W) (hN : N0 ≤ W.heap.size)
    (hT5 : Touch (fun _ => False) W W5) (hr3 : Rw2 w3 57 A3 cap3 (pre.map HV.v2 ++ [x.v2])) (hT3 : Touch (fun b => ∃ a, A2 = some a ∧ a.block = b) W5 w3)
    (hf3 : ∀ a, A3 = some a → (∃ a0, A2 = some a0 ∧ a0.block = a.block) ∨ W5.heap.size ≤ a.block) :
    KeepsOthers W (w3.setCell ⟨ob, 0, none⟩ (.slice A3 (pre.length + 1) cap3)) ∧ AsI ob N0 W0 (pre ++ [x]) (w3.setCell ⟨ob, 0, none⟩ (.slice A3 (pre.length + 1) cap3)) := by
  have hT4 : Touch (fun b => b = ob ∨ ∃ a, A2 = some a ∧ a.block = b) W (w3.setCell ⟨ob, 0, none⟩ (.slice A3 (pre.length + 1) cap3)) :=
    ((hT5.weaken (fun _ _ h => h.elim)).trans hT3 (fun _ _ h => .inr h)).setCell (p := ⟨ob, 0, none⟩) (.inr (.inl rfl)) _
  have hob : ∀ a, A2 = some a → a.block ≠ ob := hr.ne_blk hb (by decide)
  have hb5 := hb.touch hT5 (fun h => h)
  have hb3 := hb5.touch hT3 (fun ⟨a, ha, e⟩ => hob a ha e)
  have hob3 : ∀ a, A3 = some a → a.block ≠ ob := hr3.ne_blk hb3 (by decide)
  refine ⟨keepsOthers_of_touch hT4 (fun b o h ho => ?_), A3, cap3, ?_, ?_, fun a ha => ?_, hT.trans (hT4.weaken (fun b _ h => ?_)) (fun _ _ h => h)⟩
  · rcases h with rfl | h
    · exact blk_cells hb o ho
    · exact rw2_cells hr b o h ho
  · have := hb3.set_ 0 (.slice A3 (pre.length + 1) cap3)
    simpa using this
  · rw [List.map_append]
    exact hr3.touch ((Touch.refl (fun b => b = ob) w3).setCell (p := ⟨ob, 0, none⟩) (.inr rfl) _) (fun a ha e => hob3 a ha e)
  · rcases hf3 a ha with ⟨a0, h0, h1⟩ | h
    · rw [← h1]; exact hf a0 h0
    · have := hT5.size; omega
  · rcases h with h | ⟨a, ha, rfl⟩
    · exact .inl h
    · exact .inr (hf a ha)

theorem enter30 (cap : Array Value) (w : World) : (callFunc 30 cap).run Try.prog w = .ok (.enter 30 cap) w := by kernel_rfl

/-- All the values, in a row. -/
def CollPost (E : List Ent) (w : World) (e : Ending) (w' : World) : Prop :=
  ∃ (A : Option Addr) (cap : Nat) (xs : List HV), e = .returned (.slice A xs.length cap) ∧ Rw2 w' 57 A cap (xs.map HV.v2) ∧ ValsOf E xs ∧ Touch (fun _ => False) w w'

set_option maxHeartbeats 2000000 in
theorem append_any (w : World) (Bm m : Nat) (E : List Ent) (hm : w.cell? ⟨Bm, 0, none⟩ = some (.map (some m))) (hown : Mp w m E) (hE : E.length ≤ 1000) :
    Calls Try.prog 29 #[.slice none 0 0, .func (.func 30) #[] #[.pointer (some ⟨Bm, 0, none⟩)]] w (CollPost E w) := by
  obtain ⟨w1, hw1⟩ : ∃ w1, w1 = w.alloc (.cells #[.slice none 0 0] 60) := ⟨_, rfl⟩
  have hT1 : Touch (fun _ => False) w w1 := by rw [hw1]; exact (Touch.refl _ w).alloc _
  have hs1 : w1.heap.size = w.heap.size + 1 := by rw [hw1]; simp
  have hbo : Blk w1 w.heap.size 60 #[.slice none 0 0] := by rw [hw1]; exact Blk.new _ _ _
  have hm1 : w1.cell? ⟨Bm, 0, none⟩ = some (.map (some m)) := hT1.cell hm (fun h => h)
  have hown1 : Mp w1 m E := hown.touch hT1 (fun h => h)
  have HM := Lib.hid (And.intro hm1 hown1)
  have HW := Lib.hid (And.intro hw1 (And.intro hs1 (And.intro hbo hT1)))
  clear hw1 hs1 hbo hm hown hT1 hm1 hown1
  refine callsIn_wide.1 (?_ : CallsIn Fence.wide 3 Try.prog 29 _ w _)
  refine callsIn_of_wp_marks Try.func29 rfl trivial ?_ rfl
  simp only [Try.ntmps29, List.size_toArray, List.length_cons, List.length_nil, Nat.reduceAdd, Nat.reduceSub, Array.replicate_succ, Array.replicate_zero, List.push_toArray, List.append_toArray, List.nil_append, List.cons_append]
  refine wpIn_wide.2 ?_
  go_wp2
  rw [← HW.out.1]
  have hI0 : AsI w.heap.size w1.heap.size w1 [] w1 := ⟨none, 0, HW.out.2.2.1, Rw2.nil _ _, (fun a h => by cases h), Touch.refl _ _⟩
  refine wpIn_wide.1 (wpIn_rangeFunc_ownH (F := Fence.wide) (n := 3) rfl (by omega) (gf := 30) (lb := #[.pointer (some ⟨Bm, 0, none⟩)]) rfl trivial enter30
    (encs := fun x : HV => #[agg2 x.v2]) (Kp := KeepsWalks) (vals_stops 2 (by omega) Bm m E w1 HM.out.1 HM.out.2)
    walksK_t walksK_b (Below.refl _ _) (fun _ => rfl)
    (AsI w.heap.size w1.heap.size w1) (fun _ _ _ => False)
    (asI_own _ _ _) (fun _ _ _ _ _ hs _ _ => hs) hI0
    (fun x a' W => ∃ Bx, w1.heap.size ≤ Bx ∧ Blk W Bx 57 #[.slice x.R x.nr x.cr, .slice x.W x.nw x.cw] ∧ a' = { tmps := #[.slice none 0 0, .func (.func 30) #[] #[.pointer (some ⟨Bm, 0, none⟩)], .pointer (some ⟨w.heap.size, 0, none⟩), undef, .slice none 0 0, .pointer (some ⟨Bx, 0, none⟩), .func (.func 30) #[] #[.pointer (some ⟨Bm, 0, none⟩)], .agg #[.slice x.R x.nr x.cr, .slice x.W x.nw x.cw], undef, undef, undef, undef, undef], defers := [] })
    (fun x a' _ X Y row hs hg hr => by obtain ⟨Bx, h1, h2, h3⟩ := hs; exact ⟨Bx, h1, blk_grown h2 hg (fun r e => (hr r e).2), h3⟩)
    ?assign ?body ?done ?stop)
  case assign =>
    rintro l pre x W K ⟨A2, cap2, hb, hr, hf, hT⟩ hK
    dsimp only [agg2, HV.v2]
    have hN := hT.size
    gi_wp2
    have hTa : Touch (fun _ => False) W (W.alloc (.cells #[.slice x.R x.nr x.cr, .slice x.W x.nw x.cw] 57)) := (Touch.refl _ W).alloc _
    exact hK _ _ ((KeepsOthers.alloc _ _).from _) ((KeepsOthers.alloc _ _).walks) ⟨A2, cap2, hb.alloc _, hr.touch hTa (fun _ _ h => h), hf, hT.alloc _⟩ ⟨W.heap.size, hN, Blk.new W 57 _, rfl⟩
  case body =>
    rintro l pre x a' W hl ⟨r, hrl⟩ ⟨A2, cap2, hb, hr, hf, hT⟩ ⟨Bx, hBx, bX, rfl⟩ hlt
    have bo := hb.cell 0
    have d0 := bX.cell 0
    have d1 := bX.cell 1
    simp only [List.getElem?_toArray, List.getElem?_cons_zero, List.getElem?_cons_succ] at bo d0 d1
    have hN := hT.size
    have hT5 : Touch (fun _ => False) W (W.alloc (.cells #[.slice x.R x.nr x.cr, .slice x.W x.nw x.cw] 57)) := (Touch.refl _ W).alloc _
    have hr5 := hr.touch hT5 (fun _ _ h => h)
    have hob : ∀ a, A2 = some a → a.block ≠ w.heap.size := hr.ne_blk hb (by decide)
    have hn5 : Row2 (W.alloc (.cells #[.slice x.R x.nr x.cr, .slice x.W x.nw x.cw] 57)) (some ⟨W.heap.size, 0, none⟩) [x.v2] := (Rw2.new W 57 [x.v2] (by simp)).row
    have hs5 := src2 el57 hn5 (by rintro p hp; simp at hp; subst hp; exact ⟨rfl, rfl⟩) 1 1 rfl
    have HR := Lib.hid (And.intro hb (And.intro hr (And.intro hf (And.intro hT (And.intro hT5 (And.intro hr5 (And.intro hob hs5)))))))
    clear hb hr hf hT hT5 hr5 hob hs5 hn5 bX hrl
    have hl' : pre.length ≤ 1000 := by omega
    gi_wp2_with (gi_at_builtin; refine wpListIn_rw2_push el57 rfl (.tmp 8) (.tmp 10) rfl A2 cap2 pre.length 1 (pre.map HV.v2) [x.v2] (by simp) rfl rfl (.slice (some ⟨W.heap.size, 0, none⟩) 1 1) rfl HR.out.2.2.2.2.2.2.2 HR.out.2.2.2.2.2.1 (by omega) ?_; intro A3 cap3 w3 hr3 hT3 hf3; have hb3 := ((HR.out.1.touch HR.out.2.2.2.2.1 (fun h => h)).touch hT3 (fun ⟨a, ha, e⟩ => HR.out.2.2.2.2.2.2.1 a ha e)); have hc3 := hb3.cell 0; have hz3 := hb3.frozen 0; simp only [List.getElem?_toArray, List.getElem?_cons_zero] at hc3; have HR3 := Lib.hid (And.intro hr3 (And.intro hT3 hf3)); clear hr3 hT3 hf3 hb3)
    have hp := as_push (x := x) HR.out.1 HR.out.2.1 HR.out.2.2.1 HR.out.2.2.2.1 hN HR.out.2.2.2.2.1 HR3.out.1 HR3.out.2.1 HR3.out.2.2
    exact ⟨hp.1.from _, hp.1.walks, hp.2⟩
  case done =>
    rintro D xs W hD hS ⟨A2, cap2, hb, hr, hf, hT⟩ hK
    have hc := hb.cell 0
    simp at hc
    go_wp2
    refine ⟨by simp, .inl ⟨_, _, rfl, run_takeDeferred hK, ?_⟩⟩
    have hT' : Touch (fun b => b = w.heap.size ∨ w1.heap.size ≤ b) w1 (W.putObj D (.deferred none)) := touch_grown hT (grownBy_putObj' W D _) (fun r e => by cases e; exact .inr hD)
    have hr' : Rw2 (W.putObj D (.deferred none)) 57 A2 cap2 (xs.map HV.v2) := rw2_grown hr (grownBy_putObj' W D _) (fun r e => by cases e; exact ⟨_, hK, rfl⟩)
    refine ⟨_, results_tmp rfl _ _ _, A2, cap2, xs, rfl, hr', hS, ?_⟩
    exact HW.out.2.2.2.trans hT' (fun b hb h => by have := HW.out.2.1; omega)
  case stop =>
    rintro D c pre W _ _ h _
    exact h.elim

theorem collect_any (w : World) (Bm m : Nat) (E : List Ent) (hm : w.cell? ⟨Bm, 0, none⟩ = some (.map (some m))) (hown : Mp w m E) (hE : E.length ≤ 1000) :
    Calls Try.prog 21 #[.func (.func 30) #[] #[.pointer (some ⟨Bm, 0, none⟩)]] w (CollPost E w) := by
  have H := Lib.hid (append_any w Bm m E hm hown hE)
  clear hm hown hE
  go_enter Try.func21, Try.ntmps21
  go_wp2_with fail
  refine H.out.mono ?_
  rintro e w1 ⟨A, cap, xs, rfl, h⟩
  have HH := Lib.hid h
  clear h
  go_wp2
  go_ret
  exact ⟨A, cap, xs, rfl, HH.out⟩
end Go.Proofs.Ytgoeocfgajbldaa
