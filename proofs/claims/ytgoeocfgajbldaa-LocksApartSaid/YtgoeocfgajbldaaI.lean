/- Locks: what they are; Busy. -/
import Derived.Test.YtgoeocfgajbldaaG
namespace Go.Proofs.Ytgoeocfgajbldaa
open Go.RowKit
set_option linter.unusedVariables false

abbrev LE : Type := Int × Hd
def hdHV (h : Hd) : HV := ⟨h.R, h.reads.length, h.cr, h.W, h.writes.length, h.cw⟩
def entL (e : LE) : Ent := (e.1, hdHV e.2)
/-- A hold's rows lie in blocks of spans. -/
def HdT (w : World) (h : Hd) : Prop := (∀ a, h.R = some a → ∃ cs, Blk w a.block 52 cs) ∧ (∀ a, h.W = some a → ∃ cs, Blk w a.block 52 cs)
theorem HdT.touch {S : Nat → Prop} {w w' : World} {h : Hd} (hh : HdT w h) (ht : Touch S w w') (hS : ∀ b cs, Blk w b 52 cs → ¬ S b) : HdT w' h :=
  ⟨fun a ha => by obtain ⟨cs, hb⟩ := hh.1 a ha; exact ⟨cs, hb.touch ht (hS _ _ hb)⟩, fun a ha => by obtain ⟨cs, hb⟩ := hh.2 a ha; exact ⟨cs, hb.touch ht (hS _ _ hb)⟩⟩
/-- The locks: their map, the holds in it. -/
structure Lk (w : World) (k m : Nat) (L : List LE) : Prop where
  blk : Blk w k 55 #[.map (some m)]
  mp : Mp w m (L.map entL)
  ok : ∀ e ∈ L, HdOk w e.2
  len : L.length ≤ 1000
  ty : ∀ e ∈ L, HdT w e.2
theorem cells_ne_map {w : World} {m : Nat} {E : List Ent} (h : Mp w m E) {a : Addr} {v : Value} (hc : w.cell? a = some v) : a.block ≠ m := by
  rintro rfl
  obtain ⟨es, clock, hb, _⟩ := h
  unfold World.cell? at hc
  rw [hb] at hc
  cases hc
theorem Mp.row_ne {w : World} {m : Nat} {E : List Ent} (h : Mp w m E) {A : Option Addr} {l : List V2} (hr : Row2 w A l) (hl : l ≠ []) : ∀ a, A = some a → a.block ≠ m := fun a ha => by
  cases l with
  | nil => exact absurd rfl hl
  | cons p t =>
    obtain ⟨g, off, hA, c1, c2⟩ := hr 0 p rfl
    rw [hA] at ha; injection ha with ha; subst ha
    exact cells_ne_map h c1
theorem HdOk.map {w w' : World} {m : Nat} {E : List Ent} {h : Hd} (hh : HdOk w h) (hm : Mp w m E) (ht : Touch (fun b => b = m) w w') : HdOk w' h :=
  hh.touch ht (fun a ha hn => hm.row_ne hh.2.2.2.2.1 (by simpa using hn) a ha) (fun a ha hn => hm.row_ne hh.2.2.2.2.2 (by simpa using hn) a ha)
theorem Lk.touch {w w' : World} {k m : Nat} {L : List LE} (h : Lk w k m L) (ht : Touch (fun _ => False) w w') : Lk w' k m L :=
  ⟨h.blk.touch ht (fun h => h), h.mp.touch ht (fun h => h), fun e he => (h.ok e he).touch0 ht, h.len, fun e he => (h.ty e he).touch ht (fun _ _ _ h => h)⟩

theorem row_uniq {w : World} {A : Option Addr} {l l' : List Sp} (h : Row2 w A (l.map spV2)) (h' : Row2 w A (l'.map spV2)) (hl : l.length = l'.length) : l = l' := by
  apply List.ext_getElem?
  intro i
  rcases Nat.lt_or_ge i l.length with hi | hi
  · obtain ⟨s, hs⟩ : ∃ s, l[i]? = some s := ⟨_, List.getElem?_eq_getElem hi⟩
    obtain ⟨t, ht⟩ : ∃ t, l'[i]? = some t := ⟨_, List.getElem?_eq_getElem (by omega)⟩
    obtain ⟨g, off, hA, c1, c2⟩ := h i (spV2 s) (by rw [List.getElem?_map, hs]; rfl)
    obtain ⟨g', off', hA', d1, d2⟩ := h' i (spV2 t) (by rw [List.getElem?_map, ht]; rfl)
    rw [hA] at hA'
    injection hA' with hA'
    injection hA' with e1 e2
    subst e1 e2
    have e1 := (Option.some.inj (c1.symm.trans d1))
    have e2 := (Option.some.inj (c2.symm.trans d2))
    have : s = t := by rw [← spOf_spV2 s, ← spOf_spV2 t, show spV2 s = spV2 t from Prod.ext e1 e2]
    rw [hs, ht, this]
  · rw [List.getElem?_eq_none hi, List.getElem?_eq_none (by omega)]
theorem hd_uniq {w : World} {h h' : Hd} (hh : HdOk w h) (hh' : HdOk w h') (he : hdV2 h = hdV2 h') : h.reads = h'.reads ∧ h.writes = h'.writes := by
  have e1 := congrArg Prod.fst he
  have e2 := congrArg Prod.snd he
  simp only [hdV2, Value.slice.injEq] at e1 e2
  have r' := hh'.2.2.2.2.1
  have w' := hh'.2.2.2.2.2
  rw [← e1.1] at r'
  rw [← e2.1] at w'
  exact ⟨row_uniq hh.2.2.2.2.1 r' e1.2.1, row_uniq hh.2.2.2.2.2 w' e2.2.1⟩

/-- Does a hold clash? -/
def busyB (L : List LE) (l : List Sp) (wr : Bool) : Bool := L.any fun e => clashB e.2 l wr
open Classical in
noncomputable def PB (L : List LE) (l : List Sp) (wr : Bool) (p : V2) : Bool := decide (∃ e ∈ L, hdV2 e.2 = p ∧ clashB e.2 l wr = true)
theorem PB_eq {w : World} {L : List LE} {l : List Sp} {wr : Bool} (hok : ∀ e ∈ L, HdOk w e.2) {e : LE} (he : e ∈ L) : PB L l wr (hdV2 e.2) = clashB e.2 l wr := by
  classical
  unfold PB
  rw [Bool.eq_iff_iff, decide_eq_true_iff]
  constructor
  · rintro ⟨e', he', h1, h2⟩
    obtain ⟨r1, r2⟩ := hd_uniq (hok e' he') (hok e he) h1
    rw [← h2]
    unfold clashB
    rw [r1, r2]
  · exact fun h => ⟨e, he, rfl, h⟩
theorem PB_any {w : World} {L : List LE} {l : List Sp} {wr : Bool} (hok : ∀ e ∈ L, HdOk w e.2) {xs : List HV} (hx : ValsOf (L.map entL) xs) : (xs.map HV.v2).any (PB L l wr) = busyB L l wr := by
  unfold busyB
  rw [Bool.eq_iff_iff, List.any_eq_true, List.any_eq_true]
  constructor
  · rintro ⟨p, hp, h1⟩
    obtain ⟨h, hh, rfl⟩ := List.mem_map.1 hp
    obtain ⟨n, hn⟩ := (hx.1 h).1 hh
    obtain ⟨e, he, h2⟩ := List.mem_map.1 hn
    have h3 : hdHV e.2 = h := congrArg Prod.snd h2
    rw [← h3] at h1
    exact ⟨e, he, by rw [← PB_eq hok he]; exact h1⟩
  · rintro ⟨e, he, h1⟩
    refine ⟨hdV2 e.2, List.mem_map.2 ⟨hdHV e.2, (hx.1 _).2 ⟨e.1, List.mem_map.2 ⟨e, he, rfl⟩⟩, rfl⟩, ?_⟩
    rw [PB_eq hok he]; exact h1

theorem busy_any (w : World) (k m : Nat) (L : List LE) (A : Option Addr) (c : Nat) (l : List Sp) (wr : Bool) (h : Lk w k m L) (hl : AllSmall l) (ll : l.length ≤ 100000) (rl : Row2 w A (l.map spV2)) :
    Calls Try.prog 10 #[.pointer (some ⟨k, 0, none⟩), .slice A l.length c, .bool wr] w fun e w' => e = .returned (.bool (busyB L l wr)) ∧ Touch (fun _ => False) w w' := by
  obtain ⟨W, hW⟩ : ∃ W, W = (w.alloc (.cells #[.slice A l.length c] 22)).alloc (.cells #[.bool wr] 4) := ⟨_, rfl⟩
  have hT : Touch (fun _ => False) w W := by rw [hW]; exact ((Touch.refl _ w).alloc _).alloc _
  have hb1 : Blk W w.heap.size 22 #[.slice A l.length c] := by rw [hW]; exact (Blk.new _ _ _).alloc _
  have hb2 : Blk W (w.heap.size + 1) 4 #[.bool wr] := by
    have := Blk.new (w.alloc (.cells #[.slice A l.length c] 22)) 4 #[.bool wr]
    rw [World.size_alloc] at this
    rw [hW]; exact this
  have hk := h.touch hT
  have c0 := hk.blk.cell 0
  simp only [List.getElem?_toArray, List.getElem?_cons_zero] at c0
  obtain ⟨R, hR⟩ : ∃ R, R = busyB L l wr := ⟨_, rfl⟩
  rw [← hR]
  have H := Lib.hid (And.intro hT (And.intro hk (And.intro hb1 (And.intro hb2 (And.intro hl (And.intro (rl.touch0 hT) hR))))))
  clear hT hk hb1 hb2 hl rl hR h
  go_enter Try.func10, Try.ntmps10
  go_upto_region 1 with fail
  refine Eq.mp (congrArg (fun x => Code.wp _ _ _ _ x) hW) ?_
  clear hW
  go_wp2_with fail
  refine (vals_any _ _).mono ?_
  rintro e w1 ⟨rfl, hw1⟩
  have hT1 : Touch (fun _ => False) W w1 := by rw [hw1]; exact (Touch.refl _ W).alloc _
  have hc1 : w1.cell? ⟨W.heap.size, 0, none⟩ = some (.map (some m)) := by rw [hw1]; exact (Blk.new W 53 #[.map (some m)]).cell 0
  have H1 := Lib.hid (And.intro hT1 hc1)
  clear hw1 hT1 hc1 c0
  go_wp2_with fail
  refine (collect_any _ _ m (L.map entL) H1.out.2 (H.out.2.1.touch H1.out.1).mp (by have := H.out.2.1.len; simpa using this)).mono ?_
  rintro e w2 ⟨B, cap, xs, rfl, hr2, hx, hT2⟩
  have hT2' : Touch (fun _ => False) W w2 := H1.out.1.trans hT2 (fun _ _ h => h)
  have hk2 := H.out.2.1.touch hT2'
  have hxl : xs.length ≤ 1000 := by have := hx.2; have := H.out.2.1.len; simp at *; omega
  have hc := has23_any w2 B cap xs.length 24 (xs.map HV.v2) (by simp) hr2.row #[.pointer (some ⟨w.heap.size, 0, none⟩), .pointer (some ⟨w.heap.size + 1, 0, none⟩)] (PB L l wr) (by omega) (fun v w => enter24 _ _ v w)
    (fun p hp w' ht => by
      obtain ⟨hv, hh, rfl⟩ := List.mem_map.1 hp
      obtain ⟨n, hn⟩ := (hx.1 hv).1 hh
      obtain ⟨e, he, h2⟩ := List.mem_map.1 hn
      have h3 : hdHV e.2 = hv := congrArg Prod.snd h2
      rw [← h3, show (hdHV e.2).v2 = hdV2 e.2 from rfl, PB_eq hk2.ok he]
      have hT3 : Touch (fun _ => False) W w' := hT2'.trans ht (fun _ _ h => h)
      exact f24_any w' e.2 _ _ A c l wr ((hk2.touch ht).ok e he) H.out.2.2.2.2.1 ll (H.out.2.2.2.2.2.1.touch0 hT3) (H.out.2.2.1.touch hT3 (fun h => h)) (H.out.2.2.2.1.touch hT3 (fun h => h)))
  rw [PB_any hk2.ok hx, ← H.out.2.2.2.2.2.2] at hc
  have H2 := Lib.hid (And.intro hc hT2')
  clear hc hT2' hT2 hk2 hx hr2
  go_wp2_with fail
  refine H2.out.1.mono ?_
  rintro e w3 ⟨rfl, hT3⟩
  have H3 := Lib.hid (H.out.1.trans (H2.out.2.trans hT3 (fun _ _ h => h)) (fun _ _ h => h))
  clear hT3
  go_wp2
  go_ret
  exact ⟨rfl, H3.out⟩
end Go.Proofs.Ytgoeocfgajbldaa
