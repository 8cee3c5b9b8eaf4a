/- Take and Free, in one word each; a document's holds. -/
import Derived.Test.YtgoeocfgajbldaaO
namespace Go.Proofs.Ytgoeocfgajbldaa
open Go.RowKit
set_option linter.unusedVariables false

/-- What Take makes of the holds. -/
def TakeL (L : List LE) (n : Int) (r t : List Sp) (L' : List LE) : Prop :=
  (takeN L n r t = 0 ∧ ∃ hd : Hd, hd.reads = r ∧ hd.writes = t ∧ L' = insL (n, hd) L) ∨ (takeN L n r t ≠ 0 ∧ L' = L)
theorem take_any (w : World) (k m : Nat) (L : List LE) (n : Int) (A B : Option Addr) (ca cb nr nt : Nat) (r t : List Sp) (h : Lk w k m L) (hr : SpOk w A ca r) (ht : SpOk w B cb t) (er : r.length = nr) (et : t.length = nt) (hw : (Lit.int .i64 n).wf = true) (hlen : L.length < 1000) :
    Calls Try.prog 9 #[.pointer (some ⟨k, 0, none⟩), .int .i64 n, .slice A nr ca, .slice B nt cb] w fun e w' => e = .returned (.int .i64 (takeN L n r t)) ∧ (∃ L', TakeL L n r t L' ∧ Lk w' k m L') ∧ Touch (fun b => b = m) w w' := by
  subst er et
  by_cases hz : takeN L n r t = 0
  · refine (take_ok w k m L n A B ca cb r t h hr ht hw hz hlen).mono ?_
    rintro e w' ⟨rfl, ⟨hd, h1, h2, h3⟩, h4⟩
    exact ⟨by rw [hz]; rfl, ⟨_, .inl ⟨hz, hd, h1, h2, rfl⟩, h3⟩, h4⟩
  · refine (take_no w k m L n A B ca cb r t h hr ht hw hz).mono ?_
    rintro e w' ⟨rfl, h4⟩
    exact ⟨rfl, ⟨_, .inr ⟨hz, rfl⟩, h.touch h4⟩, h4.weaken (fun _ _ h => h.elim)⟩
def freeN (L : List LE) (n : Int) : Nat := if (L.any fun e => e.1 == n) = true then 0 else 15
def freeL (L : List LE) (n : Int) : List LE := L.filter fun e => !(e.1 == n)
theorem free_any (w : World) (k m : Nat) (L : List LE) (n : Int) (h : Lk w k m L) (hw : (Lit.int .i64 n).wf = true) :
    Calls Try.prog 11 #[.pointer (some ⟨k, 0, none⟩), .int .i64 n] w fun e w' => e = .returned (.int .i64 (freeN L n)) ∧ Lk w' k m (freeL L n) ∧ Touch (fun b => b = m) w w' := by
  cases hn : L.any fun e => e.1 == n with
  | true =>
    refine (free_yes w k m L n h hn hw).mono ?_
    rintro e w' ⟨rfl, h1, h2⟩
    exact ⟨by unfold freeN; rw [hn]; rfl, h1, h2⟩
  | false =>
    have e0 : freeL L n = L := List.filter_eq_self.2 (fun e he => by
      have := List.any_eq_false.1 hn e he
      simpa using this)
    refine (free_no w k m L n h hn hw).mono ?_
    rintro e w' ⟨rfl, h1⟩
    rw [e0]
    exact ⟨by unfold freeN; rw [hn]; rfl, h.touch h1, h1.weaken (fun _ _ h => h.elim)⟩

/-- A document's hold. -/
structure RH where
  n : Int
  A : Option Addr
  ca : Nat
  r : List SI
  B : Option Addr
  cb : Nat
  t : List SI
def RH.cells (h : RH) : Array Value := #[.int .i64 h.n, .slice h.A h.r.length h.ca, .slice h.B h.t.length h.cb]
structure RhOk (w : World) (h : RH) : Prop where
  wf : (Lit.int .i64 h.n).wf = true
  row : Row2 w h.A (h.r.map siV2)
  row2 : Row2 w h.B (h.t.map siV2)
theorem RhOk.touch {S : Nat → Prop} {w w' : World} {h : RH} (hh : RhOk w h) (ht : Touch S w w') (hS : ∀ b, b < w.heap.size → ¬ S b) : RhOk w' h :=
  ⟨hh.wf, hh.row.touch ht (fun _ _ _ hb => hS _ hb), hh.row2.touch ht (fun _ _ _ hb => hS _ hb)⟩
theorem RhOk.map {w w' : World} {m : Nat} {E : List Ent} {h : RH} (hh : RhOk w h) (hm : Mp w m E) (ht : Touch (fun b => b = m) w w') : RhOk w' h :=
  ⟨hh.wf, hh.row.touch ht (fun a ha hn _ => hm.row_ne hh.row hn a ha), hh.row2.touch ht (fun a ha hn _ => hm.row_ne hh.row2 hn a ha)⟩
def toSp (s : SI) : Sp := (s.1.toNat, s.2.toNat)
theorem siV2_toSp {s : SI} (h : smI s = true) : siV2 s = spV2 (toSp s) := by
  unfold smI at h
  simp only [Bool.and_eq_true, decide_eq_true_eq] at h
  unfold siV2 spV2 toSp
  simp only [Prod.mk.injEq, Value.int.injEq, true_and]
  omega
theorem small_sp {l : List SI} (h : smallI l = true) : l.length ≤ 12 ∧ l.map siV2 = (l.map toSp).map spV2 ∧ AllSmall (l.map toSp) := by
  unfold smallI at h
  rw [Bool.and_eq_true, decide_eq_true_eq, List.all_eq_true] at h
  refine ⟨h.1, ?_, fun s hs => ?_⟩
  · rw [List.map_map]
    exact List.map_congr_left (fun s hs => siV2_toSp (h.2 s hs))
  · obtain ⟨x, hx, rfl⟩ := List.mem_map.1 hs
    have := h.2 x hx
    unfold smI at this
    simp only [Bool.and_eq_true, decide_eq_true_eq] at this
    unfold toSp Small
    dsimp only
    omega
/-- A document's spans as the program's: by 'spans'. -/
theorem spansI_any (w : World) (A : Option Addr) (c n : Nat) (l : List SI) (hn : l.length = n) (hs : smallI l = true) (hr : Row2 w A (l.map siV2)) :
    Calls Try.prog 7 #[.slice A n c] w fun e w' => (∃ A' c', e = .returned (.slice A' n c') ∧ SpOk w' A' c' (l.map toSp)) ∧ Touch (fun _ => False) w w' := by
  obtain ⟨h1, h2, h3⟩ := small_sp hs
  rw [h2] at hr
  exact spans_any w A c n (l.map toSp) (by rw [List.length_map]; exact hn) (by omega) h3 hr
theorem Blk.ne_map {w : World} {m p : Nat} {E : List Ent} {t : TypeId} {cs : Array Value} (h : Blk w p t cs) (hm : Mp w m E) : p ≠ m := by
  rintro rfl
  obtain ⟨es, clock, hb, _⟩ := hm
  unfold Blk at h
  rw [hb] at h
  cases h
end Go.Proofs.Ytgoeocfgajbldaa
