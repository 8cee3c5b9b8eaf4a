/- Held: the numbers of all, sorted. (The three layings are the kit's tool's own text at this program.) -/
import Derived.Test.YtgoeocfgajbldaaP
import Derived.Shelf.SlIterI.Nil
import Derived.Shelf.SortM.Plain
import Derived.Shelf.SortM.SortNone
import Derived.Maps.Ext
namespace Go.Proofs.Ytgoeocfgajbldaa
open Go.RowKit Go.Shelf
set_option linter.unusedVariables false

def Try.keysA_ren : Go.Shelf.Ren := ⟨fun | 7 => 27 | 10 => 35 | n => n, fun | 23 => 53 | 26 => 3 | 3 => 57 | 28 => 69 | 0 => 0 | 27 => 68 | 33 => 76 | 4 => 4 | n => n, fun | n => n⟩
theorem Try.keysA : Go.Proofs.SlLaysZI.n7 Try.prog Try.keysA_ren := {
  mixed := by kernel_rfl
  f7 := ⟨Try.f27.name, by decide, Try.func27.trans (congrArg some (by kernel_rfl))⟩
  f10 := ⟨Try.f35.name, by decide, Try.func35.trans (congrArg some (by kernel_rfl))⟩
  t0 := Try.underlying0
  a0 := Try.isAgg0
  z0 := Try.sizeOf0
  v0 := Try.zeroValue0
  t4 := Try.underlying4
  a4 := Try.isAgg4
  z4 := Try.sizeOf4
  v4 := Try.zeroValue4
  t23 := Try.underlying53
  a23 := Try.isAgg53
  z23 := Try.sizeOf53
  v23 := Try.zeroValue53
  t26 := Try.underlying3
  a26 := Try.isAgg3
  z26 := Try.sizeOf3
  v26 := Try.zeroValue3
  t27 := Try.underlying68
  a27 := Try.isAgg68
  z27 := Try.sizeOf68
  v27 := Try.zeroValue68
  t28 := Try.underlying69
  a28 := Try.isAgg69
  z28 := Try.sizeOf69
  v28 := Try.zeroValue69
  t33 := Try.underlying76
  a33 := Try.isAgg76
  z33 := Try.sizeOf76
  v33 := Try.zeroValue76 }
def Try.sortedA_ren : Go.Shelf.Ren := ⟨fun | 6 => 26 | 8 => 33 | 9 => 34 | 11 => 40 | 13 => 42 | 12 => 41 | 23 => 54 | 24 => 55 | 14 => 45 | 15 => 46 | 16 => 47 | 17 => 48 | 18 => 49 | 19 => 50 | 20 => 51 | 21 => 52 | 22 => 53 | 25 => 56 | 26 => 57 | 27 => 58 | 28 => 59 | 29 => 60 | 30 => 61 | 31 => 62 | n => n, fun | 26 => 3 | 28 => 69 | 24 => 46 | 0 => 0 | 3 => 3 | 37 => 83 | 48 => 98 | 50 => 100 | 4 => 4 | 40 => 90 | 39 => 89 | 45 => 95 | 5 => 5 | 9 => 9 | 51 => 101 | 55 => 105 | 57 => 107 | 58 => 108 | 33 => 76 | n => n, fun | n => n⟩
theorem Try.sortedA : Go.Proofs.SlLaysZI.n6 Try.prog Try.sortedA_ren := {
  mixed := by kernel_rfl
  f6 := ⟨Try.f26.name, by decide, Try.func26.trans (congrArg some (by kernel_rfl))⟩
  f8 := ⟨Try.f33.name, by decide, Try.func33.trans (congrArg some (by kernel_rfl))⟩
  f11 := ⟨Try.f40.name, by decide, Try.func40.trans (congrArg some (by kernel_rfl))⟩
  t0 := Try.underlying0
  a0 := Try.isAgg0
  z0 := Try.sizeOf0
  v0 := Try.zeroValue0
  t24 := Try.underlying46
  a24 := Try.isAgg46
  z24 := Try.sizeOf46
  v24 := Try.zeroValue46
  t26 := Try.underlying3
  a26 := Try.isAgg3
  z26 := Try.sizeOf3
  v26 := Try.zeroValue3
  t28 := Try.underlying69
  a28 := Try.isAgg69
  z28 := Try.sizeOf69
  v28 := Try.zeroValue69
  i26 := by kernel_rfl }
def Try.sortA_ren : Go.Shelf.Ren := ⟨fun | 5 => 34 | 8 => 42 | 7 => 41 | 19 => 54 | 20 => 55 | 10 => 45 | 11 => 46 | 12 => 47 | 13 => 48 | 14 => 49 | 15 => 50 | 16 => 51 | 17 => 52 | 18 => 53 | 30 => 56 | 31 => 57 | 32 => 58 | 33 => 59 | 34 => 60 | 35 => 61 | 40 => 62 | n => n, fun | 23 => 46 | 25 => 3 | 3 => 3 | 32 => 83 | 22 => 46 | 0 => 0 | 44 => 98 | 46 => 100 | 4 => 4 | 36 => 90 | 35 => 89 | 41 => 95 | 5 => 5 | 9 => 9 | 53 => 101 | 57 => 105 | 63 => 107 | 64 => 108 | n => n, fun | n => n⟩
theorem Try.sortA : Go.Proofs.SlLaysM.n5 Try.prog Try.sortA_ren := {
  mixed := by kernel_rfl
  f5 := ⟨Try.f34.name, by decide, Try.func34.trans (congrArg some (by kernel_rfl))⟩
  f7 := ⟨Try.f41.name, by decide, Try.func41.trans (congrArg some (by kernel_rfl))⟩
  f8 := Try.func42.trans (congrArg some (by kernel_rfl))
  f10 := ⟨Try.f45.name, by decide, Try.func45.trans (congrArg some (by kernel_rfl))⟩
  f11 := ⟨Try.f46.name, by decide, Try.func46.trans (congrArg some (by kernel_rfl))⟩
  f12 := ⟨Try.f47.name, by decide, Try.func47.trans (congrArg some (by kernel_rfl))⟩
  f13 := ⟨Try.f48.name, by decide, Try.func48.trans (congrArg some (by kernel_rfl))⟩
  f14 := ⟨Try.f49.name, by decide, Try.func49.trans (congrArg some (by kernel_rfl))⟩
  f15 := ⟨Try.f50.name, by decide, Try.func50.trans (congrArg some (by kernel_rfl))⟩
  f16 := ⟨Try.f51.name, by decide, Try.func51.trans (congrArg some (by kernel_rfl))⟩
  f17 := ⟨Try.f52.name, by decide, Try.func52.trans (congrArg some (by kernel_rfl))⟩
  f18 := ⟨Try.f53.name, by decide, Try.func53.trans (congrArg some (by kernel_rfl))⟩
  f19 := Try.func54.trans (congrArg some (by kernel_rfl))
  f20 := Try.func55.trans (congrArg some (by kernel_rfl))
  f30 := ⟨Try.f56.name, by decide, Try.func56.trans (congrArg some (by kernel_rfl))⟩
  f31 := Try.func57.trans (congrArg some (by kernel_rfl))
  f32 := Try.func58.trans (congrArg some (by kernel_rfl))
  f33 := ⟨Try.f59.name, by decide, Try.func59.trans (congrArg some (by kernel_rfl))⟩
  f34 := ⟨Try.f60.name, by decide, Try.func60.trans (congrArg some (by kernel_rfl))⟩
  f35 := ⟨Try.f61.name, by decide, Try.func61.trans (congrArg some (by kernel_rfl))⟩
  f40 := ⟨Try.f62.name, by decide, Try.func62.trans (congrArg some (by kernel_rfl))⟩
  t0 := Try.underlying0
  a0 := Try.isAgg0
  z0 := Try.sizeOf0
  v0 := Try.zeroValue0
  t3 := Try.underlying3
  a3 := Try.isAgg3
  z3 := Try.sizeOf3
  v3 := Try.zeroValue3
  t4 := Try.underlying4
  a4 := Try.isAgg4
  z4 := Try.sizeOf4
  v4 := Try.zeroValue4
  t5 := Try.underlying5
  a5 := Try.isAgg5
  z5 := Try.sizeOf5
  v5 := Try.zeroValue5
  t9 := Try.underlying9
  a9 := Try.isAgg9
  z9 := Try.sizeOf9
  v9 := Try.zeroValue9
  t22 := Try.underlying46
  a22 := Try.isAgg46
  z22 := Try.sizeOf46
  v22 := Try.zeroValue46
  t23 := Try.underlying46
  a23 := Try.isAgg46
  z23 := Try.sizeOf46
  v23 := Try.zeroValue46
  t25 := Try.underlying3
  a25 := Try.isAgg3
  z25 := Try.sizeOf3
  v25 := Try.zeroValue3
  t32 := Try.underlying83
  a32 := Try.isAgg83
  z32 := Try.sizeOf83
  v32 := Try.zeroValue83
  t35 := Try.underlying89
  a35 := Try.isAgg89
  z35 := Try.sizeOf89
  v35 := Try.zeroValue89
  t36 := Try.underlying90
  a36 := Try.isAgg90
  z36 := Try.sizeOf90
  v36 := Try.zeroValue90
  t41 := Try.underlying95
  a41 := Try.isAgg95
  z41 := Try.sizeOf95
  v41 := Try.zeroValue95
  t44 := Try.underlying98
  a44 := Try.isAgg98
  z44 := Try.sizeOf98
  v44 := Try.zeroValue98
  t46 := Try.underlying100
  a46 := Try.isAgg100
  z46 := Try.sizeOf100
  v46 := Try.zeroValue100
  t53 := Try.underlying101
  a53 := Try.isAgg101
  z53 := Try.sizeOf101
  v53 := Try.zeroValue101
  t57 := Try.underlying105
  a57 := Try.isAgg105
  z57 := Try.sizeOf105
  v57 := Try.zeroValue105
  t63 := Try.underlying107
  a63 := Try.isAgg107
  z63 := Try.sizeOf107
  v63 := Try.zeroValue107
  t64 := Try.underlying108
  a64 := Try.isAgg108
  z64 := Try.sizeOf108
  v64 := Try.zeroValue108 }

theorem sortsA (m : Nat) : AnyZI.SortsIn Try.prog Try.sortedA_ren Fence.wide m :=
  ⟨fun blk off cap ss W hH hblk hsz => callsIn_wide.2 (AnyM.slices_Sort_int Try.sortA blk off cap ss W hH hblk hsz),
   fun p cap W => callsIn_wide.2 (AnyM.slices_Sort_int_none Try.sortA p cap W)⟩

/-- A row of numbers. -/
def Row1 (w : World) (A : Option Addr) (zs : List Int) : Prop := ∀ i x, zs[i]? = some x → ∃ g, A = some ⟨g, 0, none⟩ ∧ w.cell? ⟨g, i, none⟩ = some (.int .i64 x)
theorem Row1.touch {S : Nat → Prop} {w w' : World} {A : Option Addr} {zs : List Int} (h : Row1 w A zs) (ht : Touch S w w') (hS : ∀ a, A = some a → ¬ S a.block) : Row1 w' A zs := fun i x hi => by
  obtain ⟨g, hA, hc⟩ := h i x hi
  exact ⟨g, hA, ht.cell hc (hS _ hA)⟩

theorem keys_any (w : World) (m : Option Nat) :
    Calls Try.prog 27 #[.map m] w fun e w' => e = .returned (.func (.func 35) #[] #[.pointer (some ⟨w.heap.size, 0, none⟩)]) ∧ w' = w.alloc (.cells #[.map m] 53) := by
  go_enter Try.func27, Try.ntmps27
  go_wp2
  go_ret
  exact ⟨rfl, rfl⟩

theorem intKeys_dat (E : List Ent) : intKeys (dat E) = E.map (·.1) := by
  show (E.map ent).map _ = _
  rw [List.map_map]
  rfl
theorem Mp.rising {w : World} {m : Nat} {E : List Ent} (h : Mp w m E) : E.Pairwise fun p q => p.1 < q.1 := by
  obtain ⟨es, he, hp, _⟩ := World.ownsMap.canon h K3
  have : es = E.map ent := by injection he with he; exact he.symm
  rw [this, List.pairwise_map] at hp
  exact hp.imp (fun {a b} hab => by
    have : decide (a.1 < b.1) = true := hab
    simpa using this)

theorem sorted_any (w : World) (Bm m : Nat) (E : List Ent) (hm : w.cell? ⟨Bm, 0, none⟩ = some (.map (some m))) (hown : Mp w m E) (hE : E.length ≤ 1000) :
    Calls Try.prog 26 #[.func (.func 35) #[] #[.pointer (some ⟨Bm, 0, none⟩)]] w fun e w' => (∃ A c, e = .returned (.slice A E.length c) ∧ Row1 w' A (E.map (·.1)) ∧ ∀ a, A = some a → w.heap.size ≤ a.block) ∧ Touch (fun _ => False) w w' := by
  have hmax : Maps.size (dat E) ≤ maxLen := by rw [size_dat]; exact Nat.le_trans hE (by decide)
  have hbytes : Maps.size (dat E) * 8 ≤ 140737488355328 := by rw [size_dat]; omega
  have hseq : SeqGives Fence.wide 2 Try.prog 35 #[.pointer (some ⟨Bm, 0, none⟩)] encZ (fun ss => ss.Perm (intKeys (dat E))) (Maps.size (dat E)) w :=
    AnyZI.keys_gives (ρ := Try.keysA_ren) { Try.keysA with } Fence.wide _ trivial rfl (by omega) Bm m E.length (dat E) (R := hR) w (block_lt_of_cell hm) hm hown
  have cS := AnyZI.sorted_in Try.sortedA Fence.wide 5 trivial trivial trivial trivial rfl (by omega) (sortsA _) (enters_of Try.func34 (by kernel_rfl) rfl) 35 #[.pointer (some ⟨Bm, 0, none⟩)] trivial (enters_of Try.func35 (by kernel_rfl) rfl) _ _ hmax hbytes w hseq
  refine ((callsIn_wide (n := 5)).1 cS).mono ?_
  rintro e w' ⟨v, ss, rfl, hS, hrow, hnil, hb⟩
  have hss : ss.mergeSort (fun x y => decide (x ≤ y)) = E.map (·.1) := by
    rw [intKeys_dat] at hS
    have h1 := mergeSort_of_perm_i hS
    have h2 : (E.map (·.1)).mergeSort leI = E.map (·.1) := List.mergeSort_of_pairwise (by
      rw [List.pairwise_map]
      exact hown.rising.imp (fun {a b} hab => decide_eq_true (by omega)))
    exact h1.trans h2
  have hlen : ss.length = E.length := by
    rw [intKeys_dat] at hS
    rw [hS.length_eq, List.length_map]
  rw [hss, hlen] at hrow
  have hT : Touch (fun _ => False) w w' := ⟨hb.os, hb.tape, hb.output, hb.size, fun k hk _ => hb.block k hk⟩
  rcases hrow with ⟨h1, ⟨rfl, h0⟩ | ⟨g, cap, cur, rfl, hbase, hgb, r1, r2, r3, r4⟩⟩
  · refine ⟨⟨none, 0, by rw [h0], ?_, fun a h => by cases h⟩, hT⟩
    intro i x hx
    rw [List.getElem?_eq_none (by rw [List.length_map]; omega)] at hx
    cases hx
  · refine ⟨⟨some ⟨g, 0, none⟩, cap, rfl, ?_, fun a h => by injection h with h; subst h; exact hbase⟩, hT⟩
    intro i x hx
    refine ⟨g, rfl, ?_⟩
    have hi : i < E.length := by
      rcases Nat.lt_or_ge i E.length with h | h
      · exact h
      · rw [List.getElem?_eq_none (by rw [List.length_map]; omega)] at hx; cases hx
    have hb' : Blk w' g 3 cur := hgb
    rw [hb'.cell]
    have e : (cur.toList.take (E.length * 1))[i]? = ((E.map (·.1)).map encZ)[i]? := by rw [r4]
    rw [List.getElem?_take_of_lt (by omega), List.getElem?_map, hx] at e
    simpa [encZ] using e

theorem held_any (w : World) (k m : Nat) (L : List LE) (h : Lk w k m L) :
    Calls Try.prog 17 #[.pointer (some ⟨k, 0, none⟩)] w fun e w' => (∃ A c, e = .returned (.slice A L.length c) ∧ Row1 w' A (L.map (·.1)) ∧ ∀ a, A = some a → w.heap.size ≤ a.block) ∧ Touch (fun _ => False) w w' := by
  have c0 := h.blk.cell 0
  simp only [List.getElem?_toArray, List.getElem?_cons_zero] at c0
  have H := Lib.hid h
  clear h
  go_enter Try.func17, Try.ntmps17
  go_wp2_with fail
  refine (keys_any _ _).mono ?_
  rintro e w1 ⟨rfl, hw1⟩
  have hT1 : Touch (fun _ => False) w w1 := by rw [hw1]; exact (Touch.refl _ w).alloc _
  have hc1 : w1.cell? ⟨w.heap.size, 0, none⟩ = some (.map (some m)) := by rw [hw1]; exact (Blk.new w 53 #[.map (some m)]).cell 0
  have hcall := sorted_any w1 _ m (L.map entL) hc1 (H.out.touch hT1).mp (by have := H.out.len; simpa using this)
  rw [List.length_map, List.map_map] at hcall
  have H1 := Lib.hid (And.intro hT1 hcall)
  clear hw1 hT1 hc1 hcall c0
  go_wp2_with fail
  refine H1.out.2.mono ?_
  rintro e w2 ⟨⟨A, c, rfl, hr, hf⟩, hT2⟩
  have H2 := Lib.hid (And.intro hr (And.intro hf (H1.out.1.trans hT2 (fun _ _ h => h))))
  clear hr hf hT2
  go_wp2
  go_ret
  exact ⟨⟨A, c, rfl, H2.out.1, fun a ha => Nat.le_trans H1.out.1.size (H2.out.2.1 a ha)⟩, H2.out.2.2⟩
end Go.Proofs.Ytgoeocfgajbldaa
