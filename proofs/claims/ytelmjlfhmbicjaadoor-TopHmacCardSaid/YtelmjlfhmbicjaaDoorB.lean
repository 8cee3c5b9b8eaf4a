/- spread. -/
import Derived.Test.YtelmjlfhmbicjaaDoorA
import Derived.Deep.MidRow
namespace Go.Proofs.YtelmjlfhmbicjaaDoor
open Go.RowKit
set_option linter.unusedVariables false

/-- Bytes, words as cells. -/
def U8A (xs : List Int) : Array Value := (xs.map (Value.int .u8)).toArray
def U32A (xs : List Int) : Array Value := (xs.map (Value.int .u32)).toArray
theorem U8A_size (xs : List Int) : (U8A xs).size = xs.length := by simp [U8A]
theorem U32A_size (xs : List Int) : (U32A xs).size = xs.length := by simp [U32A]
theorem U8A_get {xs : List Int} {i : Nat} (h : i < xs.length) : (U8A xs)[i]? = some (.int .u8 (xs.getD i 0)) := by
  simp [U8A, List.getElem?_eq_getElem h, List.getD]
theorem U32A_get {xs : List Int} {i : Nat} (h : i < xs.length) : (U32A xs)[i]? = some (.int .u32 (xs.getD i 0)) := by
  simp [U32A, List.getElem?_eq_getElem h, List.getD]
theorem U8A_set (xs : List Int) (i : Nat) (x : Int) : (U8A xs).setIfInBounds i (.int .u8 x) = U8A (xs.set i x) := by
  simp [U8A, List.map_set]
theorem U32A_set (xs : List Int) (i : Nat) (x : Int) : (U32A xs).setIfInBounds i (.int .u32 x) = U32A (xs.set i x) := by
  simp [U32A, List.map_set]
theorem Blk.byt {w : World} {g : Nat} {t : TypeId} {xs : List Int} (h : Blk w g t (U8A xs)) (a n : Nat) : Byt w g a ((xs.drop a).take n) := fun i hi => by
  rw [h.cell]
  have h1 : a + i < xs.length := by simp at hi; omega
  rw [U8A_get h1]
  have h2 : i < n := by simp at hi; omega
  simp [List.getD, h2]

theorem sl22 (W : World) (g l n : Nat) (h1 : l < 64) (h2 : l + n ≤ 64) : (Instr.sliceAt 22 (.pointer (some ⟨g, 0, none⟩)) (some (.int .i64 l)) (some (.int .i64 ((l : Int) + n))) none).run Tryd.prog W = .ok (.slice (some ⟨g, l, none⟩) n (64 - l)) W := by
  have hl : Tryd.prog.arrayLen 22 = 64 := by kernel_rfl
  have he : Tryd.prog.elem 22 = 5 := by kernel_rfl
  have hs : (sizeOf 5).run Tryd.prog W = .ok 1 W := by
    have : (Tryd.prog.info? 5).map (·.size) = some 1 := by kernel_rfl
    cases hq : Tryd.prog.info? 5 with
    | none => simp [hq] at this
    | some i => simp [hq] at this; simp [sizeOf, typeInfo, hq, this, Sem.run_bind]
  rw [run_sliceAt_array_lh W 22 ⟨g, 0, none⟩ (by kernel_rfl) .i64 .i64 l ((l : Int) + n) (by omega) (by omega) (by rw [hl]; omega), he, hs, hl]
  simp only [Result.andThen_ok, slicedAt]
  have e1 : ((l : Int) + n).toNat = l + n := by omega
  have e2 : (l : Int).toNat = l := by omega
  have e3 : l + n - l = n := by omega
  rw [e1, e2, e3, if_neg (by omega), Addr.add_mid]
  simp

/-- Do so often, each told its number. -/
def iter {α : Type} (f : Nat → α → α) : Nat → α → α
  | 0, x => x
  | n + 1, x => f n (iter f n x)
theorem iter_len (f : Nat → List Int → List Int) (hf : ∀ i x, (f i x).length = x.length) : ∀ n x, (iter f n x).length = x.length
  | 0, _ => rfl
  | n + 1, x => by rw [iter, hf, iter_len f hf n x]

def sp1 (xs : List Int) (i : Nat) (ws : List Int) : List Int := ws.set i (IntKind.u32.wrap (bigF ((xs.drop (4 * i)).take 4)))

def s0F (x : Int) : Int := bits .xor .u32 (bits .xor .u32 (rotF x (-7)) (rotF x (-18))) (x / 8)
def s1F (x : Int) : Int := bits .xor .u32 (bits .xor .u32 (rotF x (-17)) (rotF x (-19))) (x / 1024)
def sp2 (i : Nat) (ws : List Int) : List Int := ws.set (i + 16) ((ws.getD i 0 + s0F (ws.getD (i + 1) 0) + ws.getD (i + 9) 0 + s1F (ws.getD (i + 14) 0)) % 4294967296)
/-- A block's 64 numbers. -/
def spreadF (xs : List Int) : List Int := iter sp2 48 (iter (sp1 xs) 16 (List.replicate 64 0))
theorem spreadF_len (xs : List Int) : (spreadF xs).length = 64 := by
  unfold spreadF
  rw [iter_len _ (by intro i x; simp [sp2]), iter_len _ (by intro i x; simp [sp1])]
  simp
theorem U32A_one (xs : List Int) : (U32A xs).all (·.oneCell') = true := by
  rw [Array.all_eq_true_iff_forall_mem]
  intro v hv
  simp [U32A] at hv
  obtain ⟨x, _, rfl⟩ := hv
  rfl
theorem U8A_one (xs : List Int) : (U8A xs).all (·.oneCell') = true := by
  rw [Array.all_eq_true_iff_forall_mem]
  intro v hv
  simp [U8A] at hv
  obtain ⟨x, _, rfl⟩ := hv
  rfl
theorem Blk.row {w : World} {g : Nat} {t : TypeId} {cs : Array Value} (h : Blk w g t cs) (cs' : Array Value) : Blk (w.setRow g cs') g t cs' := setRow_heap w g cs cs' t (0, 0) h
theorem Blk.row_far {w : World} {g k : Nat} {t : TypeId} {cs : Array Value} (h : Blk w g t cs) (hk : ¬ g = k) (cs' : Array Value) : Blk (w.setRow k cs') g t cs := (setRow_other w k g cs' hk).trans h
theorem Touch.row {S : Nat → Prop} {w w' : World} (h : Touch S w w') {g : Nat} (hg : w.heap.size ≤ g ∨ S g) (cs : Array Value) : Touch S w (w'.setRow g cs) :=
  ⟨h.os, h.tape, h.output, by have := h.size; simp; omega, fun b hb hs => (setRow_other w' g b cs (by rintro rfl; rcases hg with hg | hg; omega; exact hs hg)).trans (h.block b hb hs)⟩

set_option maxHeartbeats 1000000 in
theorem spread_any (w : World) (xs : List Int) (hx : xs.length = 64) :
    Calls Tryd.prog 17 #[.agg (U8A xs)] w fun e w' => e = .returned (.agg (U32A (spreadF xs))) ∧ Touch (fun _ => False) w w' := by
  go_enter Tryd.func17, Tryd.ntmps17
  go_wp2_with fail
  generalize hw1 : World.alloc (World.alloc (World.alloc w _) _) _ = w1
  have hT1 : Touch (fun _ => False) w w1 := by rw [← hw1]; exact (((Touch.refl _ w).alloc _).alloc _).alloc _
  have hb1 : Blk w1 w.heap.size 22 (U8A xs) := by rw [← hw1]; exact ((Blk.new _ _ _).alloc _).alloc _
  have hr1 : ∃ cs, cs.size = 64 ∧ Blk w1 (w.heap.size + 1) 44 cs := by
    refine ⟨U32A (List.replicate 64 0), by simp [U32A], ?_⟩
    · rw [← hw1]
      have := (Blk.new (w.alloc (.cells (U8A xs) 22)) 44 (U32A (List.replicate 64 0))).alloc (.cells (U32A (List.replicate 64 0)) 44)
      rw [World.size_alloc] at this
      exact this
  have hv1 : Blk w1 (w.heap.size + 2) 44 (U32A (List.replicate 64 0)) := by
    rw [← hw1]
    have := Blk.new ((w.alloc (.cells (U8A xs) 22)).alloc (.cells (U32A (List.replicate 64 0)) 44)) 44 (U32A (List.replicate 64 0))
    rw [World.size_alloc, World.size_alloc] at this
    exact this
  clear hw1
  go_loopw [10] (fun i wr => ∃ j : Nat, j ≤ 16 ∧ i = .int .i64 j ∧ Blk wr (w.heap.size + 2) 44 (U32A (iter (sp1 xs) j (List.replicate 64 0))) ∧ Touch (fun b => b = w.heap.size + 2) w1 wr) (fun i _ => 16 - (intOf i).toNat)
  case atStart => exact ⟨0, by omega, rfl, hv1, Touch.refl _ _⟩
  case round =>
    obtain ⟨j, hj, rfl, hv, hT⟩ := hrel
    by_cases hj16 : j < 16
    · have hb := hb1.touch hT (by omega)
      have hf := hv.frozen
      have hlt : j * 4 < 64 := by omega
      have hc0 := hv.cell j
      have HX := Lib.hid hx
      rw [U32A_get (by rw [iter_len _ (by intro i x; simp [sp1])]; simp; omega)] at hc0
      have HB := Lib.hid (hb.byt (4 * j) 4)
      clear hx hb
      have hs1 := sl22 wr w.heap.size (4 * j) 4 (by omega) (by omega)
      rw [show ((4 * j : Nat) : Int) = 4 * (j : Int) from by omega, show (((4 : Nat)) : Int) = 4 from rfl] at hs1
      go_wp2_with fail
      refine (big_any _ _ _ _ _ _ (by have := HX.out; simp; omega) (by omega) HB.out).mono ?_
      rintro e w2 ⟨rfl, rfl⟩
      go_wp2
      go_roundw
      case rel =>
        refine ⟨j + 1, by omega, by go_num, ?_, hT.setCell (.inr rfl) _⟩
        have := hv.set_ j (.int .u32 (IntKind.u32.wrap (bigF ((xs.drop (4 * j)).take 4))))
        rw [U32A_set] at this
        exact this
      case measure => simp [intOf]; omega
    · have hj' : j = 16 := by omega
      rw [hj'] at hv
      clear hj hj'
      obtain ⟨W0, hW0⟩ : ∃ W0, W0 = iter (sp1 xs) 16 (List.replicate 64 0) := ⟨_, rfl⟩
      have hW0l : W0.length = 64 := by rw [hW0, iter_len _ (by intro i x; simp [sp1])]; simp
      rw [← hW0] at hv
      have HW0 := Lib.hid (And.intro hW0 hW0l)
      clear hW0 hW0l
      go_wp2_with fail
      go_loopw [5] (fun i wq => ∃ j : Nat, j ≤ 48 ∧ i = .int .i64 ((j : Int) + 16) ∧ Blk wq (w.heap.size + 2) 44 (U32A (iter sp2 j W0)) ∧ Touch (fun b => b = w.heap.size + 2) w1 wq) (fun i _ => 64 - (intOf i).toNat)
      case atStart => exact ⟨0, by omega, rfl, hv, hT⟩
      case round =>
        obtain ⟨j, hj, rfl, hv, hT⟩ := hrel
        by_cases hj48 : j < 48
        · have hl : (iter sp2 j W0).length = 64 := by rw [iter_len _ (by intro i x; simp [sp2])]; exact HW0.out.2
          have hf := hv.frozen
          have c0 := hv.cell (j + 16)
          have c15 := hv.cell (j + 1)
          have c2 := hv.cell (j + 14)
          have c16 := hv.cell j
          have c7 := hv.cell (j + 9)
          rw [U32A_get (by omega)] at c0 c15 c2 c16 c7
          have HL := Lib.hid hl
          obtain ⟨x15, h15⟩ : ∃ x, x = (iter sp2 j W0).getD (j + 1) 0 := ⟨_, rfl⟩
          obtain ⟨x2, h2⟩ : ∃ x, x = (iter sp2 j W0).getD (j + 14) 0 := ⟨_, rfl⟩
          obtain ⟨x16, h16⟩ : ∃ x, x = (iter sp2 j W0).getD j 0 := ⟨_, rfl⟩
          obtain ⟨x7, h7⟩ : ∃ x, x = (iter sp2 j W0).getD (j + 9) 0 := ⟨_, rfl⟩
          rw [← h15] at c15
          rw [← h2] at c2
          rw [← h16] at c16
          rw [← h7] at c7
          have HX := Lib.hid (And.intro h15 (And.intro h2 (And.intro h16 h7)))
          clear hl h15 h2 h16 h7
          go_wp2_with fail
          refine wp_region_qall (by kernel_rfl) (by kernel_rfl) ?_
          repeat (first | go_big_quiet_skip | (go_big_quiet_want; go_big_quiet_op; go_big_quiet_on))
          refine wpQuiet_nil ?_
          go_wp2_with fail
          refine (left_any _ _ _).mono ?_
          rintro e wz ⟨rfl, rfl⟩
          go_wp2_with fail
          refine (left_any _ _ _).mono ?_
          rintro e wz ⟨rfl, rfl⟩
          go_wp2_with fail
          refine (left_any _ _ _).mono ?_
          rintro e wz ⟨rfl, rfl⟩
          go_wp2_with fail
          refine (left_any _ _ _).mono ?_
          rintro e wz ⟨rfl, rfl⟩
          go_wp2_with fail
          refine wp_region_qtail 15 (by kernel_rfl) (by kernel_rfl) ?_
          simp only [List.take_succ_cons, List.take_zero, List.drop_succ_cons, List.drop_zero]
          repeat (first | go_big_quiet_skip | (go_big_quiet_want; go_big_quiet_op; go_big_quiet_on))
          refine wpQuiet_nil ?_
          go_wp2
          go_roundw
          case rel =>
            refine ⟨j + 1, by omega, by go_num, ?_, ?_⟩
            · have := ((hv.set_ (j + 16) (.int .u32 ((x16 + s0F x15 + x7 + s1F x2) % 4294967296))).drew).drew
              rw [U32A_set, HX.out.1, HX.out.2.1, HX.out.2.2.1, HX.out.2.2.2] at this
              rw [HX.out.1, HX.out.2.1, HX.out.2.2.1, HX.out.2.2.2]
              exact this
            · exact ((hT.setCell (.inr rfl) _).drew).drew
          case measure => simp [intOf]; omega
        · have hj' : j = 48 := by omega
          rw [hj', HW0.out.1] at hv
          have hv' : Blk wr (w.heap.size + 1 + 1) 44 (U32A (spreadF xs)) := hv
          obtain ⟨cr, hcr, hr⟩ := hr1
          have hr' := hr.touch hT (by omega)
          have hi : (Tryd.prog.info? 44).map (·.size) = some (U32A (spreadF xs)).size := by rw [U32A_size, spreadF_len]; kernel_rfl
          have hsz : cr.size = (U32A (spreadF xs)).size := by rw [U32A_size, spreadF_len, hcr]
          have HI := Lib.hid (And.intro hi hsz)
          clear hj' hv hcr hi hsz hr
          go_wp2_with (first | (refine wpList_load_row rfl 44 (.tmp 3) rfl (w.heap.size + 1 + 1) rfl 44 (U32A (spreadF xs)) (0, 0) (.array 64 32) hv' (by kernel_rfl) rfl HI.out.1 ?_) | (refine wpList_store_row rfl 44 (.tmp 2) (.tmp 67) rfl (w.heap.size + 1) (U32A (spreadF xs)) rfl rfl 44 cr hr' HI.out.1 HI.out.2 (U32A_one _) ?_))
          refine bodyPost_ret (v := .agg (U32A (spreadF xs))) (results_cell_row (P := Tryd.prog) rfl _ _ (w.heap.size + 1) 44 _ (0, 0) (.array 64 32) rfl (hr'.row _) (by kernel_rfl) rfl HI.out.1) rfl ⟨rfl, ?_⟩
          exact (hT1.trans hT (by intro b hb e; omega)).row (.inl (by omega)) _
end Go.Proofs.YtelmjlfhmbicjaaDoor
