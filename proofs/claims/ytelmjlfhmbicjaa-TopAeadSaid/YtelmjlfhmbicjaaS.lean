/- chacha: first. -/
import Derived.Test.YtelmjlfhmbicjaaR
namespace Go.Proofs.Ytelmjlfhmbicjaa
open Go.RowKit
set_option linter.unusedVariables false

theorem sz5 (W : World) : (sizeOf 5).run Try.prog W = .ok 1 W := by
  have : (Try.prog.info? 5).map (·.size) = some 1 := by kernel_rfl
  cases hq : Try.prog.info? 5 with
  | none => simp [hq] at this
  | some i => simp [hq] at this; simp [sizeOf, typeInfo, hq, this, Sem.run_bind]
theorem sl22 (W : World) (g l n : Nat) (h1 : l < 32) (h2 : l + n ≤ 32) : (Instr.sliceAt 22 (.pointer (some ⟨g, 0, none⟩)) (some (.int .i64 l)) (some (.int .i64 ((l : Int) + n))) none).run Try.prog W = .ok (.slice (some ⟨g, l, none⟩) n (32 - l)) W := by
  have hl : Try.prog.arrayLen 22 = 32 := by kernel_rfl
  have he : Try.prog.elem 22 = 5 := by kernel_rfl
  rw [run_sliceAt_array_lh W 22 ⟨g, 0, none⟩ (by kernel_rfl) .i64 .i64 l ((l : Int) + n) (by omega) (by omega) (by rw [hl]; omega), he, sz5, hl]
  simp only [Result.andThen_ok, slicedAt]
  have e1 : ((l : Int) + n).toNat = l + n := by omega
  have e2 : (l : Int).toNat = l := by omega
  have e3 : l + n - l = n := by omega
  rw [e1, e2, e3, if_neg (by omega), Addr.add_mid]
  simp
theorem sl27 (W : World) (g l n : Nat) (h1 : l < 12) (h2 : l + n ≤ 12) : (Instr.sliceAt 27 (.pointer (some ⟨g, 0, none⟩)) (some (.int .i64 l)) (some (.int .i64 ((l : Int) + n))) none).run Try.prog W = .ok (.slice (some ⟨g, l, none⟩) n (12 - l)) W := by
  have hl : Try.prog.arrayLen 27 = 12 := by kernel_rfl
  have he : Try.prog.elem 27 = 5 := by kernel_rfl
  rw [run_sliceAt_array_lh W 27 ⟨g, 0, none⟩ (by kernel_rfl) .i64 .i64 l ((l : Int) + n) (by omega) (by omega) (by rw [hl]; omega), he, sz5, hl]
  simp only [Result.andThen_ok, slicedAt]
  have e1 : ((l : Int) + n).toNat = l + n := by omega
  have e2 : (l : Int).toNat = l := by omega
  have e3 : l + n - l = n := by omega
  rw [e1, e2, e3, if_neg (by omega), Addr.add_mid]
  simp

def putK (key : List Int) (o : Nat) (i : Nat) (s : List Int) : List Int := s.set (o + i) (littleF ((key.drop (4 * i)).take 4) % 4294967296)
def first0 : List Int := [1634760805, 857760878, 2036477234, 1797285236, 0, 0, 0, 0, 0, 0, 0, 0, 0, 0, 0, 0]
def firstF (key nonce : List Int) (n : Int) : List Int := iter (putK nonce 13) 3 ((iter (putK key 4) 8 first0).set 12 n)
theorem putK_len (key : List Int) (o i : Nat) (s : List Int) : (putK key o i s).length = s.length := by simp [putK]
theorem firstF_len (key nonce : List Int) (n : Int) : (firstF key nonce n).length = 16 := by
  unfold firstF
  rw [iter_len _ (putK_len _ _), List.length_set, iter_len _ (putK_len _ _)]; rfl

set_option maxHeartbeats 1000000 in
theorem first_any (w : World) (key nonce : List Int) (n : Int) (hk : key.length = 32) (hn : nonce.length = 12) :
    Calls Try.prog 16 #[.agg (U8A key), .agg (U8A nonce), .int .u32 n] w fun e w' => e = .returned (.agg (U32A (firstF key nonce n))) ∧ Touch (fun _ => False) w w' := by
  have H := Lib.hid (And.intro hk hn)
  clear hk hn
  go_enter Try.func16, Try.ntmps16
  go_wp2_with fail
  obtain ⟨W, hW⟩ : ∃ W, W = ((((w.alloc (Obj.cells (U8A key) 22)).alloc (Obj.cells (U8A nonce) 27)).alloc (Obj.cells (U32A (List.replicate 16 0)) 49)).alloc (Obj.cells (U32A first0) 49)) := ⟨_, rfl⟩
  have hTW : Touch (fun _ => False) w W := by rw [hW]; exact ((((Touch.refl _ w).alloc _).alloc _).alloc _).alloc _
  have hbK : Blk W w.heap.size 22 (U8A key) := by rw [hW]; exact (((Blk.new w 22 _).alloc _).alloc _).alloc _
  have hbN : Blk W (w.heap.size + 1) 27 (U8A nonce) := by
    have := Blk.new (w.alloc (Obj.cells (U8A key) 22)) 27 (U8A nonce)
    rw [World.size_alloc] at this
    rw [hW]; exact (this.alloc _).alloc _
  have hbZ : Blk W (w.heap.size + 1 + 1) 49 (U32A (List.replicate 16 0)) := by
    have := Blk.new ((w.alloc (Obj.cells (U8A key) 22)).alloc (Obj.cells (U8A nonce) 27)) 49 (U32A (List.replicate 16 0))
    rw [World.size_alloc, World.size_alloc] at this
    rw [hW]; exact this.alloc _
  have hbB : Blk W (w.heap.size + 1 + 1 + 1) 49 (U32A first0) := by
    have := Blk.new (((w.alloc (Obj.cells (U8A key) 22)).alloc (Obj.cells (U8A nonce) 27)).alloc (Obj.cells (U32A (List.replicate 16 0)) 49)) 49 (U32A first0)
    rw [World.size_alloc, World.size_alloc, World.size_alloc] at this
    rw [hW]; exact this
  refine Eq.mp (congrArg (fun x => Code.wp _ _ _ _ x) hW) ?_
  have HB := Lib.hid (And.intro hbK (And.intro hbN (And.intro hbZ (And.intro hbB hTW))))
  clear hW hbK hbN hbZ hbB hTW
  go_loopw [11] (fun u wr => ∃ i : Nat, i ≤ 8 ∧ u = .int .i64 i ∧ Blk wr (w.heap.size + 1 + 1 + 1) 49 (U32A (iter (putK key 4) i first0)) ∧ Touch (fun x => x = w.heap.size + 1 + 1 + 1) W wr) (fun u _ => 8 - (intOf u).toNat)
  case atStart => exact ⟨0, by omega, rfl, HB.out.2.2.2.1, Touch.refl _ _⟩
  case round =>
    obtain ⟨i, hi, rfl, hb, hT⟩ := hrel
    by_cases hi8 : i < 8
    · have hlen : (iter (putK key 4) i first0).length = 16 := by rw [iter_len _ (putK_len _ _)]; rfl
      have hbk := HB.out.1.touch hT (by omega)
      have hby := hbk.byt (4 * i) 4
      have HI := Lib.hid (And.intro hb (And.intro hT (And.intro hlen hby)))
      clear hb hT hlen hby hbk
      have hs1 := sl22 wr w.heap.size (4 * i) 4 (by omega) (by omega)
      rw [show ((4 * i : Nat) : Int) = 4 * (i : Int) from by omega, show (((4 : Nat)) : Int) = 4 from rfl] at hs1
      go_wp2_with fail
      refine (little_read _ _ _ 4 _ _ (by have := H.out.1; simp; omega) (by omega) (by omega) (by omega) HI.out.2.2.2).mono ?_
      rintro e w2 ⟨rfl, hT2⟩
      have hb2 := HI.out.1.touch hT2 (fun h => h)
      have hf := hb2.frozen
      have hc0 := hb2.cell (4 + i)
      rw [U32A_get (by rw [HI.out.2.2.1]; omega)] at hc0
      have HB2 := Lib.hid hb2
      clear hs1 hb2
      go_wp2
      go_roundw
      case rel =>
        refine ⟨i + 1, by omega, by go_num, ?_, (HI.out.2.1.trans hT2 (fun _ _ h => h.elim)).setCell (.inr rfl) _⟩
        have := HB2.out.set_ (4 + i) (.int .u32 (littleF ((key.drop (4 * i)).take 4) % 4294967296))
        rw [U32A_set] at this
        exact this
      case measure => simp [intOf]; omega
    · have hi8' : i = 8 := by omega
      rw [hi8'] at hb
      clear hi8'
      obtain ⟨s1, hs1⟩ : ∃ s1, s1 = iter (putK key 4) 8 first0 := ⟨_, rfl⟩
      have hl1 : s1.length = 16 := by rw [hs1, iter_len _ (putK_len _ _)]; rfl
      rw [← hs1] at hb
      have hc12 := hb.cell 12
      rw [U32A_get (by omega)] at hc12
      have hf12 := hb.frozen 12
      have H1 := Lib.hid (And.intro hs1 (And.intro hl1 (And.intro hb hT)))
      clear hs1 hl1 hb hT
      go_wp2_with fail
      have hb2 : Blk (wr.setCell ⟨w.heap.size + 1 + 1 + 1, 12, none⟩ (.int .u32 n)) (w.heap.size + 1 + 1 + 1) 49 (U32A (s1.set 12 n)) := by
        have := H1.out.2.2.1.set_ 12 (.int .u32 n)
        rw [U32A_set] at this
        exact this
      have hT2 : Touch (fun x => x = w.heap.size + 1 + 1 + 1) W (wr.setCell ⟨w.heap.size + 1 + 1 + 1, 12, none⟩ (.int .u32 n)) := H1.out.2.2.2.setCell (p := ⟨w.heap.size + 1 + 1 + 1, 12, none⟩) (.inr rfl) _
      obtain ⟨wb, hwb⟩ : ∃ wb, wb = wr.setCell ⟨w.heap.size + 1 + 1 + 1, 12, none⟩ (.int .u32 n) := ⟨_, rfl⟩
      rw [← hwb] at hb2 hT2 ⊢
      have HB2 := Lib.hid (And.intro hb2 hT2)
      clear hwb hb2 hT2 hc12 hf12
      go_loopw [28] (fun u w5 => ∃ i : Nat, i ≤ 3 ∧ u = .int .i64 i ∧ Blk w5 (w.heap.size + 1 + 1 + 1) 49 (U32A (iter (putK nonce 13) i (s1.set 12 n))) ∧ Touch (fun x => x = w.heap.size + 1 + 1 + 1) W w5) (fun u _ => 3 - (intOf u).toNat)
      case atStart => exact ⟨0, by omega, rfl, HB2.out.1, HB2.out.2⟩
      case round =>
        obtain ⟨i, hi, rfl, hb, hT⟩ := hrel
        obtain ⟨w5, rfl⟩ : ∃ w5 : World, w5 = wr := ⟨_, rfl⟩
        have hlen : (iter (putK nonce 13) i (s1.set 12 n)).length = 16 := by rw [iter_len _ (putK_len _ _), List.length_set]; exact H1.out.2.1
        by_cases hi3 : i < 3
        · have hbk := HB.out.2.1.touch hT (by omega)
          have hby := hbk.byt (4 * i) 4
          have HI := Lib.hid (And.intro hb (And.intro hT (And.intro hlen hby)))
          clear hb hT hlen hby hbk
          have hs1 := sl27 w5 (w.heap.size + 1) (4 * i) 4 (by omega) (by omega)
          rw [show ((4 * i : Nat) : Int) = 4 * (i : Int) from by omega, show (((4 : Nat)) : Int) = 4 from rfl] at hs1
          go_wp2_with fail
          refine (little_read _ _ _ 4 _ _ (by have := H.out.2; simp; omega) (by omega) (by omega) (by omega) HI.out.2.2.2).mono ?_
          rintro e w2 ⟨rfl, hT2⟩
          have hb2 := HI.out.1.touch hT2 (fun h => h)
          have hf := hb2.frozen
          have hc0 := hb2.cell (13 + i)
          rw [U32A_get (by rw [HI.out.2.2.1]; omega)] at hc0
          have HB3 := Lib.hid hb2
          clear hs1 hb2
          go_wp2
          go_roundw
          case rel =>
            refine ⟨i + 1, by omega, by go_num, ?_, (HI.out.2.1.trans hT2 (fun _ _ h => h.elim)).setCell (.inr rfl) _⟩
            have := HB3.out.set_ (13 + i) (.int .u32 (littleF ((nonce.drop (4 * i)).take 4) % 4294967296))
            rw [U32A_set] at this
            exact this
          case measure => simp [intOf]; omega
        · have hi3' : i = 3 := by omega
          rw [hi3'] at hb hlen
          clear hi3'
          have hres : iter (putK nonce 13) 3 (s1.set 12 n) = firstF key nonce n := by unfold firstF; rw [H1.out.1]
          rw [hres] at hb hlen
          obtain ⟨F, hF⟩ : ∃ F, F = firstF key nonce n := ⟨_, rfl⟩
          rw [← hF] at hb hlen
          have hbz := HB.out.2.2.1.touch hT (by omega)
          have hi49 : (Try.prog.info? 49).map (·.size) = some (U32A F).size := by rw [U32A_size, hlen]; kernel_rfl
          have hsz : (U32A (List.replicate 16 0)).size = (U32A F).size := by rw [U32A_size, U32A_size, hlen]; rfl
          have HE := Lib.hid (And.intro hi49 (And.intro hsz (And.intro hT hF)))
          have hTw := HB.out.2.2.2.2
          clear hlen hT hF hi49 hsz hres
          go_wp2_with (first | (refine wpList_load_row rfl 49 (.tmp 7) rfl (w.heap.size + 1 + 1 + 1) rfl 49 (U32A F) (0, 0) (.array 16 33) hb (by kernel_rfl) rfl HE.out.1 ?_) | (refine wpList_store_row rfl 49 (.tmp 6) (.tmp 43) rfl (w.heap.size + 1 + 1) (U32A F) rfl rfl 49 _ hbz HE.out.1 HE.out.2.1 (U32A_one _) ?_))
          refine bodyPost_ret (v := .agg (U32A F)) (results_cell_row (P := Try.prog) rfl _ _ (w.heap.size + 1 + 1) 49 _ (0, 0) (.array 16 33) rfl (hbz.row _) (by kernel_rfl) rfl HE.out.1) rfl ⟨by rw [HE.out.2.2.2], ?_⟩
          exact (hTw.trans HE.out.2.2.1 (by intro b hb e; omega)).row (.inl (by omega)) _
end Go.Proofs.Ytelmjlfhmbicjaa
