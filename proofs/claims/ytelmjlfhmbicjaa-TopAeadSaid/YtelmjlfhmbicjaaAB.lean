/- poly: New. -/
import Derived.Test.YtelmjlfhmbicjaaAA
namespace Go.Proofs.Ytelmjlfhmbicjaa
open Go.RowKit
set_option linter.unusedVariables false

theorem arr23 (W : World) (ad : Addr) (n c : Nat) (h : 16 ≤ n) : (Instr.arrayAt 23 (.slice (some ad) n c)).run Try.prog W = .ok (.pointer (some ad)) W := by
  have h22 : Try.prog.underlying 23 = some (.array 16 5) := by kernel_rfl
  have hn : ¬ n < 16 := by omega
  simp [Instr.arrayAt, run_underlying h22, hn, go_sem]
theorem arr22 (W : World) (ad : Addr) (n c : Nat) (h : 32 ≤ n) : (Instr.arrayAt 22 (.slice (some ad) n c)).run Try.prog W = .ok (.pointer (some ad)) W := by
  have h22 : Try.prog.underlying 22 = some (.array 32 5) := by kernel_rfl
  have hn : ¬ n < 32 := by omega
  simp [Instr.arrayAt, run_underlying h22, hn, go_sem]
theorem arr27 (W : World) (ad : Addr) (n c : Nat) (h : 12 ≤ n) : (Instr.arrayAt 27 (.slice (some ad) n c)).run Try.prog W = .ok (.pointer (some ad)) W := by
  have h22 : Try.prog.underlying 27 = some (.array 12 5) := by kernel_rfl
  have hn : ¬ n < 12 := by omega
  simp [Instr.arrayAt, run_underlying h22, hn, go_sem]
theorem sl23a (W : World) (g : Nat) : (Instr.sliceAt 23 (.pointer (some ⟨g, 0, none⟩)) none none none).run Try.prog W = .ok (.slice (some ⟨g, 0, none⟩) 16 16) W := by
  have hl : Try.prog.arrayLen 23 = 16 := by kernel_rfl
  have he : Try.prog.elem 23 = 5 := by kernel_rfl
  rw [run_sliceAt_array_all W 23 ⟨g, 0, none⟩ (by kernel_rfl), he, sz5, hl]
  simp only [slicedAt, Result.andThen_ok, Nat.zero_mul, Nat.sub_zero]
  rw [if_neg (by omega), Addr.add_mid]
theorem sl22l (W : World) (g l : Nat) (h1 : l < 32) : (Instr.sliceAt 22 (.pointer (some ⟨g, 0, none⟩)) (some (.int .i64 l)) none none).run Try.prog W = .ok (.slice (some ⟨g, l, none⟩) (32 - l) (32 - l)) W := by
  have hl : Try.prog.arrayLen 22 = 32 := by kernel_rfl
  have he : Try.prog.elem 22 = 5 := by kernel_rfl
  rw [run_sliceAt_array_l W 22 ⟨g, 0, none⟩ (by kernel_rfl) .i64 l (by omega) (by rw [hl]; omega), he, sz5, hl]
  simp only [Result.andThen_ok, slicedAt]
  have e2 : (l : Int).toNat = l := by omega
  rw [e2, if_neg (by omega), Addr.add_mid]
  simp
theorem byt_range {w : World} {g off : Nat} {xs : List Int} (h : Byt w g off xs) : w.rangeAt g off (xs.map (Value.int .u8)) := fun j u hu => by
  have hj : j < xs.length := by
    rcases Nat.lt_or_ge j xs.length with h | h
    · exact h
    · rw [List.getElem?_eq_none (by simpa using h)] at hu; cases hu
  rw [u8_get xs j hj] at hu
  rw [h j hj, hu]

/-- The numbers of a key. -/
def keyR (key : List Int) : List Int := clampF (key.take 16)
def kr0 (key : List Int) : Nat := leN ((keyR key).take 8)
def kr1 (key : List Int) : Nat := leN (((keyR key).drop 8).take 8)
def ks0 (key : List Int) : Nat := leN ((key.drop 16).take 8)
def ks1 (key : List Int) : Nat := leN (((key.drop 16).drop 8).take 8)

set_option maxRecDepth 100000 in
set_option maxHeartbeats 1000000 in
theorem new_any (w : World) (B0 : Nat) (key : List Int) (hk : key.length = 32) (hB : B0 ≤ w.heap.size) :
    Calls Try.prog 6 #[.agg (U8A key)] w fun e w' => ∃ p, e = .returned (.pointer (some ⟨p, 0, none⟩)) ∧ Pol B0 (kr0 key) (kr1 key) (.int .u64 (ks0 key)) (.int .u64 (ks1 key)) w' p (0, 0, 0) [] ∧ Touch (fun _ => False) w w' := by
  have hb0 := Blk.new w 22 (U8A key)
  have hT0 : Touch (fun _ => False) w (w.alloc (Obj.cells (U8A key) 22)) := (Touch.refl _ w).alloc _
  obtain ⟨W, hW⟩ : ∃ W, W = w.alloc (Obj.cells (U8A key) 22) := ⟨_, rfl⟩
  rw [← hW] at hb0 hT0
  obtain ⟨b, hb⟩ : ∃ b, b = w.heap.size := ⟨_, rfl⟩
  rw [← hb] at hb0
  obtain ⟨kt, hkt⟩ : ∃ kt, kt = key.take 16 := ⟨_, rfl⟩
  have hktl : kt.length = 16 := by rw [hkt, List.length_take, hk]; rfl
  have hi23 : (Try.prog.info? 23).map (·.size) = some ((kt.map (Value.int .u8))).length := by rw [List.length_map, hktl]; kernel_rfl
  have hr : W.rangeAt b 0 (kt.map (Value.int .u8)) := byt_range (by have := hb0.byt 0 16; rwa [List.drop_zero, ← hkt] at this)
  have HKT := Lib.hid (And.intro hkt hktl)
  clear hkt hktl
  have har := arr23 W ⟨b, 0, none⟩ 16 32 (by omega)
  have H := Lib.hid (And.intro hk (And.intro hb0 (And.intro hT0 hB)))
  go_enter Try.func6, Try.ntmps6
  go_upto_region 1 with fail
  refine Eq.mp (congrArg (fun x => Code.wp _ _ _ _ x) hW) ?_
  rw [← hb]
  clear hk hb0 hT0 hB hW hb
  go_wp2_with (refine wpList_load_mid rfl 23 (.tmp 5) rfl b 0 rfl (kt.map (Value.int .u8)) (.array 16 5) hr (by kernel_rfl) rfl hi23 ?_)
  rw [show (kt.map (Value.int .u8)).toArray = U8A kt from rfl]
  refine (clamp_any W kt HKT.out.2).mono ?_
  rintro e w1 ⟨rfl, hT1⟩
  obtain ⟨R, hR⟩ : ∃ R, R = clampF kt := ⟨_, rfl⟩
  rw [← hR]
  have hRl : R.length = 16 := by rw [hR, clampF_len, HKT.out.2]
  have hi : (Try.prog.info? 23).map (·.size) = some (U8A R).size := by rw [U8A_size, hRl]; kernel_rfl
  have hsz : (U8A (List.replicate 16 0)).size = (U8A R).size := by rw [U8A_size, U8A_size, hRl]; rfl
  have hv0 := Blk.new w1 23 (U8A (List.replicate 16 0))
  have HI := Lib.hid (And.intro hi hsz)
  have HR := Lib.hid (And.intro hR hRl)
  clear hi hsz hr har hi23 hR hRl
  go_upto_region 2 with (refine wpList_store_row rfl 23 (.tmp 3) (.tmp 7) rfl w1.heap.size (U8A R) rfl rfl 23 _ hv0 HI.out.1 HI.out.2 (U8A_one _) ?_)
  obtain ⟨w2, hw2⟩ : ∃ w2, w2 = (w1.alloc (Obj.cells (U8A (List.replicate 16 0)) 23)).setRow w1.heap.size (U8A R) := ⟨_, rfl⟩
  have hT2 : Touch (fun _ => False) W w2 := by rw [hw2]; exact (hT1.alloc _).row (.inl hT1.size) _
  have hv2 : Blk w2 w1.heap.size 23 (U8A R) := by rw [hw2]; exact hv0.row _
  refine Eq.mp (congrArg (fun x => Code.wp _ _ _ _ x) hw2) ?_
  obtain ⟨v, hv⟩ : ∃ v, v = w1.heap.size := ⟨_, rfl⟩
  rw [← hv] at hv2 ⊢
  have H2 := Lib.hid (And.intro hT2 hv2)
  clear hw2 hT2 hv2 hv0 hv hT1 HI
  dsimp only [Act.put]
  obtain ⟨S, HS⟩ : ∃ S : World → Prop, Hid (∀ w', S w') := ⟨fun _ => True, fun _ => trivial⟩
  refine wp_region_tr S (.q 0 (.q 2 (.e 1 (.e 3 (.q 4 (.e 5 (.e 6 .nil))))))) (by kernel_rfl) (by kernel_rfl) (HS.out _) (fun hne => ?_)
  have z0 : ∀ x : SW S, (Instr.sliceAt 23 (.pointer (some ⟨v, 0, none⟩)) none none none).run Try.prog x.w = .ok (.slice (some ⟨v, 0, none⟩) 16 16) x.w := fun x => sl23a x.w v
  have z2 : ∀ x : SW S, (Instr.sliceAt 22 (.pointer (some ⟨b, 0, none⟩)) (some (.int .i64 16)) none none).run Try.prog x.w = .ok (.slice (some ⟨b, 16, none⟩) 16 16) x.w := fun x => sl22l x.w b 16 (by omega)
  repeat (refine wpTr_q (by simp only [List.getElem?_toArray, List.getElem?_cons_zero, List.getElem?_cons_succ]; rfl) ?_; (first | go_big_quiet_skip | (go_big_quiet_want; go_big_quiet_op; go_big_quiet_on)); refine wpQuiet_nil ?_)
  clear z0 z2
  refine wpTr_e (by simp only [List.getElem?_toArray, List.getElem?_cons_zero, List.getElem?_cons_succ]; rfl) (fun K1 hK1 => ?_)
  go_wp2_with fail
  have hbv : Byt w2.drew v 0 R := by have := H2.out.2.drew.byt 0 16; rwa [List.drop_zero, List.take_of_length_le (by rw [HR.out.2]; omega)] at this
  refine (half_any w2.drew v 0 16 16 R HR.out.2 (by omega) (by omega) hbv).mono ?_
  rintro e w3 ⟨rfl, hT3⟩
  have H3 := Lib.hid hT3
  clear hT3 hbv
  refine hK1 _ _ ⟨HS.out _, ?_⟩
  refine wpTr_e (by simp only [List.getElem?_toArray, List.getElem?_cons_zero, List.getElem?_cons_succ]; rfl) (fun K2 hK2 => ?_)
  go_wp2_with fail
  have hbk : Byt w3 b 16 (key.drop 16) := by
    have := (((H.out.2.1.touch H2.out.1 (fun h => h)).drew).touch H3.out (fun h => h)).byt 16 16
    rwa [List.take_of_length_le (by rw [List.length_drop, H.out.1]; omega)] at this
  refine (half_any w3 b 16 16 16 (key.drop 16) (by rw [List.length_drop, H.out.1]) (by omega) (by omega) hbk).mono ?_
  rintro e w4 ⟨rfl, hT4⟩
  have H4 := Lib.hid hT4
  clear hT4 hbk
  refine hK2 _ _ ⟨HS.out _, ?_⟩
  repeat (refine wpTr_q (by simp only [List.getElem?_toArray, List.getElem?_cons_zero, List.getElem?_cons_succ]; rfl) ?_; (first | go_big_quiet_skip | (go_big_quiet_want; go_big_quiet_op; go_big_quiet_on)); refine wpQuiet_nil ?_)
  refine wpTr_e (by simp only [List.getElem?_toArray, List.getElem?_cons_zero, List.getElem?_cons_succ]; rfl) (fun K3 hK3 => ?_)
  go_wp2_with fail
  refine ⟨HS.out _, ?_⟩
  refine wpTr_e (by simp only [List.getElem?_toArray, List.getElem?_cons_zero, List.getElem?_cons_succ]; rfl) (fun K4 hK4 => ?_)
  go_wp2_with fail
  try refine ⟨HS.out _, wpTr_nil ?_⟩
  try go_wp2
  go_ret
  refine ⟨_, rfl, ⟨?_, ⟨by decide, by decide, by decide⟩, none, 0, ?_, .inl ⟨rfl, rfl, rfl⟩, fun a ha => by cases ha⟩, ?_⟩
  · have := H.out.2.2.1.size; have := H2.out.1.size; have := H3.out.size; have := H4.out.size; have := H.out.2.2.2
    simp at *; omega
  · have hn := Blk.new w4 59 #[.int .u64 (littleF (R.take 8)), .int .u64 (littleF ((R.drop 8).take 8)), .int .u64 (littleF ((key.drop 16).take 8)), .int .u64 (littleF ((key.drop 24).take 8)), .int .u64 0, .int .u64 0, .int .u64 0, .slice none 0 0]
    rw [(leN_eq (R.take 8)).1, (leN_eq ((R.drop 8).take 8)).1, (leN_eq ((key.drop 16).take 8)).1, (leN_eq ((key.drop 24).take 8)).1] at hn ⊢
    have e24 : (key.drop 16).drop 8 = key.drop 24 := by rw [List.drop_drop]
    rw [polA, kr0, kr1, ks0, ks1, keyR, e24, ← HKT.out.1, ← HR.out.1]
    exact hn
  · exact (((H.out.2.2.1.trans H2.out.1 (fun _ _ h => h)).drew.trans H3.out (fun _ _ h => h)).trans H4.out (fun _ _ h => h)).alloc _
end Go.Proofs.Ytelmjlfhmbicjaa
