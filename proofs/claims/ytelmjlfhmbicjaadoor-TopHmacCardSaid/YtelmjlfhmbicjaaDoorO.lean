/- hmac: pad, Reset. -/
import Derived.Test.YtelmjlfhmbicjaaDoorN
namespace Go.Proofs.YtelmjlfhmbicjaaDoor
open Go.RowKit
set_option linter.unusedVariables false

/-- A state's cells. -/
def hmA (ks : List Int) (p : Value) : Array Value := (ks.map (Value.int .u8) ++ [p]).toArray
theorem hmA_key {ks : List Int} {p : Value} {i : Nat} (h : i < ks.length) : (hmA ks p)[i]? = some (.int .u8 (ks.getD i 0)) := by
  rw [hmA, List.getElem?_toArray, List.getElem?_append_left (by simpa using h), u8_get ks i h]
theorem hmA_ptr {ks : List Int} {p : Value} : (hmA ks p)[ks.length]? = some p := by
  rw [hmA, List.getElem?_toArray, List.getElem?_append_right (by simp)]
  simp
theorem Blk.keys {w : World} {g : Nat} {ks : List Int} {p : Value} (h : Blk w g 51 (hmA ks p)) : Byt w g 0 ks := fun i hi => by rw [h.cell, Nat.zero_add, hmA_key hi]

set_option maxHeartbeats 400000 in
theorem hpad_any (w : World) (hb : Nat) (ks : List Int) (p : Value) (x : Int) (hk : ks.length = 64) (h : Blk w hb 51 (hmA ks p)) :
    Calls Tryd.prog 22 #[.pointer (some ⟨hb, 0, none⟩), .int .u8 x] w fun e w' => ∃ r, w.heap.size ≤ r ∧ e = .returned (.slice (some ⟨r, 0, none⟩) 64 64) ∧ Blk w' r 5 (U8A (xorL ks x)) ∧ Touch (fun _ => False) w w' := by
  have H := Lib.hid (And.intro hk h)
  clear hk h
  go_enter Tryd.func22, Tryd.ntmps22
  go_wp2_with fail
  obtain ⟨S, HS⟩ : ∃ S : World → Prop, Hid (∀ w', S w') := ⟨fun _ => True, fun _ => trivial⟩
  refine wp_region_gr S 8 [(0, false), (1, false), (2, false), (3, false), (4, false), (5, true), (6, true), (7, true), (8, true)] (by kernel_rfl) (by kernel_rfl) (HS.out _) (fun hne => ?_)
  simp only [withOps, List.filterMap_cons, List.filterMap_nil, Option.map_some, List.getElem?_cons_zero, List.getElem?_cons_succ]
  repeat (refine wpGr_q ?_; (first | go_big_quiet_skip | (go_big_quiet_want; go_big_quiet_op; go_big_quiet_on)); refine wpQuiet_nil ?_)
  refine wpGr_eff rfl (fun K1 hK1 => ?_)
  go_wp2_with fail
  refine ⟨.inr (HS.out _), ?_⟩
  refine wpGr_eff rfl (fun K2 hK2 => ?_)
  go_wp2_with fail
  have hT1 : Touch (fun _ => False) w (w.alloc (.cells #[.int .u8 x] 5)).drew := ((Touch.refl _ w).alloc _).drew
  refine (repeat_any _ w.heap.size x (Blk.new _ _ _).drew).mono ?_
  rintro e w2 ⟨rfl, ⟨cur, hc2, hcx⟩, hT2⟩
  have hT02 := hT1.trans hT2 (by simp)
  obtain ⟨g2, hg2⟩ : ∃ g2, g2 = (w.alloc (.cells #[.int .u8 x] 5)).drew.heap.size := ⟨_, rfl⟩
  rw [← hg2] at hc2 ⊢
  have HG := Lib.hid hg2
  clear hg2
  refine hK2 _ _ ⟨.inr (HS.out _), ?_⟩
  refine wpGr_eff rfl (fun K3 hK3 => ?_)
  go_wp2_with fail
  refine (xor_any w2 hb g2 0 64 64 x ks H.out.1 (H.out.2.touch hT02 (by simp)).keys (fun i hi => by rw [hc2.cell, hcx i hi])).mono ?_
  rintro e w3 ⟨rfl, hb3, hT3⟩
  refine hK3 _ _ ⟨.inr (HS.out _), ?_⟩
  refine wpGr_eff rfl (fun K4 hK4 => ?_)
  go_wp2_with fail
  refine wpGr_nil ?_
  go_wp2
  go_ret
  exact ⟨w2.heap.size + 2, by have := hT02.size; omega, rfl, hb3, hT02.trans hT3 (by simp)⟩

theorem hmA_set (ks : List Int) (p q : Value) : (hmA ks p).setIfInBounds ks.length q = hmA ks q := by
  simp [hmA]

theorem sha_own {K : List Int} {w : World} {sb : Nat} {xs : List Int} {N : Nat} (h : Sha K w sb xs N) {b : Nat} (ho : OwnS w sb b) : b < w.heap.size := by
  obtain ⟨_, A, c, hb, hr, _⟩ := h
  rcases (OwnS.of hb (hK_len K xs _)).1 ho with h | ⟨a, ha, h⟩
  · rw [h]; exact hb.lt
  · rw [← h]; exact hr.lt ha
theorem Sha.touch {K : List Int} {w w' : World} {sb : Nat} {xs : List Int} {N : Nat} {S : Nat → Prop} (h : Sha K w sb xs N) (ht : Touch S w w') (hS : ∀ b, OwnS w sb b → ¬ S b) : Sha K w' sb xs N := by
  obtain ⟨h1, A, c, hb, hr, hA⟩ := h
  have ho := fun b => OwnS.of (b := b) hb (hK_len K xs _)
  exact ⟨h1, A, c, hb.touch ht (hS _ ((ho sb).2 (.inl rfl))), hr.touch ht (fun a ha => hS _ ((ho a.block).2 (.inr ⟨a, ha, rfl⟩))), hA⟩
theorem OwnS.touch {K : List Int} {w w' : World} {sb : Nat} {xs : List Int} {N : Nat} {S : Nat → Prop} (h : Sha K w sb xs N) (ht : Touch S w w') (hS : ¬ S sb) {b : Nat} (ho : OwnS w' sb b) : OwnS w sb b := by
  obtain ⟨h1, A, c, hb, hr, hA⟩ := h
  exact (OwnS.of hb (hK_len K xs _)).2 ((OwnS.of (hb.touch ht hS) (hK_len K xs _)).1 ho)

set_option maxHeartbeats 400000 in
theorem reset_any (K : List Int) (w : World) (hb : Nat) (ks : List Int) (p : Value) (hk : ks.length = 64) (h : Blk w hb 51 (hmA ks p)) (hT : Tab K w) (h0 : ¬ hb = 0) :
    Calls Tryd.prog 21 #[.pointer (some ⟨hb, 0, none⟩)] w fun e w' => ∃ sb, w.heap.size ≤ sb ∧ e = .returned (.tuple #[]) ∧ Blk w' hb 51 (hmA ks (.pointer (some ⟨sb, 0, none⟩))) ∧ Sha K w' sb (xorL ks 54) 64 ∧ Touch (fun b => b = hb) w w' ∧ ∀ b, OwnS w' sb b → w.heap.size ≤ b := by
  have H := Lib.hid (And.intro hk (And.intro h hT))
  have hlt := h.lt
  clear hk h hT
  go_enter Tryd.func21, Tryd.ntmps21
  go_wp2_with fail
  refine (new_any w).mono ?_
  rintro e w2 ⟨sb, hsb, rfl, hb2, hT2⟩
  have hh2 := H.out.2.1.touch hT2 (by simp)
  have c64 := hh2.cell 64
  rw [← H.out.1, hmA_ptr, H.out.1] at c64
  have hfr := hh2.frozen
  have HB := Lib.hid (And.intro hb2 (And.intro hT2 hh2))
  clear hb2 hT2 hh2
  go_wp2_with fail
  have hT3 : Touch (fun b => b = hb) w2 (w2.setCell ⟨hb, 64, none⟩ (.pointer (some ⟨sb, 0, none⟩))) := (Touch.refl (fun b => b = hb) w2).setCell (p := ⟨hb, 64, none⟩) (.inr rfl) _
  have hh3 : Blk (w2.setCell ⟨hb, 64, none⟩ (.pointer (some ⟨sb, 0, none⟩))) hb 51 (hmA ks (.pointer (some ⟨sb, 0, none⟩))) := by
    have := HB.out.2.2.set_ 64 (.pointer (some ⟨sb, 0, none⟩))
    rw [← H.out.1, hmA_set] at this
    rw [← H.out.1]
    exact this
  obtain ⟨w3, hw3⟩ : ∃ w3, w3 = (w2.setCell ⟨hb, 64, none⟩ (.pointer (some ⟨sb, 0, none⟩))) := ⟨_, rfl⟩
  rw [← hw3] at hT3 hh3 ⊢
  have hs3 : w3.heap.size = w2.heap.size := by rw [hw3]; simp
  have hne : ¬ sb = hb := by omega
  have hb3 := HB.out.1.touch hT3 hne
  have hT03 : Touch (fun b => b = hb) w w3 := (HB.out.2.1.weaken (by simp)).trans hT3 (by simp)
  have hp3 : w3.cell? ⟨hb, 64, none⟩ = some (.pointer (some ⟨sb, 0, none⟩)) := by rw [hh3.cell, ← H.out.1, hmA_ptr]
  have htab3 : Tab K w3 := H.out.2.2.touch hT03 (fun e => h0 e.symm)
  have H3 := Lib.hid (And.intro hh3 (And.intro hb3 (And.intro hT03 (And.intro hp3 (And.intro htab3 hs3)))))
  clear hw3 hT3 hh3 hb3 hT03 hp3 htab3 hs3 HB c64 hfr
  obtain ⟨S, HS⟩ : ∃ S : World → Prop, Hid (∀ w', S w' ↔ w'.cell? ⟨hb, 64, none⟩ = some (.pointer (some ⟨sb, 0, none⟩))) := ⟨_, fun _ => Iff.rfl⟩
  refine wp_region_gr S 7 [(0, false), (1, false), (2, false), (3, false), (4, false), (5, false), (6, true), (7, true)] (by kernel_rfl) (by kernel_rfl) ((HS.out _).2 H3.out.2.2.2.1) (fun hne => ?_)
  have s0 : ∀ x : SW S, x.w.cell? ⟨hb, 64, none⟩ = _ := fun x => (HS.out _).1 x.ok
  simp only [withOps, List.filterMap_cons, List.filterMap_nil, Option.map_some, List.getElem?_cons_zero, List.getElem?_cons_succ]
  repeat (refine wpGr_q ?_; (first | go_big_quiet_skip | (go_big_quiet_want; go_big_quiet_op; go_big_quiet_on)); refine wpQuiet_nil ?_)
  refine wpGr_eff rfl (fun K1 hK1 => ?_)
  go_wp2_with fail
  refine (hpad_any w3.drew hb ks (.pointer (some ⟨sb, 0, none⟩)) 54 H.out.1 H3.out.1.drew).mono ?_
  rintro e w4 ⟨r, hr, rfl, hr4, hT4⟩
  have hT34 : Touch (fun _ => False) w3 w4 := ((Touch.refl _ w3).drew).trans hT4 (by simp)
  have hp4 : w4.cell? ⟨hb, 64, none⟩ = some (.pointer (some ⟨sb, 0, none⟩)) := by rw [(H3.out.1.touch hT34 (by simp)).cell, ← H.out.1, hmA_ptr]
  have hb4 := H3.out.2.1.touch hT34 (by simp)
  have hin4 : Inb w4 (some ⟨r, 0, none⟩) (xorL ks 54) := .inr ⟨r, 0, rfl, fun i hi => by rw [hr4.cell, Nat.zero_add, U8A_get hi]⟩
  refine hK1 _ _ ⟨.inr ((HS.out _).2 hp4), ?_⟩
  refine wpGr_eff rfl (fun K2 hK2 => ?_)
  have hxl : (xorL ks 54).length = 64 := by rw [xorL_len, H.out.1]
  have hsb3 : sb < w3.heap.size := H3.out.2.1.lt
  have hr' : w3.heap.size ≤ r := hr
  have HW := write_any K w4 sb [] (xorL ks 54) (some ⟨r, 0, none⟩) 64 0 (sha_new hb4) hin4 (fun a ha _ ho => by injection ha with ha; subst ha; have h2 := own_new hb4 ho; simp at h2; omega) (H3.out.2.2.2.2.1.touch hT34 (by simp)) (fun ho => by have h2 := own_new hb4 ho; omega) (by rw [hxl]; simp) (by omega)
  rw [hxl] at HW
  have HW2 := Lib.hid HW
  have H4 := Lib.hid (And.intro hb4 (And.intro hT34 hxl))
  clear HW hxl hin4 hp4 hb4 hT34 hr4 hT4 s0
  go_wp2_with fail
  refine HW2.out.mono ?_
  rintro e w5 ⟨rfl, hsha5, hT5, hf5⟩
  simp only [List.nil_append, Nat.zero_add] at hsha5
  have hown4 : ∀ b, OwnS w4 sb b → b = sb := fun b ho => own_new H4.out.1 ho
  have hh5 : Blk w5 hb 51 (hmA ks (.pointer (some ⟨sb, 0, none⟩))) := (H3.out.1.touch H4.out.2.1 (by simp)).touch hT5 (fun ho => by have := hown4 _ ho; omega)
  have hT05 : Touch (fun b => b = hb) w w5 := (H3.out.2.2.1.trans H4.out.2.1 (by simp)).trans hT5 (fun b hb ho => by have := hown4 _ ho; omega)
  have hnew5 : ∀ b, OwnS w5 sb b → w.heap.size ≤ b := fun b ho => by
    rcases hf5 b ho with h | h
    · have := hown4 _ h; omega
    · have h1 := H3.out.2.2.1.size; have h2 := H4.out.2.1.size; omega
  have H5 := Lib.hid (And.intro hh5 (And.intro hsha5 (And.intro hT05 hnew5)))
  clear hh5 hsha5 hT05 hnew5 hT5 hf5 hown4
  refine hK2 _ _ ⟨by simp, wpGr_nil ?_⟩
  go_wp2
  go_end0
  exact ⟨sb, hsb, rfl, H5.out.1, H5.out.2.1, H5.out.2.2.1, H5.out.2.2.2⟩
end Go.Proofs.YtelmjlfhmbicjaaDoor
