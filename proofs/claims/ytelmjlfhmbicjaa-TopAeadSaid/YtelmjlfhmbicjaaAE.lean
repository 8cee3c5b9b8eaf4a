/- aead: crypted, what Seal does. -/
import Derived.Test.YtelmjlfhmbicjaaAD
namespace Go.Proofs.Ytelmjlfhmbicjaa
open Go.RowKit
set_option linter.unusedVariables false

theorem row45 : ∃ fs, Try.prog.underlying 45 = some (.struct fs) := by
  have h : (Try.prog.underlying 45).map (fun d => match d with | .struct _ => true | _ => false) = some true := by kernel_rfl
  cases hq : Try.prog.underlying 45 with
  | none => rw [hq] at h; cases h
  | some d =>
    rw [hq] at h
    cases d with
    | struct fs => exact ⟨fs, rfl⟩
    | _ => cases h

set_option maxHeartbeats 1000000 in
theorem crypted_any (w : World) (key nonce b : List Int) (A : Option Addr) (c : Nat) (hk : key.length = 32) (hn : nonce.length = 12) (hm : b.length ≤ 4096) (hin : Inb w A b) :
    Calls Try.prog 14 #[.agg (U8A (key ++ nonce)), .slice A b.length c] w fun e w' => ∃ g, e = .returned (.slice (some ⟨g, 0, none⟩) b.length b.length) ∧ Blk w' g 5 (U8A (cryptF key nonce 1 b)) ∧ Touch (fun _ => False) w w' ∧ w.heap.size ≤ g := by
  have hb0 := Blk.new w 45 (U8A (key ++ nonce))
  have hT0 : Touch (fun _ => False) w (w.alloc (Obj.cells (U8A (key ++ nonce)) 45)) := (Touch.refl _ w).alloc _
  obtain ⟨W, hW⟩ : ∃ W, W = w.alloc (Obj.cells (U8A (key ++ nonce)) 45) := ⟨_, rfl⟩
  rw [← hW] at hb0 hT0
  obtain ⟨g, hg⟩ : ∃ g, g = w.heap.size := ⟨_, rfl⟩
  rw [← hg] at hb0
  have hi22 : (Try.prog.info? 22).map (·.size) = some ((key.map (Value.int .u8))).length := by rw [List.length_map, hk]; kernel_rfl
  have hi27 : (Try.prog.info? 27).map (·.size) = some ((nonce.map (Value.int .u8))).length := by rw [List.length_map, hn]; kernel_rfl
  have hr22 : W.rangeAt g 0 (key.map (Value.int .u8)) := byt_range (by have := hb0.byt 0 32; rwa [List.drop_zero, List.take_append_of_le_length (by omega), List.take_of_length_le (by omega)] at this)
  have hr27 : W.rangeAt g 32 (nonce.map (Value.int .u8)) := byt_range (by have := hb0.byt 32 12; rwa [List.drop_append_of_le_length (by omega), List.drop_eq_nil_of_le (by omega), List.nil_append, List.take_of_length_le (by omega)] at this)
  have H := Lib.hid (And.intro hk (And.intro hn (And.intro hm (And.intro hin (And.intro hT0 hg)))))
  go_enter Try.func14, Try.ntmps14
  go_upto_region 1 with fail
  refine Eq.mp (congrArg (fun x => Code.wp _ _ _ _ x) hW) ?_
  rw [← hg]
  clear hk hn hm hin hT0 hW hg hb0
  go_wp2_with (first | (refine wpList_load_mid rfl 22 (.tmp 5) rfl g 0 rfl (key.map (Value.int .u8)) (.array 32 5) hr22 (by kernel_rfl) rfl hi22 ?_) | (refine wpList_load_mid rfl 27 (.tmp 7) rfl g 32 rfl (nonce.map (Value.int .u8)) (.array 12 5) hr27 (by kernel_rfl) rfl hi27 ?_))
  rw [show (key.map (Value.int .u8)).toArray = U8A key from rfl, show (nonce.map (Value.int .u8)).toArray = U8A nonce from rfl]
  refine (crypt_any W key nonce 1 A b.length c b H.out.1 H.out.2.1 rfl H.out.2.2.1 (H.out.2.2.2.1.touch H.out.2.2.2.2.1 (fun _ _ _ _ h => h))).mono ?_
  rintro e w1 ⟨o, rfl, hb1, hT1, ho⟩
  have H1 := Lib.hid (And.intro hb1 (And.intro hT1 ho))
  clear hb1 hT1 ho hr22 hr27 hi22 hi27
  go_wp2
  go_ret
  exact ⟨o, rfl, H1.out.1, H.out.2.2.2.2.1.trans H1.out.2.1 (fun _ _ h => h), by have := H.out.2.2.2.2.1.size; have := H1.out.2.2; omega⟩

/-- What is sealed: the text, crypted, and its tag. -/
def sealedF (F : N3 → N3) (key nonce aad b : List Int) : List Int := cryptF key nonce 1 b ++ tagF F ((blockF key nonce 0).take 32) aad (cryptF key nonce 1 b)
theorem tagF_len (F : N3 → N3) (k aad sealed : List Int) : (tagF F k aad sealed).length = 16 := sumF_len _ _ _

set_option maxHeartbeats 1000000 in
theorem seal1_any (F : N3 → N3) (w : World) (key nonce aad b : List Int) (hk : key.length = 32) (hn : nonce.length = 12) (A1 A2 : Option Addr) (c1 c2 p1 p2 : Nat)
    (hF : Mul (kr0 ((blockF key nonce 0).take 32)) (kr1 ((blockF key nonce 0).take 32)) F) (hb1 : Blk w p1 26 #[.slice A2 b.length c2]) (hb2 : Blk w p2 26 #[.slice A1 aad.length c1])
    (h1 : Inb w A1 aad) (h2 : Inb w A2 b) (m1 : aad.length % 16 = 0) (m2 : b.length % 16 = 0) (l1 : aad.length ≤ 4000) (l2 : b.length ≤ 4000) :
    Calls Try.prog 13 #[.agg (U8A (key ++ nonce)), .pointer (some ⟨p1, 0, none⟩), .pointer (some ⟨p2, 0, none⟩)] w fun e w' => ∃ A cap, e = .returned (.tuple #[.slice A (b.length + 16) cap, .int .i64 0]) ∧
      Rest w' A cap (sealedF F key nonce aad b) ∧ Touch (fun _ => False) w w' ∧ ∀ a, A = some a → w.heap.size ≤ a.block := by
  have hb0 := Blk.new w 45 (U8A (key ++ nonce))
  have hT0 : Touch (fun _ => False) w (w.alloc (Obj.cells (U8A (key ++ nonce)) 45)) := (Touch.refl _ w).alloc _
  obtain ⟨W, hW⟩ : ∃ W, W = w.alloc (Obj.cells (U8A (key ++ nonce)) 45) := ⟨_, rfl⟩
  rw [← hW] at hb0 hT0
  obtain ⟨g, hg⟩ : ∃ g, g = w.heap.size := ⟨_, rfl⟩
  rw [← hg] at hb0
  have hi45 : (Try.prog.info? 45).map (·.size) = some (U8A (key ++ nonce)).size := by rw [U8A_size, List.length_append, hk, hn]; kernel_rfl
  obtain ⟨fs, hd1⟩ := row45
  have q1 := (hb1.touch hT0 (fun h => h)).cell 0
  have q2 := (hb2.touch hT0 (fun h => h)).cell 0
  simp only [List.getElem?_toArray, List.getElem?_cons_zero] at q1 q2
  have H := Lib.hid (And.intro hk (And.intro hn (And.intro h1 (And.intro h2 (And.intro m1 (And.intro m2 (And.intro l1 (And.intro l2 (And.intro hT0 (And.intro hF (And.intro hb2 hg)))))))))))
  have HD := Lib.hid (And.intro hi45 hd1)
  go_enter Try.func13, Try.ntmps13
  go_upto_region 1 with fail
  refine Eq.mp (congrArg (fun x => Code.wp _ _ _ _ x) hW) ?_
  rw [← hg]
  clear hk hn h1 h2 m1 m2 l1 l2 hT0 hF hb1 hb2 hW hg hi45 hd1
  go_wp2_with (refine wpList_load_row rfl 45 (.tmp 3) rfl g rfl 45 (U8A (key ++ nonce)) (0, 0) (.struct fs) hb0 HD.out.2 rfl HD.out.1 ?_)
  refine (crypted_any W key nonce b A2 c2 H.out.1 H.out.2.1 (by have := H.out.2.2.2.2.2.2.2.1; omega) (H.out.2.2.2.1.touch H.out.2.2.2.2.2.2.2.2.1 (fun _ _ _ _ h => h))).mono ?_
  rintro e w1 ⟨o, rfl, hb1, hT1, ho⟩
  obtain ⟨C, hC⟩ : ∃ C, C = cryptF key nonce 1 b := ⟨_, rfl⟩
  have hCl : C.length = b.length := by rw [hC]; exact cryptF_len _ _ _ _
  rw [← hC] at hb1
  have hT01 : Touch (fun _ => False) w w1 := H.out.2.2.2.2.2.2.2.2.1.trans hT1 (fun _ _ h => h)
  have q2 := (H.out.2.2.2.2.2.2.2.2.2.2.1.touch hT01 (fun h => h)).cell 0
  simp only [List.getElem?_toArray, List.getElem?_cons_zero] at q2
  have hb01 := hb0.touch hT1 (fun h => h)
  have H1 := Lib.hid (And.intro hb1 (And.intro hT01 (And.intro ho (And.intro hC hCl))))
  clear hb1 hT1 hT01 ho hC hCl q1 hb0
  go_wp2_with (refine wpList_load_row rfl 45 (.tmp 3) rfl g rfl 45 (U8A (key ++ nonce)) (0, 0) (.struct fs) hb01 HD.out.2 rfl HD.out.1 ?_)
  have hbyC : Byt w1 o 0 C := by have := H1.out.1.byt 0 C.length; rwa [List.drop_zero, List.take_of_length_le (Nat.le_refl _)] at this
  have htag := tag_any F w1 key nonce aad C H.out.1 H.out.2.1 A1 (some ⟨o, 0, none⟩) c1 b.length H.out.2.2.2.2.2.2.2.2.2.1 (H.out.2.2.1.touch H1.out.2.1 (fun _ _ _ _ h => h)) (.inr ⟨o, 0, rfl, hbyC⟩) H.out.2.2.2.2.1 (by rw [H1.out.2.2.2.2]; exact H.out.2.2.2.2.2.1) (by have := H.out.2.2.2.2.2.2.1; omega) (by rw [H1.out.2.2.2.2]; have := H.out.2.2.2.2.2.2.2.1; omega)
  rw [H1.out.2.2.2.2] at htag
  refine htag.mono ?_
  rintro e w2 ⟨o2, rfl, hby2, hT2⟩
  obtain ⟨G, hG⟩ : ∃ G, G = tagF F ((blockF key nonce 0).take 32) aad C := ⟨_, rfl⟩
  have hGl : G.length = 16 := by rw [hG]; exact tagF_len _ _ _ _
  rw [← hG] at hby2
  have hrest : Rest w2 (some ⟨o, 0, none⟩) b.length C := by
    have := H1.out.1.touch hT2 (fun h => h)
    refine .inr ⟨o, 0, U8A C, rfl, this, by rw [H1.out.2.2.2.2]; omega, by have := H.out.2.2.2.2.2.2.2.1; omega, by rw [U8A_size, H1.out.2.2.2.2]; omega, fun i hi => by rw [Nat.zero_add]; exact U8A_get hi⟩
  have hin2 : Inb w2 (some ⟨o2, 0, none⟩) G := .inr ⟨o2, 0, rfl, hby2⟩
  have H2 := Lib.hid (And.intro hrest (And.intro hin2 (And.intro (H1.out.2.1.trans hT2 (fun _ _ h => h)) (And.intro hG hGl))))
  clear hrest hin2 hT2 hG hGl hby2 hbyC htag q2 hb01
  go_wp2_with (at_builtin; refine wpList_rest_append rfl (.tmp 10) (.tmp 14) rfl (some ⟨o, 0, none⟩) b.length C (by rw [H1.out.2.2.2.2]; rfl) (some ⟨o2, 0, none⟩) 16 G (by rw [H2.out.2.2.2.2]; rfl) H2.out.1 H2.out.2.1 (by rw [H1.out.2.2.2.2, H2.out.2.2.2.2]; have := H.out.2.2.2.2.2.2.2.1; omega) ?_; intro A3 cap3 w3 hR3 hT3 hN3; have HR3 := Lib.hid (And.intro hR3 (And.intro hT3 hN3)); clear hR3 hT3 hN3)
  go_ret2
  refine ⟨A3, cap3, by rw [H1.out.2.2.2.2, H2.out.2.2.2.2]; rfl, ?_, ?_, fun a ha => ?_⟩
  · have := HR3.out.1
    rw [H2.out.2.2.2.1, H1.out.2.2.2.1] at this
    exact this
  · refine H2.out.2.2.1.trans HR3.out.2.1 (fun z hz ⟨a, ha, e⟩ => ?_)
    injection ha with ha; subst ha
    have := H1.out.2.2.1; have := H.out.2.2.2.2.2.2.2.2.1.size
    simp at e; omega
  · have h3 := H1.out.2.2.1; have h4 := H.out.2.2.2.2.2.2.2.2.1.size; have h5 := H2.out.2.2.1.size
    rcases HR3.out.2.2 a ha with ⟨a0, h1, h2⟩ | h
    · injection h1 with h1; subst h1; simp at h2; omega
    · omega
end Go.Proofs.Ytelmjlfhmbicjaa
