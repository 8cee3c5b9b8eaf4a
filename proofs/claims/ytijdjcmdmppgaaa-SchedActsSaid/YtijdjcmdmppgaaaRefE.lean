/- The document's queue: Tick. -/
import Derived.Test.YtijdjcmdmppgaaaRefS
namespace Go.Proofs.Ytijdjcmdmppgaaa
open Go.RowKit
set_option linter.unusedVariables false

theorem picksP_app (b : Nat) (xs ys : List Jb) : picksP b (xs ++ ys) = ys.foldl (pkP b) (picksP b xs) := by unfold picksP; rw [List.foldl_append]

/-- The first loop: who of the first i goes on. -/
def TI (w : World) (P : Nat → List Jb) (C bt nx i n : Nat) (cls : Int) (fst : Nat) (A : Option Addr) (c : Nat) (wr : World) : Prop :=
  ∃ B, B = picksP bt (headsP P C nx i) ∧ B.length = n ∧ Rw wr 3 A c (iv (B.map (·.id))) ∧ (∀ a, A = some a → w.heap.size ≤ a.block) ∧ Touch (fun _ => False) w wr ∧ (∀ j, B[0]? = some j → cls = j.cls ∧ fst = j.client)
theorem TI.none {w : World} {P : Nat → List Jb} {C bt nx i n : Nat} {cls : Int} {fst : Nat} {A : Option Addr} {c : Nat} {wr : World} (h : TI w P C bt nx i n cls fst A c wr) (hP : P ((nx + i) % C) = []) : TI w P C bt nx (i + 1) n cls fst A c wr := by
  obtain ⟨B, hB, hr⟩ := h
  refine ⟨B, ?_, hr⟩
  rw [headsP, hP]; simpa using hB
theorem TI.skip {w : World} {P : Nat → List Jb} {C bt nx i n : Nat} {cls : Int} {fst : Nat} {A : Option Addr} {c : Nat} {wr : World} (h : TI w P C bt nx i n cls fst A c wr) {j : Jb} {t : List Jb} (hP : P ((nx + i) % C) = j :: t) (hs : n = bt ∨ (0 < n ∧ j.cls ≠ cls)) : TI w P C bt nx (i + 1) n cls fst A c wr := by
  obtain ⟨B, hB, hl, h1, h2, h3, h4⟩ := h
  refine ⟨B, ?_, hl, h1, h2, h3, h4⟩
  rw [headsP, hP, picksP_app, ← hB]
  show B = pkP bt B j
  unfold pkP
  rcases hs with hs | ⟨hs1, hs2⟩
  · rw [if_pos (by omega)]
  · split
    · rfl
    · cases B with
      | nil => simp at hl; omega
      | cons y s =>
        have := (h4 y (by simp)).1
        show _ = if j.cls = y.cls then _ else _
        rw [if_neg (by rw [← this]; exact hs2)]
theorem TI.put {w : World} {P : Nat → List Jb} {C bt nx i n : Nat} {cls cls' : Int} {fst fst' : Nat} {A A' : Option Addr} {c c' : Nat} {wr w' : World} (h : TI w P C bt nx i n cls fst A c wr) {j : Jb} {t : List Jb} (hP : P ((nx + i) % C) = j :: t) (hn : n ≠ bt) (hs : (n = 0 ∧ cls' = j.cls ∧ fst' = j.client) ∨ (0 < n ∧ j.cls = cls ∧ cls' = cls ∧ fst' = fst))
    (hr : Rw w' 3 A' c' (iv ((picksP bt (headsP P C nx i)).map (·.id)) ++ [.int .i64 j.id])) (hf : ∀ a, A' = some a → w.heap.size ≤ a.block) (hT : Touch (fun _ => False) w w') : TI w P C bt nx (i + 1) (n + 1) cls' fst' A' c' w' := by
  obtain ⟨B, hB, hl, h1, h2, h3, h4⟩ := h
  refine ⟨B ++ [j], ?_, by simp [hl], ?_, hf, hT, ?_⟩
  · rw [headsP, hP, picksP_app, ← hB]
    show B ++ [j] = pkP bt B j
    unfold pkP
    rw [if_neg (by omega)]
    cases B with
    | nil => rfl
    | cons y s =>
      have := (h4 y (by simp)).1
      rcases hs with ⟨h0, _⟩ | ⟨_, h0, _⟩
      · simp at hl; omega
      · show _ = if j.cls = y.cls then _ else _
        rw [if_pos (by rw [← this]; exact h0)]
  · rw [← hB] at hr; simpa [iv] using hr
  · intro x hx
    rcases hs with ⟨h0, e1, e2⟩ | ⟨h0, _, e1, e2⟩
    · have : B = [] := List.eq_nil_of_length_eq_zero (by omega)
      subst this
      simp at hx; subst hx
      exact ⟨e1, e2⟩
    · rw [List.getElem?_append_left (by omega)] at hx
      rw [e1, e2]; exact h4 x hx

theorem TI.touch {w : World} {P : Nat → List Jb} {C bt nx i n : Nat} {cls : Int} {fst : Nat} {A : Option Addr} {c : Nat} {wr w' : World} (h : TI w P C bt nx i n cls fst A c wr) (hT : Touch (fun _ => False) wr w') : TI w P C bt nx i n cls fst A c w' := by
  obtain ⟨B, hB, hl, h1, h2, h3, h4⟩ := h
  exact ⟨B, hB, hl, h1.touch hT (fun _ _ h => h), h2, h3.trans hT (fun _ _ h => h), h4⟩
theorem TI.row {w : World} {P : Nat → List Jb} {C bt nx i n : Nat} {cls : Int} {fst : Nat} {A : Option Addr} {c : Nat} {wr : World} (h : TI w P C bt nx i n cls fst A c wr) : Rw wr 3 A c (iv ((picksP bt (headsP P C nx i)).map (·.id))) ∧ (iv ((picksP bt (headsP P C nx i)).map (·.id))).length = n ∧ (∀ a, A = some a → w.heap.size ≤ a.block) ∧ Touch (fun _ => False) w wr := by
  obtain ⟨B, hB, hl, h1, h2, h3, h4⟩ := h
  rw [← hB]
  exact ⟨h1, by unfold iv; rw [List.length_map, List.length_map, hl], h2, h3⟩
theorem one_iv' (xs : List Int) : ∀ u ∈ iv xs, u.oneCell' = true := by
  intro u hu
  obtain ⟨x, _, rfl⟩ := List.mem_map.1 hu
  rfl

/-- Behind Tick. -/
def RTick (T : Nat → Prop) (r C k bt nx M : Nat) (P : Nat → List Jb) (B D : List Jb) (n1 n2 : Nat) (w : World) (e : Ending) (w' : World) : Prop :=
  ∃ (A1 : Option Addr) (c1 : Nat) (A2 : Option Addr) (c2 : Nat) (T' : Nat → Prop) (l' : List Jb), e = .returned (.tuple #[.slice A1 n1 c1, .slice A2 n2 c2]) ∧ Rw w' 3 A1 c1 (iv (B.map (·.id))) ∧ Rw w' 3 A2 c2 (iv (D.map (·.id))) ∧
    Rq w' T' r C k bt (nextP C nx B) M l' ∧ Fl C l' (hitsP k P B) ∧ Touch T w w' ∧ (∀ x, T' x → T x ∨ w.heap.size ≤ x)

set_option maxRecDepth 100000 in
set_option maxHeartbeats 8000000 in
theorem rtick_any (w : World) (T : Nat → Prop) (r C k bt nx M : Nat) (l : List Jb) (P : Nat → List Jb) (B D : List Jb) (n1 n2 : Nat) (h : Rq w T r C k bt nx M l) (hM : M ≤ 5000) (hF : Fl C l P) (hC0 : 1 ≤ C ∧ C ≤ 8 ∧ nx < C) (hk0 : 1 ≤ k ∧ k ≤ 4096 ∧ 1 ≤ bt ∧ bt ≤ 16)
    (hB : B = batchP P C nx bt) (hI : IsB C P B) (hD : D = doneP k B) (h1 : B.length = n1) (h2 : D.length = n2) :
    Calls Try.prog 21 #[.pointer (some ⟨r, 0, none⟩)] w (RTick T r C k bt nx M P B D n1 n2 w) := by
  obtain ⟨hC1, hC2, hC3⟩ := hC0
  obtain ⟨hk1, hk2, hk3, hk4⟩ := hk0
  have HR := Lib.hid h
  have HB := Lib.hid (And.intro hB (And.intro hI (And.intro hD (And.intro h1 (And.intro h2 hF)))))
  obtain ⟨A, cap, h⟩ := h
  obtain ⟨n, hn⟩ : ∃ n, l.length = n := ⟨_, rfl⟩
  have hnM : n ≤ M := by have := h.len; omega
  have y0 := h.blk.cell 0
  have y1 := h.blk.cell 1
  have y3 := h.blk.cell 3
  have y4 := h.blk.cell 4
  simp [hn] at y0 y1 y3 y4
  have HH := Lib.hid (And.intro h hn)
  have HY := Lib.hid (And.intro y0 (And.intro y1 (And.intro y3 y4)))
  clear hB hI hD h1 h2 hF h hn y0 y1 y3 y4
  go_enter Try.func21, Try.ntmps21
  go_wp2_with fail
  go_loopw [4, 6, 7, 8] (fun a b c u wr => ∃ (i n4 : Nat) (A4 : Option Addr) (c4 : Nat) (cls : Int) (fst : Nat), i ≤ C ∧ n4 ≤ i ∧ fst ≤ 8 ∧ u = .int .i64 i ∧ a = .slice A4 n4 c4 ∧ b = .int .i64 cls ∧ c = .int .i64 fst ∧ TI w P C bt nx i n4 cls fst A4 c4 wr) (fun _ _ _ u _ => C - (intOf u).toNat)
  case atStart => exact ⟨0, 0, none, 0, 0, 0, by omega, by omega, by omega, rfl, rfl, rfl, rfl, [], rfl, rfl, Rw.nil _ _, by simp, Touch.refl _ _, by simp⟩
  case round =>
    obtain ⟨i, n4, A4, c4, cls, fst, hi, hn4, hfst, rfl, rfl, rfl, rfl, hTI⟩ := hrel
    have hT : Touch (fun _ => False) w wr := hTI.choose_spec.2.2.2.2.1
    have HT := Lib.hid hTI
    clear hTI
    have y0 := hT.cell HY.out.1 (fun h => h)
    have y1 := hT.cell HY.out.2.1 (fun h => h)
    have y3 := hT.cell HY.out.2.2.1 (fun h => h)
    have y4 := hT.cell HY.out.2.2.2 (fun h => h)
    by_cases hiC : i < C
    · obtain ⟨c, hc⟩ : ∃ c : Nat, ((nx : Int) + i) % (C : Int) = (c : Int) := ⟨(nx + i) % C, rfl⟩
      have hcn : c = (nx + i) % C := by
        have : (((nx + i) % C : Nat) : Int) = (c : Int) := hc
        omega
      have hcC : c < C := by rw [hcn]; exact Nat.mod_lt _ (by omega)
      go_wp2
      refine wp_region_qall (by kernel_rfl) (by kernel_rfl) ?_
      repeat (first | go_big_quiet_skip | (go_big_quiet_want; go_big_quiet_op; go_big_quiet_on))
      refine wpQuiet_nil ?_
      try rw [hc]
      have HC := Lib.hid (And.intro hc hcn)
      clear hc hcn
      go_wp2_with fail
      obtain ⟨W, hW⟩ : ∃ W, W = wr.drew := ⟨_, rfl⟩
      rw [← hW]
      have hTW : Touch (fun _ => False) wr W := by rw [hW]; exact (Touch.refl _ wr).drew
      have HTr := HT
      clear HT y0 y1 y3 y4
      have HT := Lib.hid (HTr.out.touch hTW)
      clear HTr hW
      have hTw : Touch (fun _ => False) w W := hT.trans hTW (fun _ _ h => h)
      have y0 := hTw.cell HY.out.1 (fun h => h)
      have y3 := hTw.cell HY.out.2.2.1 (fun h => h)
      have HQ := Lib.hid (RqA.touch HH.out.1 hTw)
      cases hPc : P c with
      | nil =>
        have hno := HB.out.2.2.2.2.2.none hcC hPc
        have HP := Lib.hid (And.intro hPc hno)
        clear hPc hno
        refine (old_no W T r C k bt nx M l ⟨A, cap, HQ.out⟩ (by omega) c HP.out.2).mono ?_
        rintro e w5 ⟨rfl, rfl⟩
        go_wp2
        go_roundw
        case rel => exact ⟨i + 1, n4, A4, c4, cls, fst, by omega, by omega, hfst, by go_num, rfl, rfl, rfl, HT.out.none (by rw [← HC.out.2]; exact HP.out.1)⟩
        case measure => simp [intOf]; omega
      | cons j t =>
        obtain ⟨m, hm, hjc, hno⟩ := HB.out.2.2.2.2.2.head hcC hPc
        have hmn : m < n := by
          rcases Nat.lt_or_ge m n with h | h
          · exact h
          · rw [List.getElem?_eq_none (by have := HH.out.2; omega)] at hm; cases hm
        obtain ⟨g, rfl, c0, c1, c2, c3⟩ := HQ.out.row.cell hm
        obtain ⟨x, hx⟩ : ∃ x, x = j.id := ⟨_, rfl⟩
        obtain ⟨z, hz⟩ : ∃ z, z = j.cls := ⟨_, rfl⟩
        rw [← hx] at c0
        rw [← hz] at c2
        have HM := Lib.hid (And.intro hPc (And.intro hm (And.intro hjc (And.intro hno (And.intro hx hz)))))
        clear hPc hm hjc hno hx hz c1 c3
        refine (old_yes W T r C k bt nx M l ⟨_, cap, HQ.out⟩ (by omega) m j c HM.out.2.1 (by unfold jcl; rw [HM.out.2.2.1]) (fun i' y hi' hy e => HM.out.2.2.2.1 i' y hi' hy (by unfold jcl at e; omega))).mono ?_
        rintro e w5 ⟨rfl, rfl⟩
        by_cases hbt : n4 = bt
        · have e1 : ((n4 : Int) == (bt : Int)) = true := by simp; omega
          have HBT := Lib.hid hbt
          clear hbt
          go_wp2
          go_roundw
          case rel => exact ⟨i + 1, n4, A4, c4, cls, fst, by omega, by omega, hfst, by go_num, rfl, rfl, rfl, HT.out.skip (by rw [← HC.out.2]; exact HM.out.1) (.inl HBT.out)⟩
          case measure => simp [intOf]; omega
        · have e1 : ((n4 : Int) == (bt : Int)) = false := by rw [beq_eq_false_iff_ne]; omega
          by_cases h0 : n4 = 0
          · subst h0
            have e5 : ((0 : Int) == (bt : Int)) = false := by rw [beq_eq_false_iff_ne]; omega
            clear e1
            obtain ⟨xs, hxs⟩ : ∃ xs : List Int, xs = (picksP bt (headsP P C nx i)).map (·.id) := ⟨_, rfl⟩
            obtain ⟨hrw, hxl, hf4, hT4⟩ := HT.out.row
            rw [← hxs] at hrw hxl
            have HX := Lib.hid (And.intro hrw (And.intro hxl (And.intro hf4 (And.intro hT4 hxs))))
            clear hrw hxl hf4 hT4 hxs
            go_wp2_with (at_builtin; refine wpList_rw_push elem38 rfl (.tmp 75) (.tmp 84) rfl A4 c4 0 (iv xs) HX.out.2.1 rfl w5.heap.size (.int .i64 x) rfl ((Blk.new w5 3 #[.int .i64 x]).cell 0) rfl (HX.out.1.touch ((Touch.refl (fun _ => False) w5).alloc _) (fun _ _ h => h)) (one_iv' _) (by omega) ?_; intro A5 c5 w6 hr5 hT5 hf5; have HR5 := Lib.hid (And.intro hr5 (And.intro hT5 hf5)); clear hr5 hT5 hf5)
            go_roundw
            case rel =>
              refine ⟨i + 1, 0 + 1, A5, c5, z, c, by omega, by omega, by omega, by go_num, rfl, rfl, rfl, ?_⟩
              have hsz := HX.out.2.2.2.1.size
              refine HT.out.put (j := j) (t := t) (by rw [← HC.out.2]; exact HM.out.1) hbt (.inl ⟨rfl, HM.out.2.2.2.2.2, HM.out.2.2.1.symm⟩) ?_ (fun a ha => ?_) ?_
              · rw [← HX.out.2.2.2.2, ← HM.out.2.2.2.2.1]; exact HR5.out.1
              · rcases HR5.out.2.2 a ha with ⟨a0, h0', h1'⟩ | h
                · rw [← h1']; exact HX.out.2.2.1 a0 h0'
                · simp at h; omega
              · exact (HX.out.2.2.2.1.alloc _).trans HR5.out.2.1 (fun b hb ⟨a, ha, e⟩ => by have := HX.out.2.2.1 a ha; omega)
            case measure => simp [intOf]; omega
          · have h0' : (0 : Int) < n4 := by omega
            have e2 : decide ((0 : Int) < n4) = true := by simpa using h0'
            have e3 : ((n4 : Int) == 0) = false := by rw [beq_eq_false_iff_ne]; omega
            by_cases hz : z = cls
            · have e4 : (z != cls) = false := by simpa using hz
              have HZ := Lib.hid hz
              clear hz
              obtain ⟨xs, hxs⟩ : ∃ xs : List Int, xs = (picksP bt (headsP P C nx i)).map (·.id) := ⟨_, rfl⟩
              obtain ⟨hrw, hxl, hf4, hT4⟩ := HT.out.row
              rw [← hxs] at hrw hxl
              have HX := Lib.hid (And.intro hrw (And.intro hxl (And.intro hf4 (And.intro hT4 hxs))))
              clear hrw hxl hf4 hT4 hxs
              go_wp2_with (at_builtin; refine wpList_rw_push elem38 rfl (.tmp 75) (.tmp 84) rfl A4 c4 n4 (iv xs) HX.out.2.1 rfl w5.heap.size (.int .i64 x) rfl ((Blk.new w5 3 #[.int .i64 x]).cell 0) rfl (HX.out.1.touch ((Touch.refl (fun _ => False) w5).alloc _) (fun _ _ h => h)) (one_iv' _) (by omega) ?_; intro A5 c5 w6 hr5 hT5 hf5; have HR5 := Lib.hid (And.intro hr5 (And.intro hT5 hf5)); clear hr5 hT5 hf5)
              go_roundw
              case rel =>
                refine ⟨i + 1, n4 + 1, A5, c5, cls, fst, by omega, by omega, by omega, by go_num, rfl, rfl, rfl, ?_⟩
                have hsz := HX.out.2.2.2.1.size
                refine HT.out.put (j := j) (t := t) (by rw [← HC.out.2]; exact HM.out.1) hbt (.inr ⟨by omega, by rw [← HM.out.2.2.2.2.2]; exact HZ.out, rfl, rfl⟩) ?_ (fun a ha => ?_) ?_
                · rw [← HX.out.2.2.2.2, ← HM.out.2.2.2.2.1]; exact HR5.out.1
                · rcases HR5.out.2.2 a ha with ⟨a0, h0', h1'⟩ | h
                  · rw [← h1']; exact HX.out.2.2.1 a0 h0'
                  · simp at h; omega
                · exact (HX.out.2.2.2.1.alloc _).trans HR5.out.2.1 (fun b hb ⟨a, ha, e⟩ => by have := HX.out.2.2.1 a ha; omega)
              case measure => simp [intOf]; omega
            · have e4 : (z != cls) = true := by simpa using hz
              have HZ := Lib.hid hz
              clear hz
              go_wp2
              go_roundw
              case rel => exact ⟨i + 1, n4, A4, c4, cls, fst, by omega, by omega, hfst, by go_num, rfl, rfl, rfl, HT.out.skip (by rw [← HC.out.2]; exact HM.out.1) (.inr ⟨by omega, by rw [← HM.out.2.2.2.2.2]; exact HZ.out⟩)⟩
              case measure => simp [intOf]; omega
    · have hiC' : i = C := by omega
      subst hiC'
      obtain ⟨B', q1, q2, q3, q4, q5, q6⟩ := HT.out
      have hBB : B' = B := by rw [q1, HB.out.1]; rfl
      subst hBB
      have hnn : n4 = n1 := by rw [← q2]; exact HB.out.2.2.2.1
      subst hnn
      have hTJ : TJ w T r i k bt nx M P B' A4 c4 0 0 none 0 wr := ⟨T, l, HR.out.touch hT (fun _ _ h => h), HB.out.2.2.2.2.2, q3, fun a ha => ⟨fun hx => by have := HR.out.lt _ hx; have := q4 a ha; omega, q4 a ha⟩, rfl, Rw.nil _ _, fun a ha => (by cases ha), hT.weaken (fun _ _ h => h.elim), fun x hx => .inl hx⟩
      have HJ0 := Lib.hid (And.intro hTJ (And.intro q4 q6))
      clear hTJ q1 q2 q3 q4 q5 q6 HT y0 y3 y4 hiC
      go_wp2_with fail
      go_loopw [5, 11] (fun d u w2 => ∃ (m n5 : Nat) (A5 : Option Addr) (c5 : Nat), m ≤ n4 ∧ n5 ≤ m ∧ u = .int .i64 m ∧ d = .slice A5 n5 c5 ∧ TJ w T r i k bt nx M P B' A4 c4 m n5 A5 c5 w2) (fun _ u _ => n4 - (intOf u).toNat)
      case atStart => exact ⟨0, 0, none, 0, by omega, by omega, rfl, rfl, HJ0.out.1⟩
      case round =>
        obtain ⟨m, n5, A5, c5, hm, hn5, rfl, rfl, hJ⟩ := hrel
        obtain ⟨w2, rfl⟩ : ∃ w2 : World, w2 = wr := ⟨_, rfl⟩
        by_cases hmn : m < n4
        · obtain ⟨y, hy⟩ : ∃ y, B'[m]? = some y := ⟨_, List.getElem?_eq_getElem (by rw [HB.out.2.2.2.1]; exact hmn)⟩
          obtain ⟨T', l', p1, p2, p3, p4, p5, p6, p7, p8, p9⟩ := hJ
          obtain ⟨A', cap', p0⟩ := p1
          obtain ⟨b1, b2, ii, b3, b4⟩ := batch_next HB.out.2.1 hy p2
          obtain ⟨g4, rfl, hg4⟩ := p3.cell (iv_get (show (B'.map (·.id))[m]? = some y.id by rw [List.getElem?_map, hy]; rfl))
          obtain ⟨x, hx⟩ : ∃ x, x = y.id := ⟨_, rfl⟩
          rw [← hx] at hg4
          have HP := Lib.hid (And.intro p0 (And.intro p2 (And.intro p3 (And.intro p4 (And.intro p5 (And.intro p6 (And.intro p7 (And.intro p8 p9))))))))
          have HBN := Lib.hid (And.intro hy (And.intro b1 (And.intro b2 (And.intro b3 (And.intro b4 hx)))))
          clear p0 p2 p3 p4 p5 p6 p7 p8 p9 hy b1 b2 b3 b4 hx
          go_wp2_with fail
          refine (at_yes _ T' r i k bt nx M l' ⟨_, _, HP.out.1⟩ (by omega) ii y x HBN.out.2.2.2.1 HBN.out.2.2.2.2.2.symm (fun i' z hi' hz e => by
            have := HP.out.1.id i' ii z y hz HBN.out.2.2.2.1 (by rw [e, HBN.out.2.2.2.2.2]); omega)).mono ?_
          rintro e w3 ⟨rfl, rfl⟩
          obtain ⟨nl, hnl⟩ : ∃ nl, nl = l'.length := ⟨_, rfl⟩
          have hiil : ii < nl := by
            rcases Nat.lt_or_ge ii nl with h | h
            · exact h
            · have := HBN.out.2.2.2.1
              rw [List.getElem?_eq_none (by omega)] at this; cases this
          have hnlM : nl ≤ M := by have := HP.out.1.len; omega
          obtain ⟨gq, rfl, d0, d1, d2, d3⟩ := HP.out.1.row.cell HBN.out.2.2.2.1
          have e0 := HP.out.1.blk.cell 0
          have e2 := HP.out.1.blk.cell 2
          simp [← hnl] at e0 e2
          obtain ⟨b, hb⟩ : ∃ b, b = y.bytes := ⟨_, rfl⟩
          have hbm : b ≤ 9223372036854775807 := by rw [hb]; exact HP.out.1.byt y (List.mem_of_getElem? HBN.out.2.2.2.1)
          rw [← hb] at d3
          have HB2 := Lib.hid (And.intro hb hnl)
          clear hb hnl d0 d1 d2
          go_wp2
          refine wp_region_qall (by kernel_rfl) (by kernel_rfl) ?_
          repeat (first | go_big_quiet_skip | (go_big_quiet_want; go_big_quiet_op; go_big_quiet_on))
          refine wpQuiet_nil ?_
          obtain ⟨W, hW⟩ : ∃ W, W = w3.drew := ⟨_, rfl⟩
          rw [← hW]
          have hTW : Touch (fun _ => False) w3 W := by rw [hW]; exact (Touch.refl _ w3).drew
          have d3' := hTW.cell d3 (fun h => h)
          have e0' := hTW.cell e0 (fun h => h)
          have e2' := hTW.cell e2 (fun h => h)
          have hg4' := hTW.cell hg4 (fun h => h)
          have HQW := Lib.hid (RqA.touch HP.out.1 hTW)
          have hg4q : ¬ T' g4 := (HP.out.2.2.2.1 _ rfl).1
          clear d3 e0 e2 hg4 hW
          by_cases hbk : b ≤ k
          · have hbk' : decide ((k : Int) < b) = false := by simp; omega
            obtain ⟨xs, hxs⟩ : ∃ xs : List Int, xs = (doneP k (B'.take m)).map (·.id) := ⟨_, rfl⟩
            have hrw := HP.out.2.2.2.2.2.1.touch hTW (fun _ _ h => h)
            rw [← hxs] at hrw
            have hxl : (iv xs).length = n5 := by rw [hxs]; unfold iv; rw [List.length_map, List.length_map]; exact HP.out.2.2.2.2.1
            have HX := Lib.hid (And.intro hrw (And.intro hxl hxs))
            clear hrw hxl hxs
            go_wp2_with ((at_builtin; refine wpList_rw_push elem38 rfl (.tmp 126) (.tmp 131) rfl A5 c5 n5 (iv xs) HX.out.2.1 rfl W.heap.size (.int .i64 x) rfl ((Blk.new W 3 #[.int .i64 x]).cell 0) rfl (HX.out.1.touch ((Touch.refl (fun _ => False) W).alloc _) (fun _ _ h => h)) (one_iv' _) (by omega) ?_; intro A6 c6 w5 hr5 hT5 hf5; have hg5 := hT5.cell (((Touch.refl (fun _ => False) W).alloc _).cell hg4' (fun h => h)) (fun ⟨a, ha, e⟩ => (HP.out.2.2.2.2.2.2.1 a ha).2.2 _ rfl e.symm); have HR5 := Lib.hid (And.intro hr5 (And.intro hT5 hf5)); clear hr5 hT5 hf5))
            have hA1 : Touch (fun _ => False) W (W.alloc (.cells #[.int .i64 x] 3)) := (Touch.refl _ W).alloc _
            have hTw5 : Touch (fun b => ∃ a, A5 = some a ∧ a.block = b) W w5 := (hA1.weaken (fun _ _ h => h.elim)).trans HR5.out.2.1 (fun _ _ h => h)
            have hQ5 : Rq w5 T' r i k bt nx M l' := Rq.touch ⟨_, _, HQW.out⟩ hTw5 (fun b hb ⟨a, ha, e⟩ => (HP.out.2.2.2.2.2.2.1 a ha).1 (by rw [e]; exact hb))
            refine (rdrop_any w5 T' r i k bt nx M l' x hQ5 hM).mono ?_
            rintro e w6 ⟨v, T2, l2, rfl, hQ6, hT6, hF6, hres⟩
            have hl2 : l2 = l'.eraseIdx ii := by
              rcases hres with ⟨_, i2, j2, hi2, hj2, hl2⟩ | ⟨_, hno, _⟩
              · have := HP.out.1.id i2 ii j2 y hi2 HBN.out.2.2.2.1 (by rw [hj2, HBN.out.2.2.2.2.2])
                rw [hl2, this]
              · exact absurd HBN.out.2.2.2.2.2.symm (hno y (List.mem_of_getElem? HBN.out.2.2.2.1))
            have hsz5 := hTw5.size
            have hszW := hTW.size
            have hg4lt : g4 < w3.heap.size := HP.out.2.2.1.lt rfl
            have hA6 : ∀ a, A6 = some a → ¬ T' a.block ∧ w.heap.size ≤ a.block ∧ g4 ≠ a.block := fun a ha => by
              rcases HR5.out.2.2 a ha with ⟨a0, h0, h1⟩ | h
              · obtain ⟨z1, z2, z3⟩ := HP.out.2.2.2.2.2.2.1 a0 h0
                rw [← h1]; exact ⟨z1, z2, z3 _ rfl⟩
              · have h' : W.heap.size + 1 ≤ a.block := by simpa using h
                have := HP.out.2.2.2.2.2.2.2.1.size
                exact ⟨fun hx => by have := HQW.out.lt _ hx; omega, by omega, by omega⟩
            have hTJ : TJ w T r i k bt nx M P B' (some ⟨g4, 0, none⟩) c4 (m + 1) (n5 + 1) A6 c6 w6 := by
              refine ⟨T2, l2, hQ6, ?_, ?_, fun a ha => ⟨fun hx => ?_, (HP.out.2.2.2.1 a ha).2⟩, ?_, ?_, fun a ha => ⟨fun hx => ?_, (hA6 a ha).2.1, fun a' ha' => ?_⟩, ?_, fun z hz => ?_⟩
              · rw [hl2, hitsP_snoc k P B' m y HBN.out.1]
                have := Fl.erase HP.out.2.1 HP.out.1.id HBN.out.2.2.2.1 HBN.out.2.1 HBN.out.2.2.1
                unfold hitP
                rw [if_pos (by rw [← HB2.out.1]; exact hbk)]
                rw [List.eraseIdx_zero] at this
                exact this
              · exact ((HP.out.2.2.1.touch hTW (fun _ _ h => h)).touch hTw5 (fun a ha ⟨a5, ha5, e⟩ => (HP.out.2.2.2.2.2.2.1 a5 ha5).2.2 a ha e.symm)).touch hT6 (fun a ha => (HP.out.2.2.2.1 a ha).1)
              · injection ha with ha; subst ha
                rcases hF6 _ hx with h | h
                · exact hg4q h
                · simp at h; omega
              · rw [doneP_snoc k B' m y HBN.out.1, if_pos (by rw [← HB2.out.1]; exact hbk), List.length_append, HP.out.2.2.2.2.1]; rfl
              · rw [doneP_snoc k B' m y HBN.out.1, if_pos (by rw [← HB2.out.1]; exact hbk)]
                have h := HR5.out.1.touch hT6 (fun a ha => (hA6 a ha).1)
                rw [HX.out.2.2] at h
                have e : iv ((doneP k (B'.take m) ++ [y]).map (·.id)) = iv ((doneP k (B'.take m)).map (·.id)) ++ [.int .i64 x] := by rw [HBN.out.2.2.2.2.2]; simp [iv]
                rw [e]; exact h
              · have := HR5.out.1.lt ha
                rcases hF6 _ hx with h | h
                · exact (hA6 a ha).1 h
                · omega
              · injection ha' with ha'; subst ha'; exact (hA6 a ha).2.2
              · exact ((HP.out.2.2.2.2.2.2.2.1.trans hTW (fun _ _ h => h.elim)).trans hTw5 (fun b hb ⟨a, ha, e⟩ => by have := (HP.out.2.2.2.2.2.2.1 a ha).2.1; omega)).trans hT6 (fun b hb hs => by
                  rcases HP.out.2.2.2.2.2.2.2.2 b hs with h | h
                  · exact h
                  · omega)
              · have := HP.out.2.2.2.2.2.2.2.1.size
                rcases hF6 z hz with h | h
                · exact HP.out.2.2.2.2.2.2.2.2 z h
                · exact .inr (by omega)
            have HTJ := Lib.hid hTJ
            clear hTJ hA6 hQ6 hT6 hF6 hres hl2 hQ5 hTw5 hA1
            go_wp2
            go_roundw
            case rel => exact ⟨m + 1, n5 + 1, A6, c6, by omega, by omega, by go_num, rfl, HTJ.out⟩
            case measure => simp [intOf]; omega
          · have hbk' : decide ((k : Int) < b) = true := by simp; omega
            have hsub : (b : Int) - k = ((b - k : Nat) : Int) := by omega
            go_wp2
            refine wp_region_qtail 13 (by kernel_rfl) (by kernel_rfl) ?_
            simp only [List.take_succ_cons, List.take_zero, List.drop_succ_cons, List.drop_zero]
            repeat (first | go_big_quiet_skip | (go_big_quiet_want; go_big_quiet_op; go_big_quiet_on))
            refine wpQuiet_nil ?_
            obtain ⟨W2, hW2⟩ : ∃ W2, W2 = W.drew := ⟨_, rfl⟩
            rw [← hW2]
            have hTW2 : Touch (fun _ => False) W W2 := by rw [hW2]; exact (Touch.refl _ W).drew
            have d4 := hTW2.cell d3' (fun h => h)
            have HQ2 := Lib.hid (RqA.touch HQW.out hTW2)
            have hfz := HQ2.out.row.frozen (ii * 4 + 3)
            clear d3' e0' e2' hW2
            have hcut := HQ2.out.cut HBN.out.2.2.2.1 (b - k) (by omega)
            have ht : Touch (fun x => x = gq) W2 (W2.setCell ⟨gq, ii * 4 + 3, none⟩ (.int .i64 ((b - k : Nat) : Int))) := (Touch.refl (fun x => x = gq) W2).setCell (p := ⟨gq, ii * 4 + 3, none⟩) (.inr rfl) _
            have hgT : T' gq := HQ2.out.mine _ rfl
            have hT3 : Touch (fun x => x = gq) w3 (W2.setCell ⟨gq, ii * 4 + 3, none⟩ (.int .i64 ((b - k : Nat) : Int))) := ((hTW.trans hTW2 (fun _ _ h => h)).weaken (fun _ _ h => h.elim)).trans ht (fun _ _ h => h)
            have hTJ : TJ w T r i k bt nx M P B' (some ⟨g4, 0, none⟩) c4 (m + 1) n5 A5 c5 (W2.setCell ⟨gq, ii * 4 + 3, none⟩ (.int .i64 ((b - k : Nat) : Int))) := by
              refine ⟨T', _, ⟨_, _, hcut⟩, ?_, HP.out.2.2.1.touch hT3 (fun a ha e => (HP.out.2.2.2.1 a ha).1 (by rw [e]; exact hgT)), HP.out.2.2.2.1, ?_, ?_, HP.out.2.2.2.2.2.2.1, ?_, HP.out.2.2.2.2.2.2.2.2⟩
              · rw [hitsP_snoc k P B' m y HBN.out.1]
                have := Fl.set HP.out.2.1 HBN.out.2.2.2.1 (x := { y with bytes := b - k }) rfl HBN.out.2.2.2.2.1 HBN.out.2.1
                unfold hitP
                rw [if_neg (by rw [← HB2.out.1]; exact hbk), ← HB2.out.1]
                exact this
              · rw [doneP_snoc k B' m y HBN.out.1, if_neg (by rw [← HB2.out.1]; exact hbk)]; exact HP.out.2.2.2.2.1
              · rw [doneP_snoc k B' m y HBN.out.1, if_neg (by rw [← HB2.out.1]; exact hbk)]
                exact HP.out.2.2.2.2.2.1.touch hT3 (fun a ha e => (HP.out.2.2.2.2.2.2.1 a ha).1 (by rw [e]; exact hgT))
              · exact HP.out.2.2.2.2.2.2.2.1.trans hT3 (fun z hz e => by
                  rcases HP.out.2.2.2.2.2.2.2.2 gq hgT with h | h
                  · rw [e]; exact h
                  · omega)
            have HTJ := Lib.hid hTJ
            clear hTJ hT3 ht hcut
            go_wp2
            go_roundw
            case rel => exact ⟨m + 1, n5, A5, c5, by omega, by omega, by go_num, rfl, HTJ.out⟩
            case measure => simp [intOf]; omega
        · have hmn' : m = n4 := by omega
          subst hmn'
          obtain ⟨T', l', p1, p2, p3, p4, p5, p6, p7, p8, p9⟩ := hJ
          obtain ⟨A', cap', p0⟩ := p1
          have htk : B'.take m = B' := List.take_of_length_le (by rw [HB.out.2.2.2.1]; exact Nat.le_refl _)
          rw [htk] at p2 p5 p6
          rw [← HB.out.2.2.1] at p5 p6
          have hn52 : n5 = n2 := by rw [← p5]; exact HB.out.2.2.2.2.1
          subst hn52
          have e1 := p0.blk.cell 1
          have e4 := p0.blk.cell 4
          simp at e1 e4
          have hfz := p0.blk.frozen 4
          have HP := Lib.hid (And.intro p0 (And.intro p2 (And.intro p3 (And.intro p4 (And.intro p6 (And.intro p7 (And.intro p8 p9)))))))
          clear p0 p2 p3 p4 p5 p6 p7 p8 p9 htk
          by_cases hm0 : 0 < m
          · have hm0' : decide ((0 : Int) < m) = true := by simp; omega
            obtain ⟨nx', hnx⟩ : ∃ nx' : Nat, ((fst : Int) + 1) % (i : Int) = (nx' : Int) := ⟨(fst + 1) % i, rfl⟩
            have hnn : nextP i nx B' = nx' := by
              have e : nx' = (fst + 1) % i := by
                have : (((fst + 1) % i : Nat) : Int) = (nx' : Int) := hnx
                omega
              cases hBc : B' with
              | nil => have := HB.out.2.2.2.1; rw [hBc] at this; simp at this; omega
              | cons j t =>
                have := (HJ0.out.2.2 j (by rw [hBc]; rfl)).2
                rw [e, this]; rfl
            have HNN := Lib.hid hnn
            clear hnn
            go_wp2
            go_ret2
            have ht : Touch (fun x => x = r) w2 (w2.setCell ⟨r, 4, none⟩ (.int .i64 nx')) := (Touch.refl (fun x => x = r) w2).setCell (p := ⟨r, 4, none⟩) (.inr rfl) _
            have hrT := HP.out.1.own
            refine ⟨A4, c4, A5, c5, T', l', rfl, HP.out.2.2.1.touch ht (fun a ha e => (HP.out.2.2.2.1 a ha).1 (by rw [e]; exact hrT)), HP.out.2.2.2.2.1.touch ht (fun a ha e => (HP.out.2.2.2.2.2.1 a ha).1 (by rw [e]; exact hrT)), ⟨_, _, by rw [HNN.out]; exact HP.out.1.turn nx'⟩, HP.out.2.1, HP.out.2.2.2.2.2.2.1.trans ht (fun z hz e => by
              rcases HP.out.2.2.2.2.2.2.2 r hrT with h | h
              · rw [e]; exact h
              · omega), HP.out.2.2.2.2.2.2.2⟩
          · have hm0' : ¬ (0 : Int) < (m : Int) := by omega
            have hBn : B' = [] := List.eq_nil_of_length_eq_zero (by rw [HB.out.2.2.2.1]; omega)
            have HBN := Lib.hid hBn
            clear hBn
            go_wp2
            go_ret2
            refine ⟨A4, c4, A5, c5, T', l', rfl, HP.out.2.2.1, HP.out.2.2.2.2.1, ⟨_, _, by rw [HBN.out]; exact HP.out.1⟩, HP.out.2.1, HP.out.2.2.2.2.2.2.1, HP.out.2.2.2.2.2.2.2⟩
end Go.Proofs.Ytijdjcmdmppgaaa
