/- Copies; appends, as the walk meets them. -/
import Derived.Test.YtelmjlfhmbicjaaG
import Derived.Laws.CopyOwn
namespace Go.Proofs.Ytelmjlfhmbicjaa
open Go.RowKit
set_option linter.unusedVariables false

/-- Bytes are put over others. -/
def copyF (ys : List Int) (off : Nat) (bs : List Int) : List Int := ys.take off ++ (bs ++ ys.drop (off + bs.length))
theorem copyF_len (ys : List Int) (off : Nat) (bs : List Int) (h : off + bs.length ≤ ys.length) : (copyF ys off bs).length = ys.length := by
  simp [copyF]; omega
theorem U8A_copy (ys : List Int) (off : Nat) (bs : List Int) : ((U8A ys).toList.take off ++ ((bs.map (Value.int .u8)) ++ (U8A ys).toList.drop (off + (bs.map (Value.int .u8)).length))).toArray = U8A (copyF ys off bs) := by
  simp [U8A, copyF, List.map_take, List.map_drop]

/-- The builtin, as the walk meets it. -/
theorem wp_copy_u8 {o : Oper} {a : Act} {w : World} {K : Act → World → Prop} {Q : Exit → Act → World → Prop} (d s : Operand) (ho : o.op = .call { callee := .builtin .copy, args := #[d, s], argTypes := #[26, 26] })
    (g off dLen dCap : Nat) (ad : Addr) (sLen sCap : Nat) (hd : a.eval d = .slice (some ⟨g, off, none⟩) dLen dCap) (hs : a.eval s = .slice (some ad) sLen sCap)
    (t : TypeId) (ys bs : List Int) (hg : Blk w g t (U8A ys)) (hn : bs.length = Nat.min sLen dLen) (hsrc : ∀ j u, (bs.map (Value.int .u8))[j]? = some u → w.cell? (ad.add j) = some u) (hfit : off + bs.length ≤ ys.length)
    (h : K (a.put o.dst (goInt bs.length)) (w.setRow g (U8A (copyF ys off bs)))) : o.wp Try.prog a w K Q := by
  have hrun := run_copy_row (P := Try.prog) w 26 26 o.type 5 g off dLen dCap ad sLen sCap (U8A ys) t (bs.map (Value.int .u8)) (by kernel_rfl) (by kernel_rfl) hg (by simpa using hn) hsrc (by rw [U8A_size]; simpa using hfit) (fun v hv => by
    simp at hv
    obtain ⟨x, _, rfl⟩ := hv
    rfl)
  rw [List.append_assoc, U8A_copy] at hrun
  unfold Oper.wp
  simp [execOp, ho, resolve, invoke, builtin, hd, hs, hrun, Result.andThen]
  exact h

theorem Rest.inb {w : World} {A : Option Addr} {cap : Nat} {xs : List Int} (h : Rest w A cap xs) : Inb w A xs := by
  rcases h with ⟨rfl, _, rfl⟩ | ⟨g, off, cur, rfl, hb, _, _, _, hx⟩
  · exact .inl rfl
  · exact .inr ⟨g, off, rfl, fun i hi => by rw [hb.cell, hx i hi]⟩

theorem wp_rest_append {o : Oper} {a : Act} {w : World} {K : Act → World → Prop} {Q : Exit → Act → World → Prop} (s x : Operand)
    (ho : o.op = .call { callee := .builtin .append, args := #[s, x], argTypes := #[26, 26] }) (A : Option Addr) (cap : Nat) (xs : List Int) (hv : a.eval s = .slice A xs.length cap) (B : Option Addr) (c : Nat) (ys : List Int) (hx : a.eval x = .slice B ys.length c)
    (h : Rest w A cap xs) (hs : Inb w B ys) (hb : xs.length + ys.length ≤ 100000)
    (hK : ∀ A' cap' w', Rest w' A' cap' (xs ++ ys) → Touch (fun b => ∃ a, A = some a ∧ a.block = b) w w' → (∀ a, A' = some a → (∃ a0, A = some a0 ∧ a0.block = a.block) ∨ w.heap.size ≤ a.block) → K (a.put o.dst (.slice A' (xs.length + ys.length) cap')) w') : o.wp Try.prog a w K Q := by
  have hty : ∀ ty, (Builtin.append_ #[26, 26] ty #[.slice A xs.length cap, .slice B ys.length c]) = (Builtin.append_ #[26, 26] 26 #[.slice A xs.length cap, .slice B ys.length c]) := fun ty => rfl
  obtain ⟨A', cap', w', hrun, hr, hT, hf⟩ := rest_append w A cap xs h (.slice B ys.length c) ys.length ys (hs.src c) hb
  unfold Oper.wp
  simp [execOp, ho, resolve, invoke, builtin, hv, hx, hty, hrun, Result.andThen]
  exact hK A' cap' w' hr hT hf

end Go.Proofs.Ytelmjlfhmbicjaa
