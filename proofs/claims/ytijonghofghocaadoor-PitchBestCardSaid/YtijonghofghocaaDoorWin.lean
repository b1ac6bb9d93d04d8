/-
  The window of candidates: where it lies, and push. Condition: the window is the call's own.
-/
import Derived.Test.YtijonghofghocaaDoorRowT
namespace Go.Proofs.YtijonghofghocaaDoor
open Go.RowKit

theorem info104 : (Tryd.prog.info? 104).map (fun i => (i.zero, i.size, i.bytes)) = some (some (.agg #[.int .i64 0, .int .i64 0]), 2, 16) := by kernel_rfl
def wcells : List (Int × Int) → List Value
  | [] => []
  | x :: L => .int .i64 x.1 :: .int .i64 x.2 :: wcells L
theorem wcells_snoc (L : List (Int × Int)) (x : Int × Int) : wcells (L ++ [x]) = wcells L ++ [.int .i64 x.1, .int .i64 x.2] := by
  induction L with
  | nil => rfl
  | cons y L ih => simp only [List.cons_append, wcells, ih]
/-- The window lies in block B: its items in a row of their own, above it. -/
structure Win (w : World) (B : Nat) (v : Value) (L : List (Int × Int)) : Prop where
  blk : w.heap[B]? = some (.cells #[v, .func (.func 75) #[] #[]] 108 (0, 0))
  row : w.ownsRow (B + 1) 104 2 v L.length (wcells L)
/-- What a call that works on the window alone leaves as it was. -/
structure WEff (B : Nat) (v v' : Value) (w w' : World) : Prop where
  os : w'.os = w.os
  tape : w'.tape = w.tape
  output : w'.output = w.output
  size : w.heap.size ≤ w'.heap.size
  block : ∀ k, k < w.heap.size → k ≠ B → v.ownBlock ≠ some k → w'.heap[k]? = w.heap[k]?
  own : v'.ownBlock = v.ownBlock ∨ ∀ g, v'.ownBlock = some g → w.heap.size ≤ g
theorem WEff.refl (B : Nat) (v : Value) (w : World) : WEff B v v w w := ⟨rfl, rfl, rfl, Nat.le_refl _, fun _ _ _ _ => rfl, .inl rfl⟩
theorem WEff.trans {B : Nat} {v v1 v2 : Value} {w w1 w2 : World} (h : WEff B v v1 w w1) (h' : WEff B v1 v2 w1 w2) : WEff B v v2 w w2 := by
  refine ⟨h'.os.trans h.os, h'.tape.trans h.tape, h'.output.trans h.output, Nat.le_trans h.size h'.size, fun k hk hB hv => ?_, ?_⟩
  · rw [h'.block k (Nat.lt_of_lt_of_le hk h.size) hB fun e => ?_]
    · exact h.block k hk hB hv
    · rcases h.own with h1 | h1
      · exact hv (h1 ▸ e)
      · have := h1 k e; omega
  · rcases h'.own with h1 | h1
    · rcases h.own with h2 | h2
      · exact .inl (h1.trans h2)
      · exact .inr fun g hg => h2 g (h1 ▸ hg)
    · exact .inr fun g hg => Nat.le_trans h.size (h1 g hg)
end Go.Proofs.YtijonghofghocaaDoor
