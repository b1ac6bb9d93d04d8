/-
  A slice of integers that the call appends to, said by a list. No condition beyond the slice's own.
-/
import Derived.Test.YtijonghofghocaaDoorOwn
namespace Go.Proofs.YtijonghofghocaaDoor
open Go.RowKit

def GrowL (w : World) (base : Nat) (v : Value) (xs : List Int) : Prop := w.ownsRow base 3 1 v xs.length (xs.map (Value.int .i64))
theorem GrowL.none (w : World) (base : Nat) : GrowL w base (.slice none 0 0) [] := World.ownsRow_nil w base 3 1
theorem GrowL.later {w w' : World} {base : Nat} {v : Value} {xs : List Int} (h : GrowL w base v xs) (hb : Below w.heap.size w w') : GrowL w' base v xs :=
  World.ownsRow.kept (row := Option.none) h ⟨hb.os, hb.tape, hb.output, hb.size, fun k hk _ => hb.block k hk⟩ (by cases v.ownBlock <;> simp)
theorem GrowL.ints {w : World} {base : Nat} {v : Value} {xs : List Int} (h : GrowL w base v xs) : ∃ p cap, v = .slice p xs.length cap ∧ Ints w p xs.length (fun i => xs.getD i 0) := by
  rcases h.2 with ⟨hv, hn⟩ | ⟨g, cap, cur, hv, _, hg, h1, h2, h3, h4⟩
  · exact ⟨.none, 0, by rw [hv, hn], .inl hn⟩
  · refine ⟨some ⟨g, 0, .none⟩, cap, hv, .inr ⟨g, 0, rfl, lt_of_block hg, fun i hi => ?_⟩⟩
    subst hv
    rw [Nat.zero_add, World.ownsRow.cellAt h i (by omega)]
    simp [hi]
theorem append_list {P : Program} (hP : P.underlying 34 = some (.slice 3)) (hI : (P.info? 3).map (fun i => (i.zero, i.size, i.bytes)) = some (some (.int .i64 0), 1, 8)) (w : World) {ops : Array Oper} {rest : List Oper} {o : Oper} {a : Act} {Q : Exit → Act → World → Prop}
    (hgd : o.guard = Option.none) (s x : Operand) (ho : o.op = .call { callee := .builtin .append, args := #[s, x], argTypes := #[34, 34] })
    (base : Nat) (v : Value) (xs : List Int) (u : Int) (hs : a.eval s = v) (hown : GrowL w base v xs) (ad : Addr) (hx : a.eval x = .slice (some ad) 1 1) (hc : w.cell? ad = some (.int .i64 u)) (hn : xs.length ≤ 1000000000) (hbase : base ≤ w.heap.size)
    (h : ∀ v' w', GrowL w' base v' (xs ++ [u]) → w.grownBy w' v.ownBlock → wpList P ops Q rest (a.put o.dst v') w') : wpList P ops Q (o :: rest) a w := by
  obtain ⟨i0, hi, hz0, hz1, hz2⟩ := info_parts hI
  refine wpList_append_own w hgd s x 34 ho base 3 i0 (.int .i64 0) 1 8 hP hi hz0 hz1 hz2 rfl (by decide) v xs.length _ hs hown ad 1 1 [.int .i64 u] hx rfl ?_ ?_ ?_ ?_ hbase ?_
  · intro j y hj
    cases j with
    | zero => simp at hj; subst hj; simpa [Addr.add] using hc
    | succ j => simp at hj
  · intro y hy
    simp at hy; subst hy; rfl
  · unfold maxLen; omega
  · omega
  · intro v' w' h1 h2 _
    refine h v' w' ?_ h2
    unfold GrowL
    simpa using h1
theorem below_grownL {B : Nat} {w0 w w' : World} {v : Value} {base : Nat} {xs : List Int} (h : Below B w0 w) (hown : GrowL w base v xs) (hg : w.grownBy w' v.ownBlock) (hB : B ≤ w.heap.size) (hb : B ≤ base) : Below B w0 w' :=
  h.grown hg hB fun k hk => Nat.le_trans hb (World.ownsRow.lt hown k hk).1
/-- A block that holds other cells than integers is no row of integers. -/
theorem block_grown {w w' : World} {v : Value} {base N t : Nat} {xs : List Int} {cs : Array Value} (h : w.heap[N]? = some (.cells cs t (0, 0))) (ht : t ≠ 3) (hown : GrowL w base v xs) (hg : w.grownBy w' v.ownBlock) : w'.heap[N]? = some (.cells cs t (0, 0)) := by
  refine (hg.block N (lt_of_block h) fun e => ?_).trans h
  rcases hown.2 with ⟨rfl, _⟩ | ⟨g, cap, cur, rfl, _, hgb, _⟩
  · simp [Value.ownBlock] at e
  · simp only [Value.ownBlock, Option.some.injEq] at e
    subst e
    rw [h] at hgb
    simp at hgb
    exact ht hgb.2
theorem block_later {w w' : World} {N : Nat} {o : Obj} (h : w.heap[N]? = some o) (hb : Below w.heap.size w w') : w'.heap[N]? = some o := (hb.block N (lt_of_block h)).trans h
end Go.Proofs.YtijonghofghocaaDoor
