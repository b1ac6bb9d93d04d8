/-
  A block of integers that the call made itself: what it holds, by number; stores into it; make. No condition beyond the block's own.
-/
import Derived.Test.YtijonghofghocaaDoorArgs
namespace Go.Proofs.YtijonghofghocaaDoor
open Go.RowKit

def cellsOf (n : Nat) (F : Nat → Int) : Array Value := ((List.range n).map (fun i => Value.int .i64 (F i))).toArray
/-- Block g holds n integers and nothing else. -/
def Blk (w : World) (g n : Nat) (F : Nat → Int) : Prop := w.heap[g]? = some (.cells (cellsOf n F) 3 (0, 0))
theorem cellsOf_get {n j : Nat} {F : Nat → Int} (h : j < n) : (cellsOf n F)[j]? = some (.int .i64 (F j)) := by simp [cellsOf, h]
theorem size_cellsOf (n : Nat) (F : Nat → Int) : (cellsOf n F).size = n := by simp [cellsOf]
theorem cellsOf_get? {n j : Nat} {F : Nat → Int} : (cellsOf n F)[j]? = if j < n then some (.int .i64 (F j)) else none := by
  by_cases h : j < n
  · rw [if_pos h, cellsOf_get h]
  · rw [if_neg h, Array.getElem?_eq_none (by rw [size_cellsOf]; omega)]
theorem cellsOf_congr {n : Nat} {F G : Nat → Int} (h : ∀ i, i < n → F i = G i) : cellsOf n F = cellsOf n G := by
  unfold cellsOf
  congr 1
  refine List.map_congr_left fun i hi => ?_
  rw [h i (List.mem_range.1 hi)]
theorem Blk.congr {w : World} {g n : Nat} {F G : Nat → Int} (h : Blk w g n F) (e : ∀ i, i < n → F i = G i) : Blk w g n G := by
  unfold Blk at *; rw [← cellsOf_congr e]; exact h
theorem Blk.lt {w : World} {g n : Nat} {F : Nat → Int} (h : Blk w g n F) : g < w.heap.size := lt_of_block h
theorem Blk.cell {w : World} {g n : Nat} {F : Nat → Int} (h : Blk w g n F) {j : Nat} (hj : j < n) : w.cell? ⟨g, j, none⟩ = some (.int .i64 (F j)) := by
  simp only [World.cell?, show w.heap[g]? = _ from h]
  simp [cellsOf_get hj]
theorem Blk.free {w : World} {g n : Nat} {F : Nat → Int} (h : Blk w g n F) (j : Nat) : w.frozen? ⟨g, j, none⟩ = false := by
  simp [World.frozen?, show w.heap[g]? = _ from h]
theorem Blk.keep {w w' : World} {B g n : Nat} {F : Nat → Int} (h : Blk w g n F) (hb : Below B w w') (hg : g < B) : Blk w' g n F := (hb.block g hg).trans h
theorem Blk.later {w w' : World} {g n : Nat} {F : Nat → Int} (h : Blk w g n F) (hb : Below w.heap.size w w') : Blk w' g n F := h.keep hb h.lt
theorem Blk.set {w : World} {g n : Nat} {F : Nat → Int} (h : Blk w g n F) {j : Nat} (hj : j < n) (u : Int) : Blk (w.setCell ⟨g, j, none⟩ (.int .i64 u)) g n (fun i => if i = j then u else F i) := by
  unfold Blk at *
  rw [heap_setCell_same w g j _ 3 _ h]
  rw [show (cellsOf n F).setIfInBounds j (.int .i64 u) = cellsOf n (fun i => if i = j then u else F i) from ?_]
  refine Array.ext_getElem? fun i => ?_
  rw [Array.getElem?_setIfInBounds, cellsOf_get?, cellsOf_get?]
  by_cases e : j = i
  · subst e
    simp [hj, size_cellsOf]
  · rw [if_neg e, if_neg (show ¬ i = j from fun h => e h.symm)]
theorem Blk.other {w : World} {g n : Nat} {F : Nat → Int} (h : Blk w g n F) {a : Addr} (ha : a.block ≠ g) (u : Value) : Blk (w.setCell a u) g n F := by
  unfold Blk at *
  rw [Below.heap_setCell w a u g (fun e => ha e.symm)]; exact h
theorem Blk.ints {w : World} {g n : Nat} {F : Nat → Int} (h : Blk w g n F) : Ints w (some ⟨g, 0, none⟩) n F :=
  .inr ⟨g, 0, rfl, h.lt, fun i hi => by rw [Nat.zero_add]; exact h.cell hi⟩
theorem blk_new (w : World) (n : Nat) (F : Nat → Int) : Blk (w.alloc (.cells (cellsOf n F) 3)) w.heap.size n F := heap_alloc_new w _

theorem info3 : (Tryd.prog.info? 3).map (fun i => (i.zero, i.size, i.bytes)) = some (some (.int .i64 0), 1, 8) := by kernel_rfl
theorem zeros_eq (n : Nat) : madeCells (Value.int .i64 0).cells n = cellsOf n (fun _ => 0) := by
  refine Array.ext_getElem? fun i => ?_
  rw [cellsOf_get?]
  by_cases h : i < n
  · simp [madeCells, Value.cells, h, Nat.mod_one]
  · rw [if_neg h, Array.getElem?_eq_none (by simp [madeCells]; omega)]
/-- make([]int, n): a new block of zeros. -/
theorem make_ints (n : Nat) (hn : n ≤ 1000000000) (w : World) : (Instr.makeSlice 34 (.int .i64 n) (.int .i64 n)).run Tryd.prog w = .ok (.slice (some ⟨w.heap.size, 0, none⟩) n n) (w.alloc (.cells (cellsOf n (fun _ => 0)) 3)) := by
  obtain ⟨i, hi, hz0, hz1, hz2⟩ := info_parts info3
  have h := run_make (P := Tryd.prog) w 34 3 i (.int .i64 0) Tryd.underlying34 hi hz0 .i64 .i64 (n : Int) (n : Int) (by omega) (by omega) (by rw [hz2]; omega) (by omega)
  rw [h, hz1, Int.toNat_natCast, Nat.mul_one, zeros_eq n]

/-! ### A slice of integers that the call appends to -/
def rowOf (n : Nat) (F : Nat → Int) : List Value := (List.range n).map (fun i => Value.int .i64 (F i))
theorem rowOf_get {n j : Nat} {F : Nat → Int} (h : j < n) : (rowOf n F)[j]? = some (.int .i64 (F j)) := by simp [rowOf, h]
theorem rowOf_snoc (n : Nat) (F : Nat → Int) (u : Int) : rowOf n F ++ [.int .i64 u] = rowOf (n + 1) (fun i => if i = n then u else F i) := by
  unfold rowOf
  rw [List.range_succ, List.map_append]
  congr 1
  · refine List.map_congr_left fun i hi => ?_
    have := List.mem_range.1 hi
    simp [show i ≠ n by omega]
  · simp
theorem rowOf_congr {n : Nat} {F G : Nat → Int} (h : ∀ i, i < n → F i = G i) : rowOf n F = rowOf n G := by
  unfold rowOf
  refine List.map_congr_left fun i hi => ?_
  rw [h i (List.mem_range.1 hi)]
/-- The slice value v is nil or lies in new memory (blocks from base on), and holds n integers. -/
def Grow (w : World) (base : Nat) (v : Value) (n : Nat) (F : Nat → Int) : Prop := w.ownsRow base 3 1 v n (rowOf n F)
theorem Grow.none (w : World) (base : Nat) (F : Nat → Int) : Grow w base (.slice none 0 0) 0 F := World.ownsRow_nil w base 3 1
theorem Grow.congr {w : World} {base n : Nat} {v : Value} {F G : Nat → Int} (h : Grow w base v n F) (e : ∀ i, i < n → F i = G i) : Grow w base v n G := by
  unfold Grow at *; rw [← rowOf_congr e]; exact h
theorem Grow.later {w w' : World} {base n : Nat} {v : Value} {F : Nat → Int} (h : Grow w base v n F) (hb : Below w.heap.size w w') : Grow w' base v n F :=
  World.ownsRow.kept (row := Option.none) h ⟨hb.os, hb.tape, hb.output, hb.size, fun k hk _ => hb.block k hk⟩ (by cases v.ownBlock <;> simp)
theorem Grow.ints {w : World} {base n : Nat} {v : Value} {F : Nat → Int} (h : Grow w base v n F) : ∃ p cap, v = .slice p n cap ∧ Ints w p n F := by
  rcases h.2 with ⟨hv, hn⟩ | ⟨g, cap, cur, hv, _, hg, h1, h2, h3, h4⟩
  · exact ⟨.none, 0, by rw [hv, hn], .inl hn⟩
  · refine ⟨some ⟨g, 0, .none⟩, cap, hv, .inr ⟨g, 0, rfl, lt_of_block hg, fun i hi => ?_⟩⟩
    subst hv
    rw [Nat.zero_add, World.ownsRow.cellAt h i (by omega), rowOf_get hi]
theorem append_int {P : Program} (hP : P.underlying 34 = some (.slice 3)) (hI : (P.info? 3).map (fun i => (i.zero, i.size, i.bytes)) = some (some (.int .i64 0), 1, 8)) (w : World) {ops : Array Oper} {rest : List Oper} {o : Oper} {a : Act} {Q : Exit → Act → World → Prop}
    (hgd : o.guard = Option.none) (s x : Operand) (ho : o.op = .call { callee := .builtin .append, args := #[s, x], argTypes := #[34, 34] })
    (base : Nat) (v : Value) (n : Nat) (F : Nat → Int) (u : Int) (hs : a.eval s = v) (hown : Grow w base v n F) (ad : Addr) (hx : a.eval x = .slice (some ad) 1 1) (hc : w.cell? ad = some (.int .i64 u)) (hn : n ≤ 1000000000) (hbase : base ≤ w.heap.size)
    (h : ∀ v' w', Grow w' base v' (n + 1) (fun i => if i = n then u else F i) → w.grownBy w' v.ownBlock → (v' = .slice Option.none 0 0 → False) → wpList P ops Q rest (a.put o.dst v') w') : wpList P ops Q (o :: rest) a w := by
  obtain ⟨i0, hi, hz0, hz1, hz2⟩ := info_parts hI
  refine wpList_append_own w hgd s x 34 ho base 3 i0 (.int .i64 0) 1 8 hP hi hz0 hz1 hz2 rfl (by decide) v n _ hs hown ad 1 1 [.int .i64 u] hx rfl ?_ ?_ ?_ ?_ hbase ?_
  · intro j y hj
    cases j with
    | zero => simp at hj; subst hj; simpa [Addr.add] using hc
    | succ j => simp at hj
  · intro y hy
    simp at hy; subst hy; rfl
  · unfold maxLen; omega
  · omega
  · intro v' w' h1 h2 h3
    rw [rowOf_snoc] at h1
    exact h v' w' h1 h2 (fun hv => by have := (h3.1 hv).2; omega)
/-- What was below stays below. -/
theorem below_grown {B : Nat} {w0 w w' : World} {v : Value} {base n : Nat} {F : Nat → Int} (h : Below B w0 w) (hown : Grow w base v n F) (hg : w.grownBy w' v.ownBlock) (hB : B ≤ w.heap.size) (hb : B ≤ base) : Below B w0 w' :=
  h.grown hg hB fun k hk => Nat.le_trans hb (World.ownsRow.lt hown k hk).1
end Go.Proofs.YtijonghofghocaaDoor
