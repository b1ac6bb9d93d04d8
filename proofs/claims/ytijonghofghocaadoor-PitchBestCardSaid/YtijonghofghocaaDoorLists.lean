/-
  Lists of targets, one for each frame: what they cost; how they lie in memory while they grow, each in a row of its own. No condition beyond these.
-/
import Derived.Test.YtijonghofghocaaDoorCosts
import Derived.Test.YtijonghofghocaaDoorRow
namespace Go.Proofs.YtijonghofghocaaDoor
open Go.RowKit

/-- The targets of the time t among the first k. -/
def selL (p : Prob) (t : Nat) : Nat → List Tgt
  | 0 => []
  | k + 1 => if (p.tg k).time = (t : Int) then selL p t k ++ [p.tg k] else selL p t k
def noTgt : Tgt := ⟨0, 0, 0⟩
def selF (L : List Tgt) (i : Nat) : Tgt := L.getD i noTgt
def lsum (L : List Tgt) (x : Int) : Int := sumTo (lcost (selF L) x) L.length
theorem selF_left {L : List Tgt} {y : Tgt} {i : Nat} (h : i < L.length) : selF (L ++ [y]) i = selF L i := by simp [selF, List.getElem?_append_left h]
theorem selF_last (L : List Tgt) (y : Tgt) : selF (L ++ [y]) L.length = y := by simp [selF]
theorem lsum_snoc (L : List Tgt) (y : Tgt) (x : Int) : lsum (L ++ [y]) x = lsum L x + y.weight * sq (x - y.value) := by
  unfold lsum
  rw [List.length_append, List.length_singleton]
  show sumTo _ L.length + lcost _ x L.length = _
  rw [sumTo_congr (g := lcost (selF L) x) (fun i hi => by unfold lcost; rw [selF_left hi])]
  simp only [lcost, selF_last]
theorem lsum_sel (p : Prob) (t : Nat) (x : Int) : ∀ k, lsum (selL p t k) x = sumTo (tcost p t x) k
  | 0 => rfl
  | k + 1 => by
    rw [nodeN_succ, ← lsum_sel p t x k]
    simp only [selL, tcost]
    split
    · rw [lsum_snoc]
    · omega
theorem selL_length (p : Prob) (t : Nat) : ∀ k, (selL p t k).length ≤ k
  | 0 => Nat.le_refl _
  | k + 1 => by
    have := selL_length p t k
    simp only [selL]
    split
    · rw [List.length_append, List.length_singleton]; omega
    · omega
theorem selL_ok {p : Prob} (h : PB p) (t : Nat) : ∀ k, k ≤ p.m → ∀ x ∈ selL p t k, -200000 ≤ x.value ∧ x.value ≤ 200000 ∧ 0 ≤ x.weight ∧ x.weight ≤ 1000
  | 0, _ => by simp [selL]
  | k + 1, hk => by
    have ih := selL_ok h t k (by omega)
    simp only [selL]
    split
    · intro x hx
      rcases List.mem_append.1 hx with hx | hx
      · exact ih x hx
      · have e : x = p.tg k := by simpa using hx
        have := h.tg k (by omega)
        rw [e]; omega
    · exact ih
theorem selF_ok {p : Prob} (h : PB p) (t : Nat) : selOk (selF (selL p t p.m)) (selL p t p.m).length := fun i hi => by
  have e : selF (selL p t p.m) i = (selL p t p.m)[i] := by simp [selF, hi]
  rw [e]
  exact selL_ok h t p.m (Nat.le_refl _) _ (List.getElem_mem hi)

/-! ### How they lie -/
def tcells : List Tgt → List Value
  | [] => []
  | x :: L => .int .i64 x.time :: .int .i64 x.value :: .int .i64 x.weight :: tcells L
theorem tcells_snoc (L : List Tgt) (x : Tgt) : tcells (L ++ [x]) = tcells L ++ [.int .i64 x.time, .int .i64 x.value, .int .i64 x.weight] := by
  induction L with
  | nil => rfl
  | cons y L ih => simp only [List.cons_append, tcells, ih]
theorem tcells_get : ∀ (L : List Tgt) (i j : Nat), i < L.length → j < 3 → (tcells L)[i * 3 + j]? = some (tgtCell (selF L) i j)
  | [], i, j, h, _ => by simp at h
  | x :: L, 0, j, _, hj => by
    have : j = 0 ∨ j = 1 ∨ j = 2 := by omega
    rcases this with rfl | rfl | rfl <;> simp [tcells, tgtCell, selF]
  | x :: L, i + 1, j, h, hj => by
    have ih := tcells_get L i j (by simpa using h) hj
    have e : (i + 1) * 3 + j = (i * 3 + j) + 3 := by omega
    rw [e]
    simp only [tcells, List.getElem?_cons_succ]
    rw [ih]
    simp [tgtCell, selF]

/-- A row of targets. -/
theorem own_row {w : World} {base : Nat} {v : Value} {L : List Tgt} (h : w.ownsRow base 54 3 v L.length (tcells L)) : ∃ a c, v = .slice a L.length c ∧ Row w a L.length 3 (tgtCell (selF L)) := by
  rcases h.2 with ⟨hv, hn⟩ | ⟨g, cap, cur, hv, _, hg, h1, h2, h3, h4⟩
  · exact ⟨none, 0, by rw [hv, hn], .inl hn⟩
  · refine ⟨some ⟨g, 0, none⟩, cap, hv, .inr ⟨g, 0, rfl, lt_of_block hg, fun i hi j hj => ?_⟩⟩
    subst hv
    rw [show 0 + i * 3 + j = i * 3 + j by omega, World.ownsRow.cellAt h (i * 3 + j) (by omega), tcells_get L i j hi hj]

def slots (n : Nat) (vs : Nat → Value) : Array Value := ((List.range n).map vs).toArray
theorem slots_get {n j : Nat} {vs : Nat → Value} (h : j < n) : (slots n vs)[j]? = some (vs j) := by simp [slots, h]
theorem slots_get? {n j : Nat} {vs : Nat → Value} : (slots n vs)[j]? = if j < n then some (vs j) else none := by
  by_cases h : j < n
  · rw [if_pos h, slots_get h]
  · rw [if_neg h, Array.getElem?_eq_none (by simp [slots]; omega)]
theorem slots_set {n j : Nat} {vs : Nat → Value} (u : Value) : (slots n vs).setIfInBounds j u = slots n (fun i => if i = j then u else vs i) := by
  refine Array.ext_getElem? fun i => ?_
  rw [Array.getElem?_setIfInBounds, slots_get?, slots_get?]
  by_cases e : j = i
  · subst e
    simp [slots]
  · rw [if_neg e]
    simp [show ¬ i = j from fun h => e h.symm]

/-- n rows of targets, each of its own, and the block T that holds them. -/
structure LsAt (w : World) (T n : Nat) (vs : Nat → Value) (L : Nat → List Tgt) : Prop where
  blk : w.heap[T]? = some (.cells (slots n vs) 41 (0, 0))
  row : ∀ t, t < n → w.ownsRow (T + 1) 54 3 (vs t) (L t).length (tcells (L t))
  one : ∀ t s g, t < n → s < n → (vs t).ownBlock = some g → (vs s).ownBlock = some g → t = s
theorem LsAt.cell {w : World} {T n : Nat} {vs : Nat → Value} {L : Nat → List Tgt} (h : LsAt w T n vs L) {t : Nat} (ht : t < n) : w.cell? ⟨T, t, none⟩ = some (vs t) := by
  simp [World.cell?, h.blk, slots_get ht]
theorem LsAt.free {w : World} {T n : Nat} {vs : Nat → Value} {L : Nat → List Tgt} (h : LsAt w T n vs L) (t : Nat) : w.frozen? ⟨T, t, none⟩ = false := by
  simp [World.frozen?, h.blk]
theorem LsAt.lt {w : World} {T n : Nat} {vs : Nat → Value} {L : Nat → List Tgt} (h : LsAt w T n vs L) : T < w.heap.size := lt_of_block h.blk
theorem ownsRow_later {w w' : World} {base n : Nat} {e : TypeId} {size : Nat} {v : Value} {xs : List Value} (h : w.ownsRow base e size v n xs) (hb : Below w.heap.size w w') : w'.ownsRow base e size v n xs :=
  World.ownsRow.kept (row := none) h ⟨hb.os, hb.tape, hb.output, hb.size, fun k hk _ => hb.block k hk⟩ (by cases v.ownBlock <;> simp)
theorem LsAt.later {w w' : World} {T n : Nat} {vs : Nat → Value} {L : Nat → List Tgt} (h : LsAt w T n vs L) (hb : Below w.heap.size w w') : LsAt w' T n vs L :=
  ⟨block_later h.blk hb, fun t ht => ownsRow_later (h.row t ht) hb, h.one⟩
/-- One more target in the row of the time t. -/
theorem LsAt.push {wr w1 w' : World} {T n : Nat} {vs : Nat → Value} {L : Nat → List Tgt} (h : LsAt wr T n vs L) (hb : Below wr.heap.size wr w1) {t : Nat} (ht : t < n) {x : Tgt} {g cap : Nat}
    (hown : w'.ownsRow (T + 1) 54 3 (.slice (some ⟨g, 0, none⟩) ((L t).length + 1) cap) ((L t).length + 1) (tcells (L t) ++ [.int .i64 x.time, .int .i64 x.value, .int .i64 x.weight]))
    (hg : w1.grownBy w' (vs t).ownBlock) (hlies : (vs t).ownBlock = some g ∨ w1.heap.size ≤ g) :
    LsAt (w'.setCell ⟨T, t, none⟩ (.slice (some ⟨g, 0, none⟩) ((L t).length + 1) cap)) T n (fun s => if s = t then .slice (some ⟨g, 0, none⟩) ((L t).length + 1) cap else vs s) (fun s => if s = t then L s ++ [x] else L s) := by
  have h1 := h.later hb
  have hT : T < g := (World.ownsRow.lt hown g rfl).1
  have hblk : w'.heap[T]? = some (.cells (slots n vs) 41 (0, 0)) := by
    rw [hg.block T h1.lt fun e => ?_]
    · exact h1.blk
    · have := (World.ownsRow.lt (h1.row t ht) T e.symm).1
      omega
  refine ⟨?_, fun s hs => ?_, fun s s' k hs hs' e1 e2 => ?_⟩
  · rw [heap_setCell_same w' T t _ 41 _ hblk, slots_set]
  · have hkeep : ∀ {v : Value} {m : Nat} {xs : List Value}, w'.ownsRow (T + 1) 54 3 v m xs → (w'.setCell ⟨T, t, none⟩ (.slice (some ⟨g, 0, none⟩) ((L t).length + 1) cap)).ownsRow (T + 1) 54 3 v m xs := by
      intro v m xs hr
      refine ⟨hr.1, ?_⟩
      rcases hr.2 with hn | ⟨b, c, cur, hv, hb', hgb, rest⟩
      · exact .inl hn
      · exact .inr ⟨b, c, cur, hv, hb', by rw [Below.heap_setCell w' _ _ b (by show b ≠ T; omega)]; exact hgb, rest⟩
    by_cases e : s = t
    · subst e
      simp only [if_pos]
      rw [List.length_append, List.length_singleton, tcells_snoc]
      exact hkeep hown
    · simp only [if_neg e]
      refine hkeep (World.ownsRow.kept (h1.row s hs) hg ?_)
      cases e3 : (vs s).ownBlock with
      | none => exact .inl rfl
      | some k =>
        refine .inr fun e4 => e (h.one s t k hs ht e3 e4.symm)
  · have hold : ∀ s, s < n → s ≠ t → (vs s).ownBlock = some g → False := by
      intro s hs hne he
      rcases hlies with hl | hl
      · exact hne (h.one s t g hs ht he hl)
      · have := (World.ownsRow.lt (h1.row s hs) g he).2
        omega
    by_cases q1 : s = t
    · by_cases q2 : s' = t
      · rw [q1, q2]
      · rw [if_pos q1] at e1
        rw [if_neg q2] at e2
        have : g = k := by simpa [Value.ownBlock] using e1
        exact (hold s' hs' q2 (this ▸ e2)).elim
    · by_cases q2 : s' = t
      · rw [if_pos q2] at e2
        rw [if_neg q1] at e1
        have : g = k := by simpa [Value.ownBlock] using e2
        exact (hold s hs q1 (this ▸ e1)).elim
      · rw [if_neg q1] at e1
        rw [if_neg q2] at e2
        exact h.one s s' k hs hs' e1 e2
/-- The block of the rows behind an append. -/
theorem LsAt.after {wr w1 w' : World} {T n : Nat} {vs : Nat → Value} {L : Nat → List Tgt} (h : LsAt wr T n vs L) (hb : Below wr.heap.size wr w1) {t : Nat} (ht : t < n) (hg : w1.grownBy w' (vs t).ownBlock) :
    w'.cell? ⟨T, t, none⟩ = some (vs t) ∧ w'.frozen? ⟨T, t, none⟩ = false := by
  have h1 := h.later hb
  have hblk : w'.heap[T]? = some (.cells (slots n vs) 41 (0, 0)) := by
    rw [hg.block T h1.lt fun e => ?_]
    · exact h1.blk
    · have := (World.ownsRow.lt (h1.row t ht) T e.symm).1
      omega
  exact ⟨by simp [World.cell?, hblk, slots_get ht], by simp [World.frozen?, hblk]⟩
/-- A block that came after the rows behind an append. -/
theorem LsAt.newer {wr w1 w' : World} {T n : Nat} {vs : Nat → Value} {L : Nat → List Tgt} (h : LsAt wr T n vs L) {t : Nat} (ht : t < n) (hg : w1.grownBy w' (vs t).ownBlock) {N : Nat} (h1 : wr.heap.size ≤ N) (h2 : N < w1.heap.size) (j : Nat) :
    w'.cell? ⟨N, j, none⟩ = w1.cell? ⟨N, j, none⟩ := by
  have e : w'.heap[N]? = w1.heap[N]? := hg.block N h2 fun e => by
    have := (World.ownsRow.lt (h.row t ht) N e.symm).2
    omega
  simp only [World.cell?, e]
/-- What was below stays below. -/
theorem LsAt.below {w0 wr w1 w' : World} {B T n : Nat} {vs : Nat → Value} {L : Nat → List Tgt} (h : LsAt wr T n vs L) (hb : Below wr.heap.size wr w1) {t : Nat} (ht : t < n) (h0 : Below B w0 w1) (hB : B ≤ T) (hg : w1.grownBy w' (vs t).ownBlock) (u : Value) :
    Below B w0 (w'.setCell ⟨T, t, none⟩ u) := by
  have h1 := h.later hb
  have h2 : Below B w0 w' := h0.grown hg (by have := h1.lt; omega) fun k hk => by have := (World.ownsRow.lt (h1.row t ht) k hk).1; omega
  exact h2.setCell (p := ⟨T, t, none⟩) hB u

theorem info41 : (Tryd.prog.info? 41).map (fun i => (i.zero, i.size, i.bytes)) = some (some (.slice none 0 0), 1, 24) := by kernel_rfl
theorem nils_eq (n : Nat) : madeCells (Value.slice none 0 0).cells n = slots n (fun _ => .slice none 0 0) := by
  refine Array.ext_getElem? fun i => ?_
  rw [slots_get?]
  by_cases h : i < n
  · simp [madeCells, Value.cells, h, Nat.mod_one]
  · rw [if_neg h, Array.getElem?_eq_none (by simp [madeCells]; omega)]
theorem make_lists (n : Nat) (hn : n ≤ 1000000) (w : World) : (Instr.makeSlice 77 (.int .i64 n) (.int .i64 n)).run Tryd.prog w = .ok (.slice (some ⟨w.heap.size, 0, none⟩) n n) (w.alloc (.cells (slots n (fun _ => .slice none 0 0)) 41)) := by
  obtain ⟨i, hi, hz0, hz1, hz2⟩ := info_parts info41
  have h := run_make (P := Tryd.prog) w 77 41 i (.slice none 0 0) Tryd.underlying77 hi hz0 .i64 .i64 (n : Int) (n : Int) (by omega) (by omega) (by rw [hz2]; omega) (by omega)
  rw [h, hz1, Int.toNat_natCast, Nat.mul_one, nils_eq n]
theorem lsAt_new (w : World) (n : Nat) (p : Prob) : LsAt (w.alloc (.cells (slots n (fun _ => .slice none 0 0)) 41)) w.heap.size n (fun _ => .slice none 0 0) (fun t => selL p t 0) :=
  ⟨heap_alloc_new _ _, fun t _ => World.ownsRow_nil _ _ _ _, fun t s g _ _ h _ => by simp [Value.ownBlock] at h⟩

/-- The targets of each frame: a slice of slices, in memory of its own. -/
def Lists (w : World) (T n : Nat) (p : Prob) : Prop :=
  T < w.heap.size ∧ ∀ t, t < n → ∃ a c, w.cell? ⟨T, t, none⟩ = some (.slice a (selL p t p.m).length c) ∧ Row w a (selL p t p.m).length 3 (tgtCell (selF (selL p t p.m)))
theorem Lists.later {w w' : World} {T n : Nat} {p : Prob} (h : Lists w T n p) (hb : Below w.heap.size w w') : Lists w' T n p := by
  refine ⟨Nat.lt_of_lt_of_le h.1 hb.size, fun t ht => ?_⟩
  obtain ⟨a, c, h1, h2⟩ := h.2 t ht
  exact ⟨a, c, by rw [hb.cell h.1]; exact h1, h2.mono hb⟩
theorem LsAt.lists {w : World} {T n : Nat} {vs : Nat → Value} {p : Prob} (h : LsAt w T n vs (fun t => selL p t p.m)) : Lists w T n p := by
  refine ⟨h.lt, fun t ht => ?_⟩
  obtain ⟨a, c, h1, h2⟩ := own_row (h.row t ht)
  exact ⟨a, c, by rw [h.cell ht, h1], h2⟩
end Go.Proofs.YtijonghofghocaaDoor
