/-
  The rows of costs that the specification's search makes, one block for each frame; what the search picks, step by step (plain). No condition beyond the blocks' own.
-/
import Derived.Test.YtijonghofghocaaDoorPBest2
namespace Go.Proofs.YtijonghofghocaaDoor
open Go.RowKit

theorem info34 : (Tryd.prog.info? 34).map (fun i => (i.zero, i.size, i.bytes)) = some (some (.slice none 0 0), 1, 24) := by kernel_rfl
/-- The rows from s on are made. -/
def rowVal (s W : Nat) (g : Nat → Nat) (r : Nat) : Value := if s ≤ r then .slice (some ⟨g r, 0, none⟩) W W else .slice none 0 0
structure RRows (w : World) (R F W s : Nat) (g : Nat → Nat) (G : Nat → Nat → Int) : Prop where
  blk : w.heap[R]? = some (.cells (slots F (rowVal s W g)) 34 (0, 0))
  row : ∀ r, s ≤ r → r < F → R < g r ∧ Blk w (g r) W (G r)
  one : ∀ r r', s ≤ r → r < F → s ≤ r' → r' < F → g r = g r' → r = r'
theorem RRows.lt {w : World} {R F W s : Nat} {g : Nat → Nat} {G : Nat → Nat → Int} (h : RRows w R F W s g G) : R < w.heap.size := lt_of_block h.blk
theorem RRows.later {w w' : World} {R F W s : Nat} {g : Nat → Nat} {G : Nat → Nat → Int} (h : RRows w R F W s g G) (hb : Below w.heap.size w w') : RRows w' R F W s g G :=
  ⟨block_later h.blk hb, fun r h1 h2 => ⟨(h.row r h1 h2).1, (h.row r h1 h2).2.later hb⟩, h.one⟩
theorem make_rows (n : Nat) (hn : n ≤ 1000000) (w : World) : (Instr.makeSlice 83 (.int .i64 n) (.int .i64 n)).run Tryd.prog w = .ok (.slice (some ⟨w.heap.size, 0, none⟩) n n) (w.alloc (.cells (slots n (fun _ => .slice none 0 0)) 34)) := by
  obtain ⟨i, hi, hz0, hz1, hz2⟩ := info_parts info34
  have h := run_make (P := Tryd.prog) w 83 34 i (.slice none 0 0) Tryd.underlying83 hi hz0 .i64 .i64 (n : Int) (n : Int) (by omega) (by omega) (by rw [hz2]; omega) (by omega)
  rw [h, hz1, Int.toNat_natCast, Nat.mul_one, nils_eq n]
theorem slots_congr {n : Nat} {f g : Nat → Value} (h : ∀ i, i < n → f i = g i) : slots n f = slots n g := by
  unfold slots
  congr 1
  exact List.map_congr_left fun i hi => h i (List.mem_range.1 hi)
theorem rows_new (w : World) (F W : Nat) : RRows (w.alloc (.cells (slots F (fun _ => .slice none 0 0)) 34)) w.heap.size F W F (fun _ => 0) (fun _ _ => 0) := by
  refine ⟨?_, fun r h1 h2 => by omega, fun r r' h1 h2 => by omega⟩
  rw [heap_alloc_new]
  rw [slots_congr (g := rowVal F W fun _ => 0) fun i hi => by unfold rowVal; rw [if_neg (by omega)]]
theorem RRows.cell {w : World} {R F W s : Nat} {g : Nat → Nat} {G : Nat → Nat → Int} (h : RRows w R F W s g G) {t : Nat} (h1 : s ≤ t) (h2 : t < F) : w.cell? ⟨R, t, none⟩ = some (.slice (some ⟨g t, 0, none⟩) W W) := by
  simp only [World.cell?, h.blk]
  simp [slots_get h2, rowVal, h1]
theorem RRows.old {w : World} {R F W s : Nat} {g : Nat → Nat} {G : Nat → Nat → Int} (h : RRows w R F W s g G) {t : Nat} (h1 : t < s) (h2 : t < F) : w.cell? ⟨R, t, none⟩ = some (.slice none 0 0) := by
  simp only [World.cell?, h.blk]
  simp [slots_get h2, rowVal, show ¬ s ≤ t by omega]
theorem RRows.free {w : World} {R F W s : Nat} {g : Nat → Nat} {G : Nat → Nat → Int} (h : RRows w R F W s g G) (t : Nat) : w.frozen? ⟨R, t, none⟩ = false := by simp [World.frozen?, h.blk]
/-- One more row. -/
theorem RRows.make {w : World} {R F W t : Nat} {g : Nat → Nat} {G : Nat → Nat → Int} (h : RRows w R F W (t + 1) g G) (ht : t < F) :
    RRows ((w.alloc (.cells (cellsOf W (fun _ => 0)) 3)).setCell ⟨R, t, none⟩ (.slice (some ⟨w.heap.size, 0, none⟩) W W)) R F W t (fun r => if r = t then w.heap.size else g r) (fun r => if r = t then fun _ => 0 else G r) := by
  have h1 := h.later (newb w (.cells (cellsOf W (fun _ => 0)) 3))
  have hne : ∀ r, t < r → r < F → g r < w.heap.size := fun r a b => (h.row r (by omega) b).2.lt
  refine ⟨?_, fun r a b => ?_, fun r r' a b c d e => ?_⟩
  · rw [heap_setCell_same _ R t _ 34 _ h1.blk, slots_set]
    rw [slots_congr (g := rowVal t W fun r => if r = t then w.heap.size else g r) fun i hi => ?_]
    unfold rowVal
    by_cases e : i = t
    · rw [if_pos e, if_pos (by omega)]
      simp only [if_pos e]
    · by_cases e2 : t + 1 ≤ i
      · rw [if_neg e, if_pos e2, if_pos (by omega)]
        simp only [if_neg e]
      · rw [if_neg e, if_neg e2, if_neg (by omega)]
  · by_cases e : r = t
    · subst e
      simp only [if_true]
      exact ⟨h.lt, (blk_new w W (fun _ => 0)).other (by show R ≠ _; have := h.lt; omega) _⟩
    · simp only [if_neg e]
      have := h1.row r (by omega) b
      exact ⟨this.1, this.2.other (by show R ≠ _; omega) _⟩
  · by_cases q1 : r = t
    · by_cases q2 : r' = t
      · omega
      · have := hne r' (by omega) d
        simp only [if_pos q1, if_neg q2] at e
        omega
    · by_cases q2 : r' = t
      · have := hne r (by omega) b
        simp only [if_neg q1, if_pos q2] at e
        omega
      · simp only [if_neg q1, if_neg q2] at e
        exact h.one r r' (by omega) b (by omega) d e
theorem RRows.set {w : World} {R F W s t i : Nat} {g : Nat → Nat} {G : Nat → Nat → Int} (h : RRows w R F W s g G) (hs : s ≤ t) (ht : t < F) (hi : i < W) (u : Int) :
    RRows (w.setCell ⟨g t, i, none⟩ (.int .i64 u)) R F W s g (fun r => if r = t then fun k => if k = i then u else G t k else G r) := by
  refine ⟨(Below.heap_setCell w _ _ R (by show R ≠ g t; have := (h.row t hs ht).1; omega)).trans h.blk, fun r a b => ⟨(h.row r a b).1, ?_⟩, h.one⟩
  by_cases e : r = t
  · subst e
    simp only [if_true]
    exact (h.row r a b).2.set hi u
  · simp only [if_neg e]
    exact (h.row r a b).2.other (by show g t ≠ g r; intro q; exact e (h.one r t a b hs ht q.symm)) _

/-! ### What the specification's search picks -/
/-- The first of the best of those k below n that are allowed: its number and its cost; -1 at the start. -/
def scan (ok : Nat → Bool) (c : Nat → Int) : Nat → Int × Int
  | 0 => (-1, 0)
  | k + 1 => if ok k = true ∧ ((scan ok c k).1 < 0 ∨ c k < (scan ok c k).2) then ((k : Int), c k) else scan ok c k
theorem scan_skip {ok : Nat → Bool} {c : Nat → Int} : ∀ {k : Nat}, (∀ i, i < k → ok i = false) → scan ok c k = (-1, 0)
  | 0, _ => rfl
  | k + 1, h => by
    simp only [scan]
    rw [h k (by omega), if_neg (by simp)]
    exact scan_skip fun i hi => h i (by omega)
theorem scan_mid {ok : Nat → Bool} {c : Nat → Int} {lo : Nat} (h0 : ∀ i, i < lo → ok i = false) : ∀ {j : Nat}, (∀ i, lo ≤ i → i ≤ lo + j → ok i = true) → scan ok c (lo + j + 1) = ((fm (fun u => c u.toNat) lo j).1, (fm (fun u => c u.toNat) lo j).2)
  | 0, h => by
    simp only [scan]
    rw [scan_skip h0, h lo (by omega) (by omega), if_pos ⟨rfl, .inl (by simp)⟩]
    simp [fm]
  | j + 1, h => by
    have ih := scan_mid (c := c) h0 (j := j) (fun i a b => h i a (by omega))
    show (if ok (lo + j + 1) = true ∧ ((scan ok c (lo + j + 1)).1 < 0 ∨ c (lo + j + 1) < (scan ok c (lo + j + 1)).2) then (((lo + j + 1 : Nat) : Int), c (lo + j + 1)) else scan ok c (lo + j + 1)) = _
    have hok := h (lo + j + 1) (by omega) (by omega)
    rw [ih]
    have hr := fm_range (fun u => c u.toNat) (lo : Int) j
    have e : ((lo : Int) + ((j + 1 : Nat) : Int)).toNat = lo + j + 1 := by omega
    simp only [fm, e]
    by_cases q : c (lo + j + 1) < (fm (fun u => c u.toNat) (lo : Int) j).2
    · rw [if_pos ⟨hok, .inr q⟩, if_pos q]
      simp only [Prod.mk.injEq, and_true]
      omega
    · rw [if_neg (fun hh => by have := hh.2; omega), if_neg q]
theorem scan_out {ok : Nat → Bool} {c : Nat → Int} {m : Nat} : ∀ {k : Nat}, (∀ i, m ≤ i → i < m + k → ok i = false) → scan ok c (m + k) = scan ok c m
  | 0, _ => rfl
  | k + 1, h => by
    have hok := h (m + k) (by omega) (by omega)
    show (if ok (m + k) = true ∧ ((scan ok c (m + k)).1 < 0 ∨ c (m + k) < (scan ok c (m + k)).2) then (((m + k : Nat) : Int), c (m + k)) else scan ok c (m + k)) = _
    rw [if_neg (fun hh => by rw [hok] at hh; cases hh.1), scan_out fun i a b => h i a (by omega)]
theorem scan_small {ok : Nat → Bool} {c : Nat → Int} {M : Int} (hM : 0 ≤ M) : ∀ {k : Nat}, (∀ i, i < k → 0 ≤ c i ∧ c i ≤ M) → (-1 ≤ (scan ok c k).1 ∧ (scan ok c k).1 < k) ∧ (0 ≤ (scan ok c k).2 ∧ (scan ok c k).2 ≤ M)
  | 0, _ => by simp [scan, hM]
  | k + 1, h => by
    have ih := scan_small hM (ok := ok) (c := c) (k := k) fun i hi => h i (by omega)
    have hk := h k (by omega)
    simp only [scan]
    split
    · dsimp only; omega
    · omega
/-- The pick, by what a value costs. -/
theorem scan_fm {p : Prob} {ok : Nat → Bool} {c : Nat → Int} {g : Int → Int} {lo n W : Nat} (h0 : ∀ i, i < lo → ok i = false) (h1 : ∀ i, lo ≤ i → i ≤ lo + n → ok i = true) (h2 : ∀ i, lo + n < i → i < W → ok i = false) (hW : lo + n < W)
    (hc : ∀ i, lo ≤ i → i ≤ lo + n → c i = g (p.low + i)) : scan ok c W = ((fm g (p.low + lo) n).1 - p.low, (fm g (p.low + lo) n).2) := by
  have e1 := scan_out (ok := ok) (c := c) (m := lo + n + 1) (k := W - (lo + n + 1)) fun i a b => h2 i (by omega) (by omega)
  rw [show lo + n + 1 + (W - (lo + n + 1)) = W by omega] at e1
  have e2 := scan_mid (c := c) h0 (j := n) h1
  have e3 := fm_shift (fun u => c u.toNat) (lo : Int) p.low n
  have e4 : fm (fun u => c (u - p.low).toNat) ((lo : Int) + p.low) n = fm g (p.low + lo) n := by
    rw [show (lo : Int) + p.low = p.low + lo by omega]
    refine fm_congr fun u a b => ?_
    rw [hc (u - p.low).toNat (by omega) (by omega)]
    congr 1
    omega
  rw [e1, e2, ← e4, e3]
  simp only [Prod.mk.injEq, and_true]
  omega
theorem scan_first {p : Prob} {F W : Nat} (hW : (W : Int) = p.high - p.low + 1) (hl : p.low ≤ p.high) : (scan (fun _ => true) (fun k => rst p (F - 1) 0 (p.low + (k : Int))) W).1 + p.low = path p F 0 := by
  have h := scan_fm (p := p) (ok := fun _ => true) (c := fun k => rst p (F - 1) 0 (p.low + (k : Int))) (g := rst p (F - 1) 0) (lo := 0) (n := W - 1) (W := W) (fun i hi => by omega) (fun _ _ _ => rfl) (fun i a b => by omega) (by omega) (fun i _ _ => rfl)
  rw [h]
  show (fm _ _ _).1 - p.low + p.low = (fm (rst p (F - 1) 0) p.low (p.high - p.low).toNat).1
  rw [show (p.high - p.low).toNat = W - 1 by omega, show p.low + ((0 : Nat) : Int) = p.low by omega]
  omega
/-- May low + k follow x? What does it cost? -/
def nextOk (p : Prob) (x : Int) (k : Nat) : Bool := inB (p.low + k - x) (-p.slope) p.slope
def nextC (p : Prob) (c : Int → Int) (x : Int) (k : Nat) : Int := c (p.low + k) + p.smooth * (p.low + k - x) * (p.low + k - x)
theorem nextC_eq (p : Prob) (c : Int → Int) (x : Int) (k : Nat) : nextC p c x k = step p c x (p.low + k) := by
  unfold nextC step sq
  rw [Int.mul_assoc]
theorem scan_next {p : Prob} {c : Int → Int} {x : Int} {W : Nat} (hW : (W : Int) = p.high - p.low + 1) (hx : p.low ≤ x ∧ x ≤ p.high) (hs : 0 ≤ p.slope) : (scan (nextOk p x) (nextC p c x) W).1 + p.low = (next p c x).1 := by
  obtain ⟨lo, hlo⟩ : ∃ lo : Nat, lo' p x = p.low + lo := ⟨(lo' p x - p.low).toNat, by unfold lo'; omega⟩
  obtain ⟨n, hn⟩ : ∃ n : Nat, hi' p x = p.low + lo + n := ⟨(hi' p x - (p.low + lo)).toNat, by rw [← hlo]; unfold hi' lo'; omega⟩
  have hlo2 := hlo
  have hn2 := hn
  unfold lo' at hlo2
  unfold hi' at hn2
  have bno : ∀ i : Nat, ¬ (-p.slope ≤ p.low + i - x ∧ p.low + i - x ≤ p.slope) → nextOk p x i = false := fun i h => by
    unfold nextOk
    cases e : inB (p.low + i - x) (-p.slope) p.slope with
    | false => rfl
    | true => exact absurd (inB_iff.1 e) h
  have h := scan_fm (p := p) (ok := nextOk p x) (c := nextC p c x) (g := step p c x) (lo := lo) (n := n) (W := W) (fun i hi => bno i (by omega)) (fun i a b => inB_iff.2 ⟨by omega, by omega⟩) (fun i a b => bno i (by omega)) (by omega) (fun i _ _ => nextC_eq p c x i)
  rw [h]
  unfold next
  rw [hlo, hn, show (p.low + (lo : Int) + n - (p.low + lo)).toNat = n by omega]
  omega
end Go.Proofs.YtijonghofghocaaDoor
