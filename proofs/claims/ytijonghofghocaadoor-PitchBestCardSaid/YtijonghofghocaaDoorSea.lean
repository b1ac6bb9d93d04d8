/-
  What keeps the blocks of the search as they lie; a region that draws its order and whose first operations keep a property of the world. Conditions: as each theorem says.
-/
import Derived.Test.YtijonghofghocaaDoorNext
namespace Go.Proofs.YtijonghofghocaaDoor
open Go.RowKit

/-! ### Worlds that keep a property -/
def Stay (R : World → Prop) : Type := { w' : World // R w' }
def Stay.w {R : World → Prop} (x : Stay R) : World := x.1
theorem Stay.holds {R : World → Prop} (x : Stay R) : R x.w := x.2
theorem kept_cell {R : World → Prop} {a : Addr} {v : Value} (h : ∀ w, R w → w.cell? a = some v) : ∀ x : Stay R, x.w.cell? a = some v := fun x => h _ x.holds
theorem Calls.stay_of {P : Program} {f : FuncId} {args : Array Value} {R : World → Prop} {x : Stay R} {v : Value}
    (h : Calls P f args x.w fun e w' => e = .returned v ∧ R w') : Calls P f args x.w fun e w'' => e = .returned v ∧ ∃ y : Stay R, w'' = y.w :=
  h.mono fun _ w' ⟨he, hb⟩ => ⟨he, ⟨w', hb⟩, rfl⟩
/-- The head keeps a property of the world, then the tail. -/
theorem wp_region_kept_tail {P : Program} {id : Nat} {Q : Exit → Act → World → Prop} {a : Act} {w : World} {l : List Oper} (R : World → Prop) (n : Nat) (hm : P.follows .mixedOrders = true) (hB : Region.lexTailB .any l.toArray n = true)
    (hR : R { w with drawn := w.drawn + 1 })
    (h : wpQuiet P l.toArray (fun w' => ∃ x : Stay R, w' = x.w) (fun a' => ∀ w', (∃ x : Stay R, w' = x.w) → wpList P l.toArray Q (l.drop n) a' w') (l.take n) a) : (Code.region id l.toArray true).wp P Q a w := by
  simp only [Region.lexTailB, Bool.and_eq_true, decide_eq_true_eq] at hB
  obtain ⟨⟨⟨⟨hsel, hn⟩, hs⟩, hc⟩, hlex⟩ := hB
  have hn' : n < l.length := by simpa using hn
  have htl : (l.take n).length = n := by simp; omega
  have hdl : (l.drop n).length = l.toArray.size - n := by simp
  have inv0 : HeadInv .any l.toArray n (Array.replicate l.toArray.size false) :=
    ⟨by simp, fun j oj _ hl => (by rw [getD_replicate_false] at hl; cases hl), fun t _ ht => getD_in (by simpa using ht) (getD_replicate_false _ _)⟩
  have H := headAny_lex (md := .any) (g := l.toArray.size - n) hsel hs hc hn (l.take n) 0 _ a (fun j hj => by
    have hj' : j < n := by rw [htl] at hj; exact hj
    simp [hj']) (by simpa using htl) inv0 (by rw [htl]; exact hlex) h
  refine wp_region_any hm ?_
  have := headAny_sound (C := fun w' => ∃ x : Stay R, w' = x.w) (Q := Q) (g := l.toArray.size - n) (fun s a' w' hw' hL => by
    have := wpAny_of_seq (md := .any) (Q' := Q) (l.drop n) n s a' w' (fun j => by simp [List.getElem?_drop]) (by rw [hdl]; exact hL.1) (hL.2 w' hw')
    rwa [hdl] at this) _ _ _ { w with drawn := w.drawn + 1 } ⟨⟨{ w with drawn := w.drawn + 1 }, hR⟩, rfl⟩ H
  rw [htl, show n + (l.toArray.size - n) = l.toArray.size by omega] at this
  exact this

/-! ### The blocks of the search -/
theorem Sea.set {w0 w : World} {A F W Bw : Nat} {G : Nat → Int} {v : Value} {L : List (Int × Int)} (h : Sea w0 w A F W Bw G v L) {j : Nat} (hj : j < F * W) (u : Int) :
    Sea w0 (w.setCell ⟨A, j, none⟩ (.int .i64 u)) A F W Bw (fun i => if i = j then u else G i) v L := by
  have k : ∀ k, k ≠ A → (w.setCell ⟨A, j, none⟩ (.int .i64 u)).heap[k]? = w.heap[k]? := fun k hk => Below.heap_setCell w _ _ k hk
  refine ⟨h.below.setCell (p := ⟨A, j, none⟩) (Nat.le_refl _) _, h.dat.set hj u, (k _ (by omega)).trans h.all, (k _ (by omega)).trans h.row, h.win.other (by show A + 3 ≠ A; omega) (fun e => ?_) _, (k _ (by omega)).trans h.box⟩
  have := (World.ownsRow.lt h.win.row A e).1
  omega
/-- An append to a row of integers behind the search's blocks. -/
theorem own_type {w : World} {base k : Nat} {v : Value} {xs : List Int} (h : GrowL w base v xs) (hk : v.ownBlock = some k) : base ≤ k ∧ ∃ cs, w.heap[k]? = some (.cells cs 3 (0, 0)) := by
  rcases h.2 with ⟨rfl, _⟩ | ⟨g, cap, cur, rfl, hb, hgb, _⟩
  · cases hk
  · have : g = k := by simpa [Value.ownBlock] using hk
    subst this
    exact ⟨hb, cur, hgb⟩
theorem Sea.grown {w0 w w' : World} {A F W Bw base : Nat} {G : Nat → Int} {v vo : Value} {L : List (Int × Int)} {xs : List Int} (h : Sea w0 w A F W Bw G v L) (ho : GrowL w base vo xs) (hb : A + 5 ≤ base) (hg : w.grownBy w' vo.ownBlock) :
    Sea w0 w' A F W Bw G v L := by
  have hne : ∀ k, k < A + 5 → some k ≠ vo.ownBlock := fun k hk e => by have := (own_type ho e.symm).1; omega
  have kk : ∀ k o, k < A + 5 → w.heap[k]? = some o → w'.heap[k]? = some o := fun k o hk hw => (hg.block k (lt_of_block hw) (hne k hk)).trans hw
  refine ⟨⟨hg.os.trans h.below.os, hg.tape.trans h.below.tape, hg.output.trans h.below.output, Nat.le_trans h.below.size hg.size, fun k hk => ?_⟩, kk _ _ (by omega) h.dat, kk _ _ (by omega) h.all, kk _ _ (by omega) h.row, ⟨kk _ _ (by omega) h.win.blk, World.ownsRow.kept h.win.row hg ?_⟩, kk _ _ (by omega) h.box⟩
  · rw [hg.block k (by have := h.dat.lt; omega) (hne k (by omega))]
    exact h.below.block k hk
  · cases e : v.ownBlock with
    | none => exact .inl rfl
    | some g =>
      refine .inr fun e2 => ?_
      obtain ⟨_, cs, hcs⟩ := own_type ho e2.symm
      rcases h.win.row.2 with ⟨hv, _⟩ | ⟨g', c, cur, hv, _, hgb, _⟩
      · rw [hv] at e; cases e
      · rw [hv] at e
        have : g' = g := by simpa [Value.ownBlock] using e
        subst this
        rw [hcs] at hgb
        simp at hgb
theorem GrowL.took {w w' : World} {base B : Nat} {vo v v' : Value} {L : List (Int × Int)} {xs : List Int} (h : GrowL w base vo xs) (hw : Win w B v L) (he : WEff B v v' w w') : GrowL w' base vo xs := by
  refine ⟨h.1, ?_⟩
  rcases h.2 with hn | ⟨g, cap, cur, hv, hb, hgb, rest⟩
  · exact .inl hn
  · exact .inr ⟨g, cap, cur, hv, hb, he.other hw hgb (by decide) (by decide), rest⟩
theorem GrowL.made (w : World) (base : Nat) (x : Int) (hb : base ≤ w.heap.size) : GrowL (w.alloc (.cells #[.int .i64 x] 3)) base (.slice (some ⟨w.heap.size, 0, Option.none⟩) 1 1) [x] :=
  ⟨rfl, .inr ⟨w.heap.size, 1, #[.int .i64 x], rfl, hb, heap_alloc_new _ _, Nat.le_refl _, by unfold maxLen; omega, rfl, rfl⟩⟩
/-- The blocks lie, the window is empty. -/
def SeaR (w0 : World) (A F W Bw : Nat) (G : Nat → Int) (w : World) : Prop := ∃ v, Sea w0 w A F W Bw G v []
theorem SeaR.later {w0 w w' : World} {A F W Bw : Nat} {G : Nat → Int} (h : SeaR w0 A F W Bw G w) (hb : Below w.heap.size w w') : SeaR w0 A F W Bw G w' := ⟨h.choose, h.choose_spec.later hb⟩
theorem SeaR.set {w0 w : World} {A F W Bw : Nat} {G : Nat → Int} (h : SeaR w0 A F W Bw G w) {j : Nat} (hj : j < F * W) (u : Int) : SeaR w0 A F W Bw (fun i => if i = j then u else G i) (w.setCell ⟨A, j, none⟩ (.int .i64 u)) :=
  ⟨h.choose, h.choose_spec.set hj u⟩
theorem SeaR.prob {w0 w : World} {A F W Bw Bp : Nat} {G : Nat → Int} {p : Prob} {a : Option Addr} {c : Nat} (h : SeaR w0 A F W Bw G w) (hA : A = w0.heap.size) (hp : ProbBlk w0 Bp p a c) : ProbBlk w Bp p a c := h.choose_spec.prob hA hp
/-- The boxes' cells. -/
theorem SeaR.cells {w0 w : World} {A F W Bw : Nat} {G : Nat → Int} (h : SeaR w0 A F W Bw G w) (hA : A = w0.heap.size) (hw : w0.cell? ⟨Bw, 0, none⟩ = some (.int .i64 W)) :
    w.cell? ⟨Bw, 0, none⟩ = some (.int .i64 W) ∧ w.cell? ⟨A + 1, 0, none⟩ = some (.slice (some ⟨A, 0, none⟩) (F * W) (F * W)) ∧ w.cell? ⟨A + 2, 0, none⟩ = some (.func (.func 74) #[] #[.pointer (some ⟨A + 1, 0, none⟩), .pointer (some ⟨Bw, 0, none⟩)]) ∧
      w.cell? ⟨A + 4, 0, none⟩ = some (.pointer (some ⟨A + 3, 0, none⟩)) := by
  have h0 := World.block_lt_of_cell? w0 _ hw
  obtain ⟨v, hs⟩ := h
  refine ⟨(hs.below.cell (p := ⟨Bw, 0, none⟩) (by rw [hA]; exact h0)).trans hw, ?_, ?_, hs.cell4⟩
  · simp [World.cell?, hs.all]
  · simp [World.cell?, hs.row]
theorem SeaR.dat {w0 w : World} {A F W Bw : Nat} {G : Nat → Int} (h : SeaR w0 A F W Bw G w) : Blk w A (F * W) G := h.choose_spec.dat
theorem SeaR.lists {w0 w : World} {A F W Bw T : Nat} {G : Nat → Int} {p : Prob} (h : SeaR w0 A F W Bw G w) (hA : A = w0.heap.size) (hl : Lists w0 T F p) : Lists w T F p := hl.later (by rw [← hA]; exact h.choose_spec.below)
theorem SeaR.below {w0 w wi : World} {A F W Bw : Nat} {G : Nat → Int} (h : SeaR w0 A F W Bw G w) (hA : A = w0.heap.size) (hl : Below wi.heap.size wi w0) : Below wi.heap.size wi w := hl.trans (h.choose_spec.below.mono (by rw [hA]; exact hl.size))

/-! ### The numbers in them -/
/-- The rows from s on hold what the search says. -/
def Done (p : Prob) (F W : Nat) (G : Nat → Int) (s : Nat) : Prop := ∀ r j, s ≤ r → r < F → j < W → G (r * W + j) = rst p (F - 1 - r) r (p.low + j)
/-- And the first i cells of the row t. -/
def DoneTo (p : Prob) (F W : Nat) (G : Nat → Int) (t i : Nat) : Prop := ∀ j, j < i → G (t * W + j) = rst p (F - 1 - t) t (p.low + j)
theorem idx_lt {F W t i : Nat} (ht : t < F) (hi : i < W) : t * W + i < F * W := by
  have h1 : (t + 1) * W ≤ F * W := Nat.mul_le_mul_right _ ht
  have h2 : (t + 1) * W = t * W + W := by rw [Nat.add_mul, Nat.one_mul]
  omega
theorem idx_ne {W t r i j : Nat} (h : t < r) (hi : i < W) : r * W + j ≠ t * W + i := by
  have h1 : (t + 1) * W ≤ r * W := Nat.mul_le_mul_right _ h
  have h2 : (t + 1) * W = t * W + W := by rw [Nat.add_mul, Nat.one_mul]
  omega
theorem Done.set {p : Prob} {F W : Nat} {G : Nat → Int} {t i : Nat} (h : Done p F W G (t + 1)) (hi : i < W) (u : Int) : Done p F W (fun k => if k = t * W + i then u else G k) (t + 1) := fun r j h1 h2 h3 => by
  show (if r * W + j = t * W + i then u else G (r * W + j)) = _
  rw [if_neg (idx_ne (by omega) hi)]
  exact h r j h1 h2 h3
theorem DoneTo.keep {p : Prob} {F W : Nat} {G : Nat → Int} {t i : Nat} (h : DoneTo p F W G t i) (u : Int) : DoneTo p F W (fun k => if k = t * W + i then u else G k) t i := fun j hj => by
  show (if t * W + j = t * W + i then u else G (t * W + j)) = _
  rw [if_neg (by omega)]
  exact h j hj
theorem DoneTo.set {p : Prob} {F W : Nat} {G : Nat → Int} {t i : Nat} (h : DoneTo p F W G t i) {u : Int} (hu : u = rst p (F - 1 - t) t (p.low + i)) : DoneTo p F W (fun k => if k = t * W + i then u else G k) t (i + 1) := fun j hj => by
  show (if t * W + j = t * W + i then u else G (t * W + j)) = _
  by_cases e : j = i
  · rw [if_pos (by rw [e]), hu, e]
  · rw [if_neg (by omega)]
    exact h j (by omega)
theorem Done.down {p : Prob} {F W : Nat} {G : Nat → Int} {t : Nat} (h : Done p F W G (t + 1)) (h2 : DoneTo p F W G t W) : Done p F W G t := fun r j h1 h3 h4 => by
  by_cases e : r = t
  · subst e; exact h2 j h4
  · exact h r j (by omega) h3 h4
theorem next_congr {p : Prob} {c d : Int → Int} {x : Int} (hx : p.low ≤ x ∧ x ≤ p.high) (hs : 0 ≤ p.slope) (h : ∀ u, p.low ≤ u → u ≤ p.high → c u = d u) : next p c x = next p d x := by
  unfold next
  refine fm_congr fun u h1 h2 => ?_
  unfold step
  rw [h u (by unfold lo' at h1; omega) (by unfold hi' lo' at *; omega)]
theorem Done.next {p : Prob} {F W : Nat} {G : Nat → Int} {s t : Nat} (h : Done p F W G s) (hW : (W : Int) = p.high - p.low + 1) (hs : 0 ≤ p.slope) (h1 : s ≤ t) (h2 : t < F) {x : Int} (hx : p.low ≤ x ∧ x ≤ p.high) :
    next p (fun u => G (t * W + (u - p.low).toNat)) x = next p (rst p (F - 1 - t) t) x := next_congr hx hs fun u h3 h4 => by
  rw [h t _ h1 h2 (by omega)]
  congr 1
  omega
end Go.Proofs.YtijonghofghocaaDoor
