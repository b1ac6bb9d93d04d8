/-
  Plain Lean: what a shift of neighbouring values costs more, summed up step by step; when it is a contour; the theorem of contours, joined; raised problems; slope 0; no targets. No program in sight.
-/
import Derived.Test.YtijonghofghocaaDoorCont
namespace Go.Proofs.YtijonghofghocaaDoor

/-- v with d on the places from i to j. -/
def shift (v : Nat → Int) (i j : Nat) (d : Int) (t : Nat) : Int := v t + bump i j d t
theorem shift_in {v : Nat → Int} {i j t : Nat} {d : Int} (h : i ≤ t ∧ t ≤ j) : shift v i j d t = v t + d := by simp [shift, bump, h]
theorem shift_out {v : Nat → Int} {i j t : Nat} {d : Int} (h : ¬ (i ≤ t ∧ t ≤ j)) : shift v i j d t = v t := by simp [shift, bump, h]

/-- What the edge to the place i costs more, if the value at i is shifted alone. -/
def edgeIn (p : Prob) (v : Nat → Int) (i : Nat) (d : Int) : Int := if 0 < i then p.smooth * (sq (v i + d - v (i - 1)) - sq (v i - v (i - 1))) else 0
def nodeMore (p : Prob) (v : Nat → Int) (d : Int) (t : Nat) : Int := node p t (v t + d) - node p t (v t)
/-- The edge to i, and the k places from i on. -/
def more (p : Prob) (v : Nat → Int) (i : Nat) (d : Int) : Nat → Int
  | 0 => edgeIn p v i d
  | k + 1 => more p v i d k + nodeMore p v d (i + k)
/-- The edge behind j. -/
def edgeOut (p : Prob) (n : Nat) (v : Nat → Int) (j : Nat) (d : Int) : Int := if j + 1 < n then p.smooth * (sq (v (j + 1) - v j - d) - sq (v (j + 1) - v j)) else 0

theorem term_before {p : Prob} {v : Nat → Int} {i j t : Nat} {d : Int} (h : t < i) : term p (shift v i j d) t = term p v t := by
  unfold term
  rw [shift_out (by omega), shift_out (by omega)]
theorem term_begin {p : Prob} {v : Nat → Int} {i j : Nat} {d : Int} (h : i ≤ j) : term p (shift v i j d) i = term p v i + edgeIn p v i d + nodeMore p v d i := by
  unfold term edgeIn nodeMore
  rw [shift_in ⟨Nat.le_refl _, h⟩]
  by_cases e : 0 < i
  · rw [if_pos e, if_pos e, if_pos e, shift_out (by omega), Int.mul_sub]; omega
  · rw [if_neg e, if_neg e, if_neg e]; omega
theorem term_inner {p : Prob} {v : Nat → Int} {i j t : Nat} {d : Int} (h : i < t) (h2 : t ≤ j) : term p (shift v i j d) t = term p v t + nodeMore p v d t := by
  unfold term nodeMore
  rw [shift_in ⟨by omega, h2⟩, shift_in ⟨by omega, by omega⟩, if_pos (by omega), if_pos (by omega), show v t + d - (v (t - 1) + d) = v t - v (t - 1) by omega]
  omega
theorem term_behind {p : Prob} {v : Nat → Int} {i j : Nat} {d : Int} (h : i ≤ j) : term p (shift v i j d) (j + 1) = term p v (j + 1) + p.smooth * (sq (v (j + 1) - v j - d) - sq (v (j + 1) - v j)) := by
  unfold term
  rw [shift_out (by omega), if_pos (by omega), if_pos (by omega), Nat.add_sub_cancel, shift_in ⟨h, Nat.le_refl _⟩, Int.mul_sub, show v (j + 1) - (v j + d) = v (j + 1) - v j - d by omega]
  omega
theorem term_after {p : Prob} {v : Nat → Int} {i j t : Nat} {d : Int} (h : j + 1 < t) : term p (shift v i j d) t = term p v t := by
  unfold term
  rw [shift_out (by omega), shift_out (by omega)]

theorem cost_before {p : Prob} {v : Nat → Int} {i j : Nat} {d : Int} : ∀ {m : Nat}, m ≤ i → costN p m (shift v i j d) = costN p m v
  | 0, _ => rfl
  | m + 1, h => by rw [costN_succ, costN_succ, cost_before (show m ≤ i by omega), term_before (by omega)]
theorem cost_inner {p : Prob} {v : Nat → Int} {i j : Nat} {d : Int} (hij : i ≤ j) : ∀ {k : Nat}, i + k ≤ j → costN p (i + k + 1) (shift v i j d) = costN p (i + k + 1) v + more p v i d (k + 1)
  | 0, _ => by
    rw [Nat.add_zero, costN_succ, costN_succ, cost_before (Nat.le_refl i), term_begin hij]
    simp only [more, Nat.add_zero]
    omega
  | k + 1, h => by
    have e : i + (k + 1) + 1 = (i + k + 1) + 1 := by omega
    rw [e, costN_succ p (shift v i j d) (i + k + 1), costN_succ p v (i + k + 1), cost_inner hij (show i + k ≤ j by omega), term_inner (show i < i + k + 1 by omega) (by omega)]
    rw [show more p v i d (k + 1 + 1) = more p v i d (k + 1) + nodeMore p v d (i + (k + 1)) from rfl, show i + (k + 1) = i + k + 1 by omega]
    omega
theorem cost_after {p : Prob} {v : Nat → Int} {i j : Nat} {d : Int} (hij : i ≤ j) : ∀ {k : Nat}, costN p (j + 2 + k) (shift v i j d) = costN p (j + 2 + k) v + more p v i d (j - i + 1) + p.smooth * (sq (v (j + 1) - v j - d) - sq (v (j + 1) - v j))
  | 0 => by
    have h := cost_inner (p := p) (v := v) (d := d) hij (k := j - i) (by omega)
    rw [show i + (j - i) + 1 = j + 1 by omega] at h
    rw [Nat.add_zero, show j + 2 = (j + 1) + 1 by omega, costN_succ p (shift v i j d) (j + 1), costN_succ p v (j + 1), h, term_behind hij]
    omega
  | k + 1 => by
    have e : j + 2 + (k + 1) = (j + 2 + k) + 1 := by omega
    rw [e, costN_succ p (shift v i j d) (j + 2 + k), costN_succ p v (j + 2 + k), cost_after hij, term_after (by omega)]
    omega
/-- What a shift costs more. -/
theorem cost_shift {p : Prob} {n : Nat} {v : Nat → Int} {i j : Nat} {d : Int} (hij : i ≤ j) (hj : j < n) : costN p n (shift v i j d) = costN p n v + (more p v i d (j - i + 1) + edgeOut p n v j d) := by
  unfold edgeOut
  by_cases e : j + 1 < n
  · have h := cost_after (p := p) (v := v) (d := d) hij (k := n - (j + 2))
    rw [show j + 2 + (n - (j + 2)) = n by omega] at h
    rw [if_pos e, h]
    omega
  · have h := cost_inner (p := p) (v := v) (d := d) hij (k := j - i) (by omega)
    rw [show i + (j - i) + 1 = n by omega] at h
    rw [if_neg e, h]
    omega

/-- The edge to i may be shifted. -/
def inOk (p : Prob) (v : Nat → Int) (i : Nat) (d : Int) : Prop := 0 < i → -p.slope ≤ v i + d - v (i - 1) ∧ v i + d - v (i - 1) ≤ p.slope
def outOk (p : Prob) (n : Nat) (v : Nat → Int) (j : Nat) (d : Int) : Prop := j + 1 < n → -p.slope ≤ v (j + 1) - v j - d ∧ v (j + 1) - v j - d ≤ p.slope
theorem ok_shift {p : Prob} {n : Nat} {v : Nat → Int} (hv : okN p n v) {i j : Nat} {d : Int} (hij : i ≤ j) (hj : j < n) :
    okN p n (shift v i j d) ↔ (∀ t, i ≤ t → t ≤ j → p.low ≤ v t + d ∧ v t + d ≤ p.high) ∧ inOk p v i d ∧ outOk p n v j d := by
  constructor
  · intro h
    refine ⟨fun t h1 h2 => ?_, fun h0 => ?_, fun h0 => ?_⟩
    · have := h.1 t (by omega)
      rwa [shift_in ⟨h1, h2⟩] at this
    · have := h.2 i h0 (by omega)
      rwa [shift_in ⟨Nat.le_refl _, hij⟩, shift_out (by omega)] at this
    · have := h.2 (j + 1) (by omega) h0
      rw [Nat.add_sub_cancel, shift_in ⟨hij, Nat.le_refl _⟩, shift_out (by omega)] at this
      omega
  · rintro ⟨h1, h2, h3⟩
    refine ⟨fun t ht => ?_, fun t h0 ht => ?_⟩
    · by_cases e : i ≤ t ∧ t ≤ j
      · rw [shift_in e]; exact h1 t e.1 e.2
      · rw [shift_out e]; exact hv.1 t ht
    · have hvt := hv.2 t h0 ht
      by_cases e : i ≤ t ∧ t ≤ j
      · by_cases e2 : t = i
        · subst e2
          rw [shift_in e, shift_out (by omega)]
          exact h2 h0
        · rw [shift_in e, shift_in (by omega)]
          omega
      · by_cases e2 : t = j + 1
        · subst e2
          have := h3 ht
          rw [Nat.add_sub_cancel, shift_in ⟨hij, Nat.le_refl _⟩, shift_out e]
          omega
        · rw [shift_out e, shift_out (by omega)]
          exact hvt
/-- A shift that is a contour and costs less. -/
def bad (p : Prob) (n : Nat) (v : Nat → Int) (i j : Nat) (d : Int) : Prop := okN p n (shift v i j d) ∧ costN p n (shift v i j d) < costN p n v
theorem settled_iff {p : Prob} {n : Nat} {v : Nat → Int} : settledN p n v ↔ ∀ i j, i ≤ j → j < n → ∀ d : Int, d = 1 ∨ d = -1 → ¬ bad p n v i j d := by
  constructor
  · intro h i j h1 h2 d hd hb
    have := h i j h1 h2 d hd hb.1
    have h3 := hb.2
    unfold shift at h3
    omega
  · intro h i j h1 h2 d hd hok
    exact Int.not_lt.1 fun hlt => h i j h1 h2 d hd ⟨hok, hlt⟩
theorem bad_iff {p : Prob} {n : Nat} {v : Nat → Int} (hv : okN p n v) {i j : Nat} {d : Int} (hij : i ≤ j) (hj : j < n) (hr : ∀ t, i ≤ t → t ≤ j → p.low ≤ v t + d ∧ v t + d ≤ p.high) (hi : inOk p v i d) :
    bad p n v i j d ↔ outOk p n v j d ∧ more p v i d (j - i + 1) + edgeOut p n v j d < 0 := by
  unfold bad
  rw [ok_shift hv hij hj, cost_shift hij hj]
  constructor
  · rintro ⟨⟨_, _, h3⟩, h4⟩
    exact ⟨h3, by omega⟩
  · rintro ⟨h3, h4⟩
    exact ⟨⟨hr, hi, h3⟩, by omega⟩
theorem not_bad_in {p : Prob} {n : Nat} {v : Nat → Int} (hv : okN p n v) {i : Nat} {d : Int} (h : ¬ inOk p v i d) {j : Nat} (hij : i ≤ j) (hj : j < n) : ¬ bad p n v i j d := fun hb => h ((ok_shift hv hij hj).1 hb.1).2.1
theorem not_bad_at {p : Prob} {n : Nat} {v : Nat → Int} (hv : okN p n v) {i t : Nat} {d : Int} (hit : i ≤ t) (h : ¬ (p.low ≤ v t + d ∧ v t + d ≤ p.high)) {j : Nat} (htj : t ≤ j) (hj : j < n) : ¬ bad p n v i j d :=
  fun hb => h (((ok_shift hv (show i ≤ j by omega) hj).1 hb.1).1 t hit htj)

/-- How big the sums become. -/
theorem nodeMore_bd {p : Prob} (h : PB p) {v : Nat → Int} {t : Nat} {d : Int} (h1 : -100000 ≤ v t) (h2 : v t ≤ 100000) (hd : d = 1 ∨ d = -1) : -18000120000200000 ≤ nodeMore p v d t ∧ nodeMore p v d t ≤ 18000120000200000 := by
  have a := node_bd h (t := t) (v := v t) (by omega) (by omega)
  have b := node_bd h (t := t) (v := v t + d) (by omega) (by omega)
  unfold nodeMore
  omega
theorem sqdiff_bd {p : Prob} (h : PB p) {x y : Int} (x1 : -1000 ≤ x) (x2 : x ≤ 1000) (y1 : -1000 ≤ y) (y2 : y ≤ 1000) : -1000000000 ≤ p.smooth * (sq y - sq x) ∧ p.smooth * (sq y - sq x) ≤ 1000000000 := by
  have a := sq_le (x := x) (B := 1000) x1 x2
  have b := sq_le (x := y) (B := 1000) y1 y2
  have c := sq_nonneg x
  have e := sq_nonneg y
  have := h.k1
  have := h.k2
  have : -(1000 * 1000000) ≤ p.smooth * (sq y - sq x) ∧ p.smooth * (sq y - sq x) ≤ 1000 * 1000000 := mul_bd (by omega) (by omega) (by omega) (by omega)
  omega
theorem more_bd {p : Prob} (h : PB p) {n : Nat} {v : Nat → Int} (hv : okN p n v) {i : Nat} {d : Int} (hd : d = 1 ∨ d = -1) (hi : i < n) : ∀ k, i + k ≤ n → -(1000000000 + k * 18000120000200000) ≤ more p v i d k ∧ more p v i d k ≤ 1000000000 + k * 18000120000200000
  | 0, _ => by
    have b1 := h.l1
    have b2 := h.h1
    have b3 := h.rg
    have a := hv.1 i hi
    simp only [more, edgeIn]
    split
    · have a2 := hv.1 (i - 1) (by omega)
      have := sqdiff_bd h (x := v i - v (i - 1)) (y := v i + d - v (i - 1)) (by omega) (by omega) (by omega) (by omega)
      omega
    · omega
  | k + 1, hk => by
    have ih := more_bd h hv hd hi k (by omega)
    have b1 := h.l1
    have b2 := h.h1
    have a := hv.1 (i + k) (by omega)
    have := nodeMore_bd h (v := v) (t := i + k) (d := d) (by omega) (by omega) hd
    simp only [more]
    omega

/-! ### The theorem of contours, joined -/
theorem costN_congr {p : Prob} {n : Nat} {v b : Nat → Int} (h : ∀ t, t < n → v t = b t) : costN p n v = costN p n b :=
  sumTo_congr fun t ht => by
    unfold term
    rw [h t ht, h (t - 1) (by omega)]
theorem okN_congr {p : Prob} {n : Nat} {v b : Nat → Int} (h : ∀ t, t < n → v t = b t) (hv : okN p n v) : okN p n b :=
  ⟨fun t ht => by rw [← h t ht]; exact hv.1 t ht, fun t h0 ht => by rw [← h t ht, ← h (t - 1) (by omega)]; exact hv.2 t h0 ht⟩
theorem settled_cost {p : Prob} (hp : PB p) {n : Nat} (hn : 0 < n) {v : Nat → Int} (hv : okN p n v) : settledN p n v ↔ costN p n v = costN p n (path p n) := by
  have hb := best_least p n hn v hv
  have hpo := path_ok p n hp.lh hp.s1
  constructor
  · intro h
    have e : ∀ t, t < n → v t + (path p n t - v t) = path p n t := fun t _ => by omega
    have h1 := settled_least p hp.good n v hv h (size (fun t => path p n t - v t) n).toNat (fun t => path p n t - v t) (by have := size_nonneg (fun t => path p n t - v t) n; omega) (okN_congr (fun t ht => (e t ht).symm) hpo)
    rw [costN_congr e] at h1
    omega
  · intro h i j _ _ d _ hok
    have := best_least p n hn _ hok
    omega
theorem path_settled {p : Prob} (hp : PB p) {n : Nat} (hn : 0 < n) : settledN p n (path p n) := (settled_cost hp hn (path_ok p n hp.lh hp.s1)).2 rfl

/-! ### A raised problem -/
def raise (p : Prob) (b : Int) : Prob := ⟨p.frames, p.low + b, p.high + b, p.slope, p.smooth, p.m, fun i => ⟨(p.tg i).time, (p.tg i).value + b, (p.tg i).weight⟩⟩
theorem tcost_raise (p : Prob) (b : Int) (t : Nat) (x : Int) (i : Nat) : tcost (raise p b) t x i = tcost p t (x - b) i := by
  simp only [tcost, raise]
  rw [show x - ((p.tg i).value + b) = x - b - (p.tg i).value by omega]
  rfl
theorem node_raise (p : Prob) (b : Int) (t : Nat) (x : Int) : node (raise p b) t x = node p t (x - b) := sumTo_congr fun i _ => tcost_raise p b t x i
theorem next_raise (p : Prob) (b : Int) {c d : Int → Int} (h : ∀ u, d u = c (u - b)) (x : Int) : next (raise p b) d x = ((next p c (x - b)).1 + b, (next p c (x - b)).2) := by
  have e1 : lo' (raise p b) x = lo' p (x - b) + b := by simp only [lo', raise]; omega
  have e2 : hi' (raise p b) x = hi' p (x - b) + b := by simp only [hi', raise]; omega
  have e3 : step (raise p b) d x = fun u => step p c (x - b) (u - b) := by
    funext u
    simp only [step, raise]
    rw [h u, show u - b - (x - b) = u - x by omega]
  unfold next
  rw [e1, e2, e3, show hi' p (x - b) + b - (lo' p (x - b) + b) = hi' p (x - b) - lo' p (x - b) by omega]
  exact fm_shift _ _ _ _
theorem rst_raise (p : Prob) (b : Int) : ∀ r t x, rst (raise p b) r t x = rst p r t (x - b)
  | 0, t, x => node_raise p b t x
  | r + 1, t, x => by
    simp only [rst]
    rw [node_raise, next_raise p b (fun u => rst_raise p b r (t + 1) u)]
theorem path_raise (p : Prob) (b : Int) (n : Nat) : ∀ t, path (raise p b) n t = path p n t + b
  | 0 => by
    show (fm (rst (raise p b) (n - 1) 0) (p.low + b) (p.high + b - (p.low + b)).toNat).1 = _
    rw [show rst (raise p b) (n - 1) 0 = fun u => rst p (n - 1) 0 (u - b) from funext fun u => rst_raise p b _ _ u, show p.high + b - (p.low + b) = p.high - p.low by omega, fm_shift]
    rfl
  | t + 1 => by
    show (next (raise p b) (rst (raise p b) (n - 1 - (t + 1)) (t + 1)) (path (raise p b) n t)).1 = _
    rw [next_raise p b (fun u => rst_raise p b _ _ u), path_raise p b n t, show path p n t + b - b = path p n t by omega]
    rfl
theorem cost_raise (p : Prob) (b : Int) (n : Nat) : costN (raise p b) n (path (raise p b) n) = costN p n (path p n) :=
  sumTo_congr fun t _ => by
    unfold term
    rw [node_raise, path_raise, path_raise, show path p n t + b - b = path p n t by omega, show path p n t + b - (path p n (t - 1) + b) = path p n t - path p n (t - 1) by omega]
    rfl
/-! ### Slope 0; no targets -/
theorem path_flat {p : Prob} (hp : PB p) {n : Nat} (h : p.slope = 0) : ∀ t, t < n → path p n t = path p n 0
  | 0, _ => rfl
  | t + 1, ht => by
    have h1 := (path_ok p n hp.lh hp.s1).2 (t + 1) (by omega) ht
    rw [Nat.add_sub_cancel, h, path_flat hp h t (by omega)] at h1
    omega
theorem bef_low {v b : Nat → Int} : ∀ {k t : Nat}, bef v b t k = false → (∀ i, t ≤ i → i < t + k → v i ≤ b i) → ∀ i, t ≤ i → i < t + k → b i = v i
  | 0, t, _, _, i, h1, h2 => by omega
  | k + 1, t, h, hle, i, h1, h2 => by
    simp only [bef] at h
    split at h
    · rename_i e
      by_cases q : i = t
      · rw [q, e]
      · exact bef_low h (fun j a c => hle j (by omega) (by omega)) i (by omega) (by omega)
    · rename_i e
      have := of_decide_eq_false h
      have := hle t (by omega) (by omega)
      omega
theorem path_low {p : Prob} (hp : PB p) {n : Nat} (hn : 0 < n) (hm : p.m = 0) (hn2 : n ≤ 200) : ∀ t, t < n → path p n t = p.low := by
  have hz : ∀ t x, node p t x = 0 := fun t x => by unfold node; rw [hm]; rfl
  have hok : okN p n (fun _ => p.low) := ⟨fun t _ => ⟨Int.le_refl _, hp.lh⟩, fun t _ _ => by have := hp.s1; show -p.slope ≤ p.low - p.low ∧ p.low - p.low ≤ p.slope; omega⟩
  have hc : costN p n (fun _ => p.low) = 0 := by
    have : ∀ k, costN p k (fun _ => p.low) = 0 := by
      intro k
      induction k with
      | zero => rfl
      | succ k ih => rw [costN_succ, ih]; unfold term; rw [hz]; simp [sq]
    exact this n
  have hpo := path_ok p n hp.lh hp.s1
  have h1 := best_first p n hn _ hok (by rw [hc]; exact (costN_bd hp hpo hn2 (Nat.le_refl n)).1)
  intro t ht
  exact bef_low h1 (fun i _ h => (hpo.1 i (by omega)).1) t (by omega) (by omega)
end Go.Proofs.YtijonghofghocaaDoor
