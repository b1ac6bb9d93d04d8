/-
  Plain Lean: the search for the best contour: the least cost of what follows a value, the first of the best next values, the path; no contour costs less, and of those that cost as much none comes before it. No program in sight.
-/
import Derived.Test.YtijonghofghocaaDoorPlain
namespace Go.Proofs.YtijonghofghocaaDoor

/-! ### The first of the best of lo, lo + 1, .., lo + k -/
def fm (g : Int → Int) (lo : Int) : Nat → Int × Int
  | 0 => (lo, g lo)
  | k + 1 => if g (lo + (k + 1 : Nat)) < (fm g lo k).2 then (lo + (k + 1 : Nat), g (lo + (k + 1 : Nat))) else fm g lo k
theorem fm_val (g : Int → Int) (lo : Int) : ∀ k, (fm g lo k).2 = g (fm g lo k).1
  | 0 => rfl
  | k + 1 => by simp only [fm]; split; rfl; exact fm_val g lo k
theorem fm_range (g : Int → Int) (lo : Int) : ∀ k, lo ≤ (fm g lo k).1 ∧ (fm g lo k).1 ≤ lo + k
  | 0 => by simp [fm]
  | k + 1 => by
    have := fm_range g lo k
    simp only [fm]
    split
    · dsimp only; omega
    · omega
theorem fm_least (g : Int → Int) (lo : Int) : ∀ (k : Nat) (u : Int), lo ≤ u → u ≤ lo + k → (fm g lo k).2 ≤ g u
  | 0, u, h1, h2 => by have : u = lo := by omega
                       rw [this]; exact Int.le_refl _
  | k + 1, u, h1, h2 => by
    simp only [fm]
    split
    · rename_i h
      by_cases e : u = lo + (k + 1 : Nat)
      · rw [e]; exact Int.le_refl _
      · have := fm_least g lo k u h1 (by omega); dsimp only; omega
    · rename_i h
      by_cases e : u = lo + (k + 1 : Nat)
      · rw [e]; omega
      · exact fm_least g lo k u h1 (by omega)
theorem fm_first (g : Int → Int) (lo : Int) : ∀ (k : Nat) (u : Int), lo ≤ u → u < (fm g lo k).1 → (fm g lo k).2 < g u
  | 0, u, h1, h2 => by simp only [fm] at h2; omega
  | k + 1, u, h1, h2 => by
    simp only [fm] at h2 ⊢
    split at h2
    · rename_i h
      rw [if_pos h]
      dsimp only at h2 ⊢
      have := fm_least g lo k u h1 (by omega); omega
    · rename_i h
      rw [if_neg h]
      exact fm_first g lo k u h1 h2
theorem fm_congr {g h : Int → Int} {lo : Int} : ∀ {k : Nat}, (∀ u, lo ≤ u → u ≤ lo + k → g u = h u) → fm g lo k = fm h lo k
  | 0, e => by simp only [fm]; rw [e lo (by omega) (by omega)]
  | k + 1, e => by simp only [fm]; rw [fm_congr (k := k) (fun u h1 h2 => e u h1 (by omega)), e (lo + (k + 1 : Nat)) (by omega) (by omega)]
theorem fm_shift (g : Int → Int) (lo d : Int) : ∀ k, fm (fun u => g (u - d)) (lo + d) k = ((fm g lo k).1 + d, (fm g lo k).2)
  | 0 => by simp only [fm]; rw [show lo + d - d = lo by omega]
  | k + 1 => by
    simp only [fm]
    rw [fm_shift g lo d k, show lo + d + (k + 1 : Nat) - d = lo + (k + 1 : Nat) by omega]
    split
    · rw [show lo + d + (k + 1 : Nat) = lo + (k + 1 : Nat) + d by omega]
    · rfl
/-- The first of the best of a list, beginning with one. -/
def fb (o : Int × Int) (l : List (Int × Int)) : Int × Int := l.foldl (fun o x => if x.2 < o.2 then x else o) o
def cands (g : Int → Int) (lo : Int) (k : Nat) : List (Int × Int) := (List.range k).map (fun i : Nat => (lo + i, g (lo + i)))
theorem cands_succ (g : Int → Int) (lo : Int) (k : Nat) : cands g lo (k + 1) = cands g lo k ++ [(lo + k, g (lo + k))] := by simp [cands, List.range_succ]
theorem fb_cands (g : Int → Int) (lo : Int) : ∀ k, fb (lo, g lo) ((cands g lo (k + 1)).tail) = fm g lo k
  | 0 => by simp [cands, fb, fm]
  | k + 1 => by
    have h := fb_cands g lo k
    rw [cands_succ, List.tail_append_of_ne_nil (by simp [cands])]
    unfold fb at *
    rw [List.foldl_append, h]
    simp only [List.foldl_cons, List.foldl_nil, fm]

/-! ### The search -/
def lo' (p : Prob) (v : Int) : Int := max p.low (v - p.slope)
def hi' (p : Prob) (v : Int) : Int := min p.high (v + p.slope)
/-- What a next value costs, with what follows it. -/
def step (p : Prob) (c : Int → Int) (v u : Int) : Int := c u + p.smooth * sq (u - v)
def next (p : Prob) (c : Int → Int) (v : Int) : Int × Int := fm (step p c v) (lo' p v) (hi' p v - lo' p v).toNat
/-- The least cost of the r frames behind t, and of t itself, if the value at t is x. -/
def rst (p : Prob) : Nat → Nat → Int → Int
  | 0, t, x => node p t x
  | r + 1, t, x => node p t x + (next p (rst p r (t + 1)) x).2
/-- The best contour of n frames. -/
def path (p : Prob) (n : Nat) : Nat → Int
  | 0 => (fm (rst p (n - 1) 0) p.low (p.high - p.low).toNat).1
  | t + 1 => (next p (rst p (n - 1 - (t + 1)) (t + 1)) (path p n t)).1

/-- The cost of the frames t .. t + r of v. -/
def tail (p : Prob) (v : Nat → Int) : Nat → Nat → Int
  | 0, t => node p t (v t)
  | r + 1, t => node p t (v t) + p.smooth * sq (v (t + 1) - v t) + tail p v r (t + 1)
theorem sumTo_front (f : Nat → Int) : ∀ n, sumTo f (n + 1) = f 0 + sumTo (fun i => f (i + 1)) n
  | 0 => by simp [sumTo]
  | n + 1 => by
    show sumTo f (n + 1) + f (n + 1) = f 0 + (sumTo (fun i => f (i + 1)) n + f (n + 1))
    rw [sumTo_front f n]; omega
theorem tail_sum (p : Prob) (v : Nat → Int) : ∀ r t, tail p v r t = node p t (v t) + sumTo (fun i => term p v (t + 1 + i)) r
  | 0, t => by simp [tail, sumTo]
  | r + 1, t => by
    rw [sumTo_front]
    simp only [tail]
    rw [tail_sum p v r (t + 1)]
    have e : term p v (t + 1 + 0) = node p (t + 1) (v (t + 1)) + p.smooth * sq (v (t + 1) - v t) := by simp [term]
    rw [e]
    have e2 : sumTo (fun i => term p v (t + 1 + 1 + i)) r = sumTo (fun i => term p v (t + 1 + (i + 1))) r := sumTo_congr fun i _ => by rw [show t + 1 + 1 + i = t + 1 + (i + 1) by omega]
    rw [e2]; omega
theorem cost_tail (p : Prob) (v : Nat → Int) (n : Nat) (hn : 0 < n) : costN p n v = tail p v (n - 1) 0 := by
  rw [tail_sum]
  unfold costN
  rw [show n = (n - 1) + 1 by omega, sumTo_front]
  have e : term p v 0 = node p 0 (v 0) := by simp [term]
  rw [e, show n - 1 + 1 - 1 = n - 1 by omega]
  congr 1
  exact sumTo_congr fun i _ => by rw [show 0 + 1 + i = i + 1 by omega]

theorem next_range {p : Prob} {c : Int → Int} {v : Int} (h0 : p.low ≤ v) (h1 : v ≤ p.high) (hs : 0 ≤ p.slope) :
    p.low ≤ (next p c v).1 ∧ (next p c v).1 ≤ p.high ∧ -p.slope ≤ (next p c v).1 - v ∧ (next p c v).1 - v ≤ p.slope := by
  have h := fm_range (step p c v) (lo' p v) (hi' p v - lo' p v).toNat
  have e1 : lo' p v ≤ v := by unfold lo'; omega
  have e2 : v ≤ hi' p v := by unfold hi'; omega
  have e3 : p.low ≤ lo' p v ∧ v - p.slope ≤ lo' p v := by unfold lo'; omega
  have e4 : hi' p v ≤ p.high ∧ hi' p v ≤ v + p.slope := by unfold hi'; omega
  unfold next
  omega
theorem next_least {p : Prob} {c : Int → Int} {v u : Int} (h0 : p.low ≤ u) (h1 : u ≤ p.high) (h2 : -p.slope ≤ u - v) (h3 : u - v ≤ p.slope) : (next p c v).2 ≤ step p c v u := by
  have e3 : lo' p v ≤ u := by unfold lo'; omega
  have e4 : u ≤ hi' p v := by unfold hi'; omega
  exact fm_least _ _ _ _ e3 (by omega)
theorem next_first {p : Prob} {c : Int → Int} {v u : Int} (h0 : p.low ≤ u) (h2 : -p.slope ≤ u - v) (h : u < (next p c v).1) : (next p c v).2 < step p c v u := by
  have e3 : lo' p v ≤ u := by unfold lo'; omega
  exact fm_first _ _ _ _ e3 h

/-- No way on costs less. -/
theorem rst_least (p : Prob) (n : Nat) (v : Nat → Int) (hv : okN p n v) : ∀ r t, t + r < n → rst p r t (v t) ≤ tail p v r t
  | 0, t, _ => Int.le_refl _
  | r + 1, t, h => by
    have ih := rst_least p n v hv r (t + 1) (by omega)
    have h1 := hv.1 (t + 1) (by omega)
    have h2 := hv.2 (t + 1) (by omega) (by omega)
    rw [show t + 1 - 1 = t by omega] at h2
    have h3 := next_least (p := p) (c := rst p r (t + 1)) (v := v t) h1.1 h1.2 h2.1 h2.2
    unfold step at h3
    simp only [rst, tail]
    omega
theorem path_range (p : Prob) (n : Nat) (hl : p.low ≤ p.high) (hs : 0 ≤ p.slope) : ∀ t, p.low ≤ path p n t ∧ path p n t ≤ p.high
  | 0 => by
    have := fm_range (rst p (n - 1) 0) p.low (p.high - p.low).toNat
    simp only [path]; omega
  | t + 1 => by
    have ih := path_range p n hl hs t
    have := next_range (p := p) (c := rst p (n - 1 - (t + 1)) (t + 1)) ih.1 ih.2 hs
    simp only [path]; exact ⟨this.1, this.2.1⟩
theorem path_ok (p : Prob) (n : Nat) (hl : p.low ≤ p.high) (hs : 0 ≤ p.slope) : okN p n (path p n) := by
  refine ⟨fun t _ => path_range p n hl hs t, fun t h0 _ => ?_⟩
  obtain ⟨s, rfl⟩ : ∃ s, t = s + 1 := ⟨t - 1, by omega⟩
  have ih := path_range p n hl hs s
  have := next_range (p := p) (c := rst p (n - 1 - (s + 1)) (s + 1)) ih.1 ih.2 hs
  rw [show s + 1 - 1 = s by omega]
  simp only [path]; exact this.2.2
/-- The path costs what the search says. -/
theorem path_tail (p : Prob) (n : Nat) : ∀ r t, t + r = n - 1 → tail p (path p n) r t = rst p r t (path p n t)
  | 0, t, _ => rfl
  | r + 1, t, h => by
    have ih := path_tail p n r (t + 1) (by omega)
    simp only [tail, rst]
    rw [ih]
    have e : path p n (t + 1) = (next p (rst p r (t + 1)) (path p n t)).1 := by
      show (next p (rst p (n - 1 - (t + 1)) (t + 1)) (path p n t)).1 = _
      rw [show n - 1 - (t + 1) = r by omega]
    have e2 : (next p (rst p r (t + 1)) (path p n t)).2 = step p (rst p r (t + 1)) (path p n t) (next p (rst p r (t + 1)) (path p n t)).1 := fm_val _ _ _
    rw [e2, ← e]
    unfold step
    omega
theorem best_least (p : Prob) (n : Nat) (hn : 0 < n) (v : Nat → Int) (hv : okN p n v) : costN p n (path p n) ≤ costN p n v := by
  rw [cost_tail p _ n hn, cost_tail p _ n hn, path_tail p n (n - 1) 0 (by omega)]
  have h1 := rst_least p n v hv (n - 1) 0 (by omega)
  have h2 := hv.1 0 hn
  have h3 := fm_least (rst p (n - 1) 0) p.low (p.high - p.low).toNat (v 0) h2.1 (by omega)
  rw [fm_val] at h3
  simp only [path]
  omega
/-- Does v come before b? (in lexicographic order, from t on, k places) -/
def bef (v b : Nat → Int) : Nat → Nat → Bool
  | _, 0 => false
  | t, k + 1 => if v t = b t then bef v b (t + 1) k else decide (v t < b t)
/-- A way on that costs no more does not come before the path. -/
theorem path_first_from (p : Prob) (n : Nat) (v : Nat → Int) (hv : okN p n v) :
    ∀ r t, t + r = n - 1 → v t = path p n t → tail p v r t ≤ rst p r t (v t) → bef v (path p n) (t + 1) r = false
  | 0, _, _, _, _ => rfl
  | r + 1, t, h, he, hle => by
    have h1 := hv.1 (t + 1) (by omega)
    have h2 := hv.2 (t + 1) (by omega) (by omega)
    rw [show t + 1 - 1 = t by omega] at h2
    have h3 := rst_least p n v hv r (t + 1) (by omega)
    have e : path p n (t + 1) = (next p (rst p r (t + 1)) (path p n t)).1 := by
      show (next p (rst p (n - 1 - (t + 1)) (t + 1)) (path p n t)).1 = _
      rw [show n - 1 - (t + 1) = r by omega]
    simp only [tail, rst] at hle
    have h4 := next_least (p := p) (c := rst p r (t + 1)) (v := v t) h1.1 h1.2 h2.1 h2.2
    unfold step at h4
    simp only [bef]
    split
    · rename_i heq
      exact path_first_from p n v hv r (t + 1) (by omega) heq (by omega)
    · rename_i hne
      refine decide_eq_false fun hlt => ?_
      rw [e, ← he] at hlt
      have h5 := next_first (p := p) (c := rst p r (t + 1)) (v := v t) h1.1 h2.1 hlt
      unfold step at h5
      omega
theorem best_first (p : Prob) (n : Nat) (hn : 0 < n) (v : Nat → Int) (hv : okN p n v) (hle : costN p n v ≤ costN p n (path p n)) : bef v (path p n) 0 n = false := by
  rw [cost_tail p _ n hn, cost_tail p _ n hn, path_tail p n (n - 1) 0 (by omega)] at hle
  have h1 := rst_least p n v hv (n - 1) 0 (by omega)
  have h2 := hv.1 0 hn
  have h3 := fm_least (rst p (n - 1) 0) p.low (p.high - p.low).toNat (v 0) h2.1 (by omega)
  rw [fm_val] at h3
  have e0 : path p n 0 = (fm (rst p (n - 1) 0) p.low (p.high - p.low).toNat).1 := rfl
  rw [← e0] at h3
  obtain ⟨m, rfl⟩ : ∃ m, n = m + 1 := ⟨n - 1, by omega⟩
  simp only [bef]
  split
  · rename_i heq
    refine path_first_from p (m + 1) v hv m 0 (by omega) heq ?_
    rw [heq]
    rw [show m + 1 - 1 = m by omega] at hle
    exact hle
  · rename_i hne
    refine decide_eq_false fun hlt => ?_
    rw [e0] at hlt
    have h5 := fm_first _ _ _ _ h2.1 hlt
    rw [fm_val, ← e0] at h5
    omega
end Go.Proofs.YtijonghofghocaaDoor
