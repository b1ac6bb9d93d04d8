/-
  The theorem of contours in plain Lean: a contour that no shift of neighbouring values makes cheaper costs least. No condition beyond weights and smoothness that are not negative; no program in sight.
-/
namespace Go.Proofs.YtijonghofghocaaDoor

/-- Sum over t < n. -/
def sumTo (f : Nat → Int) : Nat → Int
  | 0 => 0
  | n + 1 => sumTo f n + f n

theorem sumTo_congr {f g : Nat → Int} : ∀ {n : Nat}, (∀ t, t < n → f t = g t) → sumTo f n = sumTo g n
  | 0, _ => rfl
  | n + 1, h => by
    show sumTo f n + f n = sumTo g n + g n
    rw [sumTo_congr (fun t ht => h t (by omega)), h n (by omega)]

theorem sumTo_le {f g : Nat → Int} : ∀ {n : Nat}, (∀ t, t < n → f t ≤ g t) → sumTo f n ≤ sumTo g n
  | 0, _ => Int.le_refl _
  | n + 1, h => by
    have := sumTo_le (n := n) (fun t ht => h t (by omega))
    have := h n (by omega)
    show sumTo f n + f n ≤ sumTo g n + g n
    omega

theorem sumTo_add (f g : Nat → Int) : ∀ n, sumTo (fun t => f t + g t) n = sumTo f n + sumTo g n
  | 0 => rfl
  | n + 1 => by
    show sumTo (fun t => f t + g t) n + (f n + g n) = (sumTo f n + f n) + (sumTo g n + g n)
    rw [sumTo_add f g n]; omega

/-- One target: time, value, weight. -/
structure Tgt where
  time : Int
  value : Int
  weight : Int

/-- A problem; its targets by their number and place. -/
structure Prob where
  frames : Int
  low : Int
  high : Int
  slope : Int
  smooth : Int
  m : Nat
  tg : Nat → Tgt

def sq (n : Int) : Int := n * n

/-- What target number i costs at the time t for a value. -/
def tcost (p : Prob) (t : Nat) (v : Int) (i : Nat) : Int := if (p.tg i).time = (t : Int) then (p.tg i).weight * sq (v - (p.tg i).value) else 0

/-- What the targets of a time cost for a value. -/
def node (p : Prob) (t : Nat) (v : Int) : Int := sumTo (tcost p t v) p.m

/-- What a frame costs: its targets, and the change from the frame before it. -/
def term (p : Prob) (v : Nat → Int) (t : Nat) : Int :=
  node p t (v t) + (if 0 < t then p.smooth * sq (v t - v (t - 1)) else 0)

def costN (p : Prob) (n : Nat) (v : Nat → Int) : Int := sumTo (term p v) n

def okN (p : Prob) (n : Nat) (v : Nat → Int) : Prop :=
  (∀ t, t < n → p.low ≤ v t ∧ v t ≤ p.high) ∧ (∀ t, 0 < t → t < n → -p.slope ≤ v t - v (t - 1) ∧ v t - v (t - 1) ≤ p.slope)

/-- d on the places from i to j. -/
def bump (i j : Nat) (d : Int) (t : Nat) : Int := if i ≤ t ∧ t ≤ j then d else 0

def settledN (p : Prob) (n : Nat) (v : Nat → Int) : Prop :=
  ∀ i j, i ≤ j → j < n → ∀ d : Int, d = 1 ∨ d = -1 → okN p n (fun t => v t + bump i j d t) → costN p n v ≤ costN p n (fun t => v t + bump i j d t)

def good (p : Prob) : Prop := 0 ≤ p.smooth ∧ ∀ i, i < p.m → 0 ≤ (p.tg i).weight

theorem sq_conv (x s r : Int) : sq (x + s + r) + sq x = sq (x + s) + sq (x + r) + 2 * (s * r) := by
  unfold sq; grind

theorem w_conv (w x s r : Int) (hw : 0 ≤ w) (h : 0 ≤ s * r) : w * sq (x + s) + w * sq (x + r) ≤ w * sq (x + s + r) + w * sq x := by
  have h1 := sq_conv x s r
  have h2 : 0 ≤ w * (s * r) := Int.mul_nonneg hw h
  have h3 : w * sq (x + s + r) + w * sq x = w * (sq (x + s + r) + sq x) := by rw [Int.mul_add]
  have h4 : w * sq (x + s) + w * sq (x + r) = w * (sq (x + s) + sq (x + r)) := by rw [Int.mul_add]
  rw [h3, h4, h1, Int.mul_add w (_ + _) (2 * (s * r))]
  have h5 : w * (2 * (s * r)) = 2 * (w * (s * r)) := by rw [← Int.mul_assoc, Int.mul_comm w 2, Int.mul_assoc]
  omega

theorem node_conv (p : Prob) (hp : good p) (t : Nat) (x s r : Int) (h : 0 ≤ s * r) :
    node p t (x + s) + node p t (x + r) ≤ node p t (x + s + r) + node p t x := by
  unfold node
  rw [← sumTo_add, ← sumTo_add]
  refine sumTo_le fun i hi => ?_
  unfold tcost
  by_cases ht : (p.tg i).time = (t : Int)
  · have h2 := w_conv (p.tg i).weight (x - (p.tg i).value) s r (hp.2 i hi) h
    simp only [if_pos ht]
    rw [show x + s - (p.tg i).value = x - (p.tg i).value + s by omega, show x + r - (p.tg i).value = x - (p.tg i).value + r by omega, show x + s + r - (p.tg i).value = x - (p.tg i).value + s + r by omega]
    omega
  · simp only [if_neg ht]; omega

/-- Of two parts that go the same way at each place and at each edge: together they cost at least what they cost apart. -/
theorem cost_conv (p : Prob) (hp : good p) (n : Nat) (v s r : Nat → Int) (hn : ∀ t, t < n → 0 ≤ s t * r t)
    (he : ∀ t, 0 < t → t < n → 0 ≤ (s t - s (t - 1)) * (r t - r (t - 1))) :
    costN p n (fun t => v t + s t) + costN p n (fun t => v t + r t) ≤ costN p n (fun t => v t + s t + r t) + costN p n v := by
  unfold costN
  rw [← sumTo_add, ← sumTo_add]
  refine sumTo_le fun t ht => ?_
  have h1 := node_conv p hp t (v t) (s t) (r t) (hn t ht)
  unfold term
  by_cases h0 : 0 < t
  · have h2 := w_conv p.smooth (v t - v (t - 1)) (s t - s (t - 1)) (r t - r (t - 1)) hp.1 (he t h0 ht)
    simp only [if_pos h0]
    rw [show v t + s t - (v (t - 1) + s (t - 1)) = v t - v (t - 1) + (s t - s (t - 1)) by omega,
      show v t + r t - (v (t - 1) + r (t - 1)) = v t - v (t - 1) + (r t - r (t - 1)) by omega,
      show v t + s t + r t - (v (t - 1) + s (t - 1) + r (t - 1)) = v t - v (t - 1) + (s t - s (t - 1)) + (r t - r (t - 1)) by omega]
    omega
  · simp only [if_neg h0]; omega

theorem mul_nonneg' {a b : Int} (h : (0 ≤ a ∧ 0 ≤ b) ∨ (a ≤ 0 ∧ b ≤ 0)) : 0 ≤ a * b := by
  rcases h with ⟨h1, h2⟩ | ⟨h1, h2⟩
  · exact Int.mul_nonneg h1 h2
  · have := Int.mul_nonneg (show 0 ≤ -a by omega) (show 0 ≤ -b by omega)
    rwa [Int.neg_mul_neg] at this

/-- The size of a change. -/
def size (D : Nat → Int) (n : Nat) : Int := sumTo (fun t => (D t).natAbs) n

/-- The run behind i where D keeps the sign e: its last place. -/
theorem run_end (D : Nat → Int) (e : Int) (n : Nat) : ∀ (k i : Nat), n - i = k → i < n → 0 < e * D i →
    ∃ j, i ≤ j ∧ j < n ∧ (∀ t, i ≤ t → t ≤ j → 0 < e * D t) ∧ (j + 1 < n → e * D (j + 1) ≤ 0)
  | 0, i, hk, hi, _ => by omega
  | k + 1, i, hk, hi, h => by
    by_cases hl : i + 1 < n
    · by_cases hp : 0 < e * D (i + 1)
      · obtain ⟨j, h1, h2, h3, h4⟩ := run_end D e n k (i + 1) (by omega) hl hp
        refine ⟨j, by omega, h2, fun t ht ht' => ?_, h4⟩
        by_cases heq : t = i
        · rw [heq]; exact h
        · exact h3 t (by omega) ht'
      · exact ⟨i, by omega, hi, fun t h1 h2 => by rw [show t = i by omega]; exact h, fun _ => by omega⟩
    · exact ⟨i, by omega, hi, fun t h1 h2 => by rw [show t = i by omega]; exact h, fun h => absurd h hl⟩

/-- The first place where D is not 0. -/
theorem first_ne (D : Nat → Int) : ∀ n, (∀ t, t < n → D t = 0) ∨ ∃ i, i < n ∧ D i ≠ 0 ∧ ∀ t, t < i → D t = 0
  | 0 => .inl fun _ h => by omega
  | n + 1 => by
    rcases first_ne D n with h | ⟨i, h1, h2, h3⟩
    · by_cases h0 : D n = 0
      · refine .inl fun t ht => ?_
        by_cases e : t = n
        · rw [e]; exact h0
        · exact h t (by omega)
      · exact .inr ⟨n, by omega, h0, h⟩
    · exact .inr ⟨i, by omega, h2, h3⟩

theorem size_lt (D D' : Nat → Int) (n i : Nat) (hi : i < n) (h : ∀ t, t < n → (D' t).natAbs ≤ (D t).natAbs) (hs : (D' i).natAbs < (D i).natAbs) :
    size D' n < size D n := by
  unfold size
  induction n with
  | zero => omega
  | succ n ih =>
    show sumTo (fun t => ((D' t).natAbs : Int)) n + ((D' n).natAbs : Int) < sumTo (fun t => ((D t).natAbs : Int)) n + ((D n).natAbs : Int)
    by_cases e : i = n
    · have h1 : sumTo (fun t => ((D' t).natAbs : Int)) n ≤ sumTo (fun t => ((D t).natAbs : Int)) n := sumTo_le fun t ht => by have := h t (by omega); omega
      rw [e] at hs
      omega
    · have h1 := ih (by omega) (fun t ht => h t (by omega))
      have h2 := h n (by omega)
      omega

theorem size_nonneg (D : Nat → Int) : ∀ n, 0 ≤ size D n
  | 0 => Int.le_refl _
  | n + 1 => by have := size_nonneg D n; unfold size at *; show 0 ≤ sumTo (fun t => ((D t).natAbs : Int)) n + ((D n).natAbs : Int); omega

theorem ends (D : Nat → Int) : ∀ n, size D n = 0 → ∀ t, t < n → D t = 0
  | 0, _, t, h => by omega
  | n + 1, h, t, ht => by
    have h1 := size_nonneg D n
    have h2 : size D n + (D n).natAbs = 0 := h
    by_cases e : t = n
    · rw [e]; omega
    · exact ends D n (by omega) t (by omega)

/-- THE THEOREM OF CONTOURS: where no shift of neighbouring values makes it cheaper, no contour is cheaper. -/
theorem settled_least (p : Prob) (hp : good p) (n : Nat) (v : Nat → Int) (hv : okN p n v) (hs : settledN p n v) :
    ∀ (k : Nat) (D : Nat → Int), size D n ≤ k → okN p n (fun t => v t + D t) → costN p n v ≤ costN p n (fun t => v t + D t) := by
  intro k
  induction k with
  | zero =>
    intro D hk _
    have h0 := ends D n (by have := size_nonneg D n; omega)
    refine Int.le_of_eq (sumTo_congr fun t ht => ?_)
    have h1 := h0 t ht
    have h2 := h0 (t - 1) (by omega)
    simp [term, h1, h2]
  | succ k ih =>
    intro D hk hD
    rcases first_ne D n with h0 | ⟨i, hi, hne, hz⟩
    · exact ih D (by
        have : size D n = 0 := by
          unfold size
          rw [sumTo_congr (g := fun _ => 0) (fun t ht => by rw [h0 t ht]; rfl)]
          clear hk hD hs hv ih h0
          induction n with
          | zero => rfl
          | succ n ih => show sumTo _ n + 0 = 0; omega
        omega) hD
    · obtain ⟨e, he, hpos⟩ : ∃ e : Int, (e = 1 ∨ e = -1) ∧ 0 < e * D i := by
        by_cases h : 0 < D i
        · exact ⟨1, .inl rfl, by omega⟩
        · exact ⟨-1, .inr rfl, by omega⟩
      obtain ⟨j, hij, hj, hin, hout⟩ := run_end D e n (n - i) i rfl hi hpos
      -- the sign, place by place
      have hD1 : ∀ t, i ≤ t → t ≤ j → (e = 1 ∧ 1 ≤ D t) ∨ (e = -1 ∧ D t ≤ -1) := by
        intro t h1 h2
        have := hin t h1 h2
        rcases he with rfl | rfl
        · exact .inl ⟨rfl, by omega⟩
        · exact .inr ⟨rfl, by omega⟩
      have hnext : j + 1 < n → (e = 1 ∧ D (j + 1) ≤ 0) ∨ (e = -1 ∧ 0 ≤ D (j + 1)) := by
        intro h
        have := hout h
        rcases he with rfl | rfl
        · exact .inl ⟨rfl, by omega⟩
        · exact .inr ⟨rfl, by omega⟩
      let s : Nat → Int := bump i j e
      let r : Nat → Int := fun t => D t - s t
      have hs0 : ∀ t, (i ≤ t ∧ t ≤ j ∧ s t = e) ∨ (¬ (i ≤ t ∧ t ≤ j) ∧ s t = 0) := by
        intro t
        by_cases h : i ≤ t ∧ t ≤ j
        · exact .inl ⟨h.1, h.2, by simp [s, bump, h]⟩
        · exact .inr ⟨h, by simp [s, bump, h]⟩
      have hnode : ∀ t, t < n → 0 ≤ s t * r t := by
        intro t _
        apply mul_nonneg'
        show (0 ≤ s t ∧ 0 ≤ D t - s t) ∨ (s t ≤ 0 ∧ D t - s t ≤ 0)
        rcases hs0 t with ⟨h1, h2, h3⟩ | ⟨h1, h3⟩
        · rcases hD1 t h1 h2 with ⟨h4, h5⟩ | ⟨h4, h5⟩ <;> omega
        · omega
      -- at each edge
      have hedge' : ∀ t, 0 < t → t < n → (0 ≤ s t - s (t - 1) ∧ 0 ≤ r t - r (t - 1)) ∨ (s t - s (t - 1) ≤ 0 ∧ r t - r (t - 1) ≤ 0) := by
        intro t h0 ht
        show (0 ≤ s t - s (t - 1) ∧ 0 ≤ D t - s t - (D (t - 1) - s (t - 1))) ∨ (s t - s (t - 1) ≤ 0 ∧ D t - s t - (D (t - 1) - s (t - 1)) ≤ 0)
        rcases hs0 t with ⟨h1, h2, h3⟩ | ⟨h1, h3⟩
        · rcases hs0 (t - 1) with ⟨h4, h5, h6⟩ | ⟨h4, h6⟩
          · omega
          · have : t = i := by omega
            have h7 := hz (t - 1) (by omega)
            rcases hD1 t h1 h2 with ⟨h8, h9⟩ | ⟨h8, h9⟩ <;> omega
        · rcases hs0 (t - 1) with ⟨h4, h5, h6⟩ | ⟨h4, h6⟩
          · have h7 : t = j + 1 := by omega
            rcases hD1 (t - 1) h4 h5 with ⟨h8, h9⟩ | ⟨h8, h9⟩
            · rcases hnext (by omega) with ⟨h10, h11⟩ | ⟨h10, h11⟩
              · rw [← h7] at h11; omega
              · omega
            · rcases hnext (by omega) with ⟨h10, h11⟩ | ⟨h10, h11⟩
              · omega
              · rw [← h7] at h11; omega
          · omega
      have hedge : ∀ t, 0 < t → t < n → 0 ≤ (s t - s (t - 1)) * (r t - r (t - 1)) := fun t h0 ht => mul_nonneg' (hedge' t h0 ht)
      have hc := cost_conv p hp n v s r hnode hedge
      have hsum : ∀ t, v t + s t + r t = v t + D t := fun t => by show v t + s t + (D t - s t) = _; omega
      simp only [hsum] at hc
      -- each value, each change, lies between the two
      have hsok : okN p n (fun t => v t + s t) := by
        refine ⟨fun t ht => ?_, fun t h0 ht => ?_⟩
        · have h1 := hv.1 t ht
          have h2 := hD.1 t ht
          show p.low ≤ v t + s t ∧ v t + s t ≤ p.high
          simp only at h2
          rcases hs0 t with ⟨h3, h4, h5⟩ | ⟨h3, h5⟩
          · rcases hD1 t h3 h4 with ⟨h6, h7⟩ | ⟨h6, h7⟩ <;> omega
          · omega
        · have h1 := hv.2 t h0 ht
          have h2 := hD.2 t h0 ht
          simp only at h2
          show -p.slope ≤ v t + s t - (v (t - 1) + s (t - 1)) ∧ v t + s t - (v (t - 1) + s (t - 1)) ≤ p.slope
          have h3 := hedge' t h0 ht
          have h4 : r t - r (t - 1) = D t - s t - (D (t - 1) - s (t - 1)) := rfl
          omega
      have hrok : okN p n (fun t => v t + r t) := by
        refine ⟨fun t ht => ?_, fun t h0 ht => ?_⟩
        · have h1 := hv.1 t ht
          have h2 := hD.1 t ht
          show p.low ≤ v t + (D t - s t) ∧ v t + (D t - s t) ≤ p.high
          simp only at h2
          rcases hs0 t with ⟨h3, h4, h5⟩ | ⟨h3, h5⟩
          · rcases hD1 t h3 h4 with ⟨h6, h7⟩ | ⟨h6, h7⟩ <;> omega
          · omega
        · have h1 := hv.2 t h0 ht
          have h2 := hD.2 t h0 ht
          simp only at h2
          show -p.slope ≤ v t + (D t - s t) - (v (t - 1) + (D (t - 1) - s (t - 1))) ∧ v t + (D t - s t) - (v (t - 1) + (D (t - 1) - s (t - 1))) ≤ p.slope
          have h3 := hedge' t h0 ht
          have h4 : r t - r (t - 1) = D t - s t - (D (t - 1) - s (t - 1)) := rfl
          omega
      have hless : size r n < size D n := by
        refine size_lt D r n i hi (fun t ht => ?_) ?_
        · show (D t - s t).natAbs ≤ _
          rcases hs0 t with ⟨h3, h4, h5⟩ | ⟨h3, h5⟩
          · rcases hD1 t h3 h4 with ⟨h6, h7⟩ | ⟨h6, h7⟩ <;> omega
          · omega
        · show (D i - s i).natAbs < _
          rcases hs0 i with ⟨h3, h4, h5⟩ | ⟨h3, h5⟩
          · rcases hD1 i h3 h4 with ⟨h6, h7⟩ | ⟨h6, h7⟩ <;> omega
          · omega
      have h1 := ih r (by omega) hrok
      have h2 := hs i j hij hj e he hsok
      have h3 : costN p n (fun t => v t + s t) = costN p n (fun t => v t + bump i j e t) := rfl
      omega
end Go.Proofs.YtijonghofghocaaDoor
