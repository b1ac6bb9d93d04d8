/-
  Plain Lean: ranges, rounding, shapes and commands, as functions on integers. No program in sight.
-/
import Derived.Test.YtijonghofghocaaDoorConvex
namespace Go.Proofs.YtijonghofghocaaDoor

/-- Is a number in a range? -/
def inB (n l h : Int) : Bool := decide (l ≤ n) && decide (n ≤ h)
theorem inB_iff {n l h : Int} : inB n l h = true ↔ l ≤ n ∧ n ≤ h := by simp [inB]
theorem inB_false {n l h : Int} : inB n l h = false ↔ n < l ∨ h < n := by simp [inB]; omega

/-- All of the first n. -/
def allTo (f : Nat → Bool) : Nat → Bool
  | 0 => true
  | n + 1 => allTo f n && f n
theorem allTo_iff {f : Nat → Bool} {n : Nat} : allTo f n = true ↔ ∀ i, i < n → f i = true := by
  induction n with
  | zero => simp [allTo]
  | succ n ih =>
    simp only [allTo, Bool.and_eq_true, ih]
    refine ⟨fun h i hi => ?_, fun h => ⟨fun i hi => h i (by omega), h n (by omega)⟩⟩
    by_cases e : i = n
    · rw [e]; exact h.2
    · exact h.1 i (by omega)
theorem allTo_succ {f : Nat → Bool} {n : Nat} (h : allTo f n = true) (h1 : f n = true) : allTo f (n + 1) = true := by simp [allTo, h, h1]
theorem allTo_false {f : Nat → Bool} {n i : Nat} (hi : i < n) (h : f i = false) : allTo f n = false := by
  cases e : allTo f n with
  | false => rfl
  | true => rw [allTo_iff.1 e i hi] at h; cases h

/-- To divide with rounding, halves away from 0. -/
def rndP (a b : Int) : Int := (2 * a + b) / (2 * b)
def rnd (a b : Int) : Int := if a < 0 then -rndP (-a) b else rndP a b

theorem div_facts (a b : Int) (ha : 0 ≤ a) (hb : 1 ≤ b) : 0 ≤ a / b ∧ 0 ≤ a / b * b ∧ a / b * b ≤ a ∧ a - a / b * b < b ∧ a / b ≤ a := by
  have h1 := Int.mul_ediv_add_emod a b
  have h2 := Int.emod_nonneg a (show b ≠ 0 by omega)
  have h3 := Int.emod_lt_of_pos a (show 0 < b by omega)
  have h4 : 0 ≤ a / b := Int.ediv_nonneg ha (by omega)
  have h5 : a / b * b = b * (a / b) := Int.mul_comm _ _
  have h6 : 0 ≤ a / b * b := Int.mul_nonneg h4 (by omega)
  have h7 : a / b ≤ a := Int.ediv_le_self _ ha
  omega

theorem rndP_up (a b : Int) (ha : 0 ≤ a) (hb : 1 ≤ b) (h : b ≤ 2 * (a - a / b * b)) : rndP a b = a / b + 1 := by
  obtain ⟨h1, h2, h3, h4, h5⟩ := div_facts a b ha hb
  unfold rndP
  have e : 2 * a + b = (2 * (a - a / b * b) + b - 2 * b) + (a / b + 1) * (2 * b) := by
    have : (a / b + 1) * (2 * b) = 2 * (a / b * b) + 2 * b := by grind
    omega
  rw [e, Int.add_mul_ediv_right _ _ (by omega : 2 * b ≠ 0), Int.ediv_eq_zero_of_lt (by omega) (by omega)]
  omega
theorem rndP_down (a b : Int) (ha : 0 ≤ a) (hb : 1 ≤ b) (h : 2 * (a - a / b * b) < b) : rndP a b = a / b := by
  obtain ⟨h1, h2, h3, h4, h5⟩ := div_facts a b ha hb
  unfold rndP
  have e : 2 * a + b = (2 * (a - a / b * b) + b) + (a / b) * (2 * b) := by
    have : (a / b) * (2 * b) = 2 * (a / b * b) := by grind
    omega
  rw [e, Int.add_mul_ediv_right _ _ (by omega : 2 * b ≠ 0), Int.ediv_eq_zero_of_lt (by omega) (by omega)]
  omega
/-- The bounds of a rounded quotient. -/
theorem rndP_bd (a b : Int) (ha : 0 ≤ a) (hb : 1 ≤ b) : 0 ≤ rndP a b ∧ rndP a b ≤ a := by
  obtain ⟨h1, h2, h3, h4, h5⟩ := div_facts a b ha hb
  by_cases h : b ≤ 2 * (a - a / b * b)
  · rw [rndP_up a b ha hb h]
    by_cases h0 : a / b = a
    · rw [h0] at h
      have : a ≤ a * b := by
        have := Int.mul_le_mul_of_nonneg_left hb ha
        omega
      omega
    · omega
  · rw [rndP_down a b ha hb (by omega)]; omega
theorem rnd_neg (a b : Int) (h : a < 0) : rnd a b = -rnd (-a) b := by
  unfold rnd; rw [if_pos h, if_neg (by omega)]
theorem rnd_pos (a b : Int) (h : 0 ≤ a) : rnd a b = rndP a b := by unfold rnd; rw [if_neg (by omega)]
theorem rnd_bd (a b : Int) (hb : 1 ≤ b) (K : Int) (h1 : -K ≤ a) (h2 : a ≤ K) : -K ≤ rnd a b ∧ rnd a b ≤ K := by
  unfold rnd
  split
  · have := rndP_bd (-a) b (by omega) hb; omega
  · have := rndP_bd a b (by omega) hb; omega

/-- A command: where it begins, how high it is, its shape's knots by number. -/
structure Cmd where
  ca : Int
  ch : Int
  n : Nat
  kt : Nat → Int
  kv : Nat → Int

def knotOk (kt kv : Nat → Int) (i : Nat) : Bool := inB (kt i) 0 4000 && inB (kv i) (-1000) 1000 && (decide (i = 0) || decide (kt (i - 1) < kt i))
def Cmd.valid (c : Cmd) : Bool := inB c.ca (-4000) 4000 && inB c.ch (-100000) 100000 && inB c.n 1 20 && allTo (knotOk c.kt c.kv) c.n

/-- What a command's value is by knot number i: at the knot, or between it and the one before. -/
def Cmd.hit (c : Cmd) (t : Int) (i : Nat) : Option Int :=
  if c.kt i = t - c.ca then some (rnd (c.ch * c.kv i) 1000)
  else if 0 < i ∧ c.kt (i - 1) < t - c.ca ∧ t - c.ca < c.kt i then
    some (rnd (c.ch * (c.kv (i - 1) * (c.kt i - c.kt (i - 1)) + (c.kv i - c.kv (i - 1)) * (t - c.ca - c.kt (i - 1)))) (1000 * (c.kt i - c.kt (i - 1))))
  else none
/-- The first hit from knot number i on, of k more. -/
def Cmd.from (c : Cmd) (t : Int) : Nat → Nat → Int
  | _, 0 => 0
  | i, k + 1 => match c.hit t i with
    | some v => v
    | none => Cmd.from c t (i + 1) k
def Cmd.val (c : Cmd) (t : Int) : Int := c.from t 0 c.n

theorem mul_bd {a b A B : Int} (h1 : -A ≤ a) (h2 : a ≤ A) (h3 : -B ≤ b) (h4 : b ≤ B) : -(A * B) ≤ a * b ∧ a * b ≤ A * B := by
  have e1 := Int.mul_nonneg (show 0 ≤ A - a by omega) (show 0 ≤ B + b by omega)
  have e2 := Int.mul_nonneg (show 0 ≤ A + a by omega) (show 0 ≤ B - b by omega)
  have e3 := Int.mul_nonneg (show 0 ≤ A - a by omega) (show 0 ≤ B - b by omega)
  have e4 := Int.mul_nonneg (show 0 ≤ A + a by omega) (show 0 ≤ B + b by omega)
  have f1 : (A - a) * (B + b) = A * B + A * b - a * B - a * b := by grind
  have f2 : (A + a) * (B - b) = A * B - A * b + a * B - a * b := by grind
  have f3 : (A - a) * (B - b) = A * B - A * b - a * B + a * b := by grind
  have f4 : (A + a) * (B + b) = A * B + A * b + a * B + a * b := by grind
  omega

theorem valid_iff {c : Cmd} (h : c.valid = true) : (-4000 ≤ c.ca ∧ c.ca ≤ 4000) ∧ (-100000 ≤ c.ch ∧ c.ch ≤ 100000) ∧ (1 ≤ c.n ∧ c.n ≤ 20) ∧
    (∀ i, i < c.n → 0 ≤ c.kt i ∧ c.kt i ≤ 4000 ∧ -1000 ≤ c.kv i ∧ c.kv i ≤ 1000) ∧ (∀ i, 0 < i → i < c.n → c.kt (i - 1) < c.kt i) := by
  simp only [Cmd.valid, Bool.and_eq_true, inB_iff, allTo_iff] at h
  obtain ⟨⟨⟨h1, h2⟩, h3⟩, h4⟩ := h
  refine ⟨h1, h2, by omega, fun i hi => ?_, fun i h0 hi => ?_⟩
  · have := h4 i hi
    simp only [knotOk, Bool.and_eq_true, inB_iff] at this
    exact ⟨this.1.1.1, this.1.1.2, this.1.2.1, this.1.2.2⟩
  · have := h4 i hi
    simp only [knotOk, Bool.and_eq_true, Bool.or_eq_true, decide_eq_true_eq] at this
    rcases this.2 with h | h
    · omega
    · exact h

theorem kt_lt {c : Cmd} (h : ∀ i, 0 < i → i < c.n → c.kt (i - 1) < c.kt i) : ∀ (k i : Nat), i + k + 1 < c.n → c.kt i < c.kt (i + k + 1)
  | 0, i, hi => by have := h (i + 1) (by omega) hi; simpa using this
  | k + 1, i, hi => by
    have h1 := kt_lt h k i (by omega)
    have h2 := h (i + k + 2) (by omega) (by omega)
    rw [show i + k + 2 - 1 = i + k + 1 by omega] at h2
    show c.kt i < c.kt (i + k + 2)
    omega
theorem kt_le {c : Cmd} (h : ∀ i, 0 < i → i < c.n → c.kt (i - 1) < c.kt i) {i j : Nat} (hij : i ≤ j) (hj : j < c.n) : c.kt i ≤ c.kt j := by
  by_cases e : i = j
  · rw [e]; exact Int.le_refl _
  · have := kt_lt h (j - i - 1) i (by omega)
    rw [show i + (j - i - 1) + 1 = j by omega] at this
    omega

theorem from_skip {c : Cmd} {t : Int} : ∀ (k i m : Nat), (∀ j, i ≤ j → j < i + k → c.hit t j = none) → c.from t i (k + m) = c.from t (i + k) m
  | 0, i, m, _ => by simp
  | k + 1, i, m, h => by
    rw [show k + 1 + m = (k + m) + 1 by omega]
    simp only [Cmd.from, h i (Nat.le_refl _) (by omega)]
    rw [from_skip k (i + 1) m (fun j h1 h2 => h j (by omega) (by omega)), show i + 1 + k = i + (k + 1) by omega]
theorem val_none {c : Cmd} {t : Int} (h : ∀ j, j < c.n → c.hit t j = none) : c.val t = 0 := by
  have := from_skip (c := c) (t := t) c.n 0 0 (fun j _ h2 => h j (by omega))
  simpa [Cmd.val, Cmd.from] using this
theorem val_some {c : Cmd} {t : Int} {i : Nat} {v : Int} (hi : i < c.n) (h : ∀ j, j < i → c.hit t j = none) (hv : c.hit t i = some v) : c.val t = v := by
  have := from_skip (c := c) (t := t) i 0 (c.n - i) (fun j _ h2 => h j (by omega))
  unfold Cmd.val
  rw [show c.n = i + (c.n - i) by omega, this, show c.n - i = (c.n - i - 1) + 1 by omega, Nat.zero_add]
  simp only [Cmd.from, hv]
theorem hit_none {c : Cmd} {t : Int} {i : Nat} (h1 : c.kt i ≠ t - c.ca) (h2 : ¬ (0 < i ∧ c.kt (i - 1) < t - c.ca ∧ t - c.ca < c.kt i)) : c.hit t i = none := by
  unfold Cmd.hit; rw [if_neg h1, if_neg h2]
theorem hit_at {c : Cmd} {t : Int} {i : Nat} (h1 : c.kt i = t - c.ca) : c.hit t i = some (rnd (c.ch * c.kv i) 1000) := by
  unfold Cmd.hit; rw [if_pos h1]
theorem hit_in {c : Cmd} {t : Int} {i : Nat} (h1 : c.kt i ≠ t - c.ca) (h2 : 0 < i ∧ c.kt (i - 1) < t - c.ca ∧ t - c.ca < c.kt i) :
    c.hit t i = some (rnd (c.ch * (c.kv (i - 1) * (c.kt i - c.kt (i - 1)) + (c.kv i - c.kv (i - 1)) * (t - c.ca - c.kt (i - 1)))) (1000 * (c.kt i - c.kt (i - 1)))) := by
  unfold Cmd.hit; rw [if_neg h1, if_pos h2]

/-- Before the first knot, behind the last. -/
theorem val_before {c : Cmd} {t : Int} (hv : c.valid = true) (h : t - c.ca < c.kt 0) : c.val t = 0 := by
  obtain ⟨_, _, hn, _, hs⟩ := valid_iff hv
  refine val_none fun j hj => hit_none ?_ ?_
  · have := kt_le hs (Nat.zero_le j) hj; omega
  · rintro ⟨h0, h1, _⟩
    have := kt_le hs (Nat.zero_le (j - 1)) (by omega); omega
theorem val_behind {c : Cmd} {t : Int} (hv : c.valid = true) (h : c.kt (c.n - 1) < t - c.ca) : c.val t = 0 := by
  obtain ⟨_, _, hn, _, hs⟩ := valid_iff hv
  refine val_none fun j hj => hit_none ?_ ?_
  · have := kt_le hs (show j ≤ c.n - 1 by omega) (by omega); omega
  · rintro ⟨h0, _, h1⟩
    have := kt_le hs (show j ≤ c.n - 1 by omega) (by omega); omega
/-- At the first knot that is not earlier. -/
theorem val_found {c : Cmd} {t : Int} {i : Nat} {v : Int} (hv : c.valid = true) (hi : i < c.n) (h0 : 0 < i → c.kt (i - 1) < t - c.ca) (h : c.hit t i = some v) : c.val t = v := by
  obtain ⟨_, _, hn, _, hs⟩ := valid_iff hv
  refine val_some hi (fun j hj => hit_none ?_ ?_) h
  · have := kt_le hs (show j ≤ i - 1 by omega) (by omega)
    have := h0 (by omega); omega
  · rintro ⟨_, _, h1⟩
    have := kt_le hs (show j ≤ i - 1 by omega) (by omega)
    have := h0 (by omega); omega
/-- The bounds of what is rounded. -/
theorem at_bd {c : Cmd} {i : Nat} (hv : c.valid = true) (hi : i < c.n) : -100000000 ≤ c.ch * c.kv i ∧ c.ch * c.kv i ≤ 100000000 := by
  obtain ⟨_, h2, _, h4, _⟩ := valid_iff hv
  have := h4 i hi
  have := mul_bd h2.1 h2.2 this.2.2.1 this.2.2.2
  omega
theorem in_bd {c : Cmd} {t : Int} {i : Nat} (hv : c.valid = true) (hi : i < c.n) (h0 : 0 < i) (h1 : c.kt (i - 1) < t - c.ca) (h2 : t - c.ca < c.kt i) :
    (-4000000 ≤ c.kv (i - 1) * (c.kt i - c.kt (i - 1)) ∧ c.kv (i - 1) * (c.kt i - c.kt (i - 1)) ≤ 4000000) ∧
    (-8000000 ≤ (c.kv i - c.kv (i - 1)) * (t - c.ca - c.kt (i - 1)) ∧ (c.kv i - c.kv (i - 1)) * (t - c.ca - c.kt (i - 1)) ≤ 8000000) ∧
    (-1200000000000 ≤ c.ch * (c.kv (i - 1) * (c.kt i - c.kt (i - 1)) + (c.kv i - c.kv (i - 1)) * (t - c.ca - c.kt (i - 1))) ∧
      c.ch * (c.kv (i - 1) * (c.kt i - c.kt (i - 1)) + (c.kv i - c.kv (i - 1)) * (t - c.ca - c.kt (i - 1))) ≤ 1200000000000) := by
  obtain ⟨_, h3, _, h4, hs⟩ := valid_iff hv
  have a1 := h4 i hi
  have a2 := h4 (i - 1) (by omega)
  have b1 := mul_bd (A := 1000) (B := 4000) a2.2.2.1 a2.2.2.2 (show -4000 ≤ c.kt i - c.kt (i - 1) by omega) (by omega)
  have b2 := mul_bd (a := c.kv i - c.kv (i - 1)) (b := t - c.ca - c.kt (i - 1)) (A := 2000) (B := 4000) (by omega) (by omega) (by omega) (by omega)
  have b3 := mul_bd (a := c.ch) (b := c.kv (i - 1) * (c.kt i - c.kt (i - 1)) + (c.kv i - c.kv (i - 1)) * (t - c.ca - c.kt (i - 1))) (A := 100000) (B := 12000000) h3.1 h3.2 (by omega) (by omega)
  omega
/-- A command's value is never greater than its height. -/
theorem hit_bd {c : Cmd} {t : Int} {i : Nat} {v : Int} (hv : c.valid = true) (hi : i < c.n) (h : c.hit t i = some v) : -1200000000000 ≤ v ∧ v ≤ 1200000000000 := by
  unfold Cmd.hit at h
  split at h
  · have := at_bd hv hi
    have := rnd_bd (c.ch * c.kv i) 1000 (by omega) 1200000000000 (by omega) (by omega)
    obtain rfl := Option.some.inj h; exact this
  · split at h
    · rename_i h1 h2
      have := in_bd hv hi h2.1 h2.2.1 h2.2.2
      have h5 := rnd_bd (c.ch * (c.kv (i - 1) * (c.kt i - c.kt (i - 1)) + (c.kv i - c.kv (i - 1)) * (t - c.ca - c.kt (i - 1)))) (1000 * (c.kt i - c.kt (i - 1))) (by omega) 1200000000000 (by omega) (by omega)
      obtain rfl := Option.some.inj h; exact h5
    · cases h
theorem from_bd {c : Cmd} {t : Int} (hv : c.valid = true) : ∀ (k i : Nat), i + k ≤ c.n → -1200000000000 ≤ c.from t i k ∧ c.from t i k ≤ 1200000000000
  | 0, i, _ => by simp [Cmd.from]
  | k + 1, i, hk => by
    simp only [Cmd.from]
    split
    · rename_i v h; exact hit_bd hv (by omega) h
    · exact from_bd hv k (i + 1) (by omega)
theorem val_bd {c : Cmd} {t : Int} (hv : c.valid = true) : -1200000000000 ≤ c.val t ∧ c.val t ≤ 1200000000000 := from_bd hv c.n 0 (by omega)
end Go.Proofs.YtijonghofghocaaDoor
