/-
  Plain Lean: pulses: the phase, the pulses up to a sample. No program in sight.
-/
import Derived.Test.YtijonghofghocaaDoorPlain
namespace Go.Proofs.YtijonghofghocaaDoor

/-- The phase behind the first k samples. -/
def phase (rate : Int) (f : Nat → Int) : Nat → Int
  | 0 => 0
  | k + 1 => if 1000 * rate ≤ phase rate f k + f k then phase rate f k + f k - 1000 * rate else phase rate f k + f k
/-- Is there a pulse at sample k? -/
def pulse (rate : Int) (f : Nat → Int) (k : Nat) : Bool := decide (1000 * rate ≤ phase rate f k + f k)
/-- How many there are among the first k samples. -/
def count (rate : Int) (f : Nat → Int) : Nat → Nat
  | 0 => 0
  | k + 1 => if pulse rate f k = true then count rate f k + 1 else count rate f k
/-- The sample of pulse number j, among the first k. -/
def place (rate : Int) (f : Nat → Int) : Nat → Nat → Int
  | 0, _ => 0
  | k + 1, j => if pulse rate f k = true ∧ j = count rate f k then (k : Int) else place rate f k j

def voiceB (rate : Int) (n : Nat) (f : Nat → Int) : Bool := inB rate 1 192000 && decide (n ≤ 400000) && allTo (fun i => inB (f i) 0 (500 * rate)) n

theorem phase_bd {rate : Int} {f : Nat → Int} {n : Nat} (hr : 1 ≤ rate) (hf : ∀ i, i < n → 0 ≤ f i ∧ f i ≤ 500 * rate) : ∀ k, k ≤ n → 0 ≤ phase rate f k ∧ phase rate f k < 1000 * rate
  | 0, _ => by simp only [phase]; omega
  | k + 1, h => by
    have h1 := phase_bd hr hf k (by omega)
    have h2 := hf k (by omega)
    simp only [phase]
    split <;> omega
theorem count_le (rate : Int) (f : Nat → Int) : ∀ k, count rate f k ≤ k
  | 0 => Nat.le_refl _
  | k + 1 => by
    have := count_le rate f k
    simp only [count]
    split <;> omega
theorem phase_yes {rate : Int} {f : Nat → Int} {k : Nat} (h : pulse rate f k = true) : phase rate f (k + 1) = phase rate f k + f k - 1000 * rate := by
  simp only [pulse, decide_eq_true_eq] at h; simp [phase, h]
theorem phase_no {rate : Int} {f : Nat → Int} {k : Nat} (h : pulse rate f k = false) : phase rate f (k + 1) = phase rate f k + f k := by
  simp only [pulse, decide_eq_false_iff_not] at h; simp [phase, h]
theorem count_yes {rate : Int} {f : Nat → Int} {k : Nat} (h : pulse rate f k = true) : count rate f (k + 1) = count rate f k + 1 := by simp [count, h]
theorem count_no {rate : Int} {f : Nat → Int} {k : Nat} (h : pulse rate f k = false) : count rate f (k + 1) = count rate f k := by simp [count, h]
theorem place_yes {rate : Int} {f : Nat → Int} {k j : Nat} (h : pulse rate f k = true) : place rate f (k + 1) j = if j = count rate f k then (k : Int) else place rate f k j := by simp [place, h]
theorem place_no {rate : Int} {f : Nat → Int} {k j : Nat} (h : pulse rate f k = false) : place rate f (k + 1) j = place rate f k j := by simp [place, h]

/-- The theorem of pulses: their number is the sum, divided. -/
theorem count_sum {rate : Int} {f : Nat → Int} : ∀ k, sumTo f k = 1000 * rate * (count rate f k : Int) + phase rate f k
  | 0 => by simp [sumTo, count, phase]
  | k + 1 => by
    have h := count_sum (rate := rate) (f := f) k
    show sumTo f k + f k = _
    rcases Bool.eq_false_or_eq_true (pulse rate f k) with g | g
    · rw [count_yes g, phase_yes g, h]; grind
    · rw [count_no g, phase_no g, h]; omega
theorem count_div {rate : Int} {f : Nat → Int} {n k : Nat} (hr : 1 ≤ rate) (hf : ∀ i, i < n → 0 ≤ f i ∧ f i ≤ 500 * rate) (hk : k ≤ n) : sumTo f k / (1000 * rate) = count rate f k := by
  have h := count_sum (rate := rate) (f := f) k
  have hp := phase_bd hr hf k hk
  rw [h, Int.add_comm, Int.add_mul_ediv_left _ _ (by omega), Int.ediv_eq_zero_of_lt hp.1 hp.2]
  omega
/-- Nothing changes if rate and frequencies are multiplied. -/
theorem phase_times {rate by' : Int} {f : Nat → Int} (h : 1 ≤ by') : ∀ k, phase (rate * by') (fun i => by' * f i) k = by' * phase rate f k
  | 0 => by simp [phase]
  | k + 1 => by
    have ih := phase_times (rate := rate) (f := f) h k
    have e1 : 1000 * (rate * by') = by' * (1000 * rate) := by grind
    have e2 : by' * phase rate f k + by' * f k = by' * (phase rate f k + f k) := by grind
    simp only [phase, ih, e1, e2]
    have hb : by' * (1000 * rate) ≤ by' * (phase rate f k + f k) ↔ 1000 * rate ≤ phase rate f k + f k := by
      refine ⟨fun hh => ?_, fun hh => Int.mul_le_mul_of_nonneg_left hh (by omega)⟩
      rcases (show phase rate f k + f k < 1000 * rate ∨ 1000 * rate ≤ phase rate f k + f k by omega) with hlt | hge
      · have := Int.mul_lt_mul_of_pos_left hlt (show 0 < by' by omega); omega
      · exact hge
    by_cases g : 1000 * rate ≤ phase rate f k + f k
    · rw [if_pos (hb.2 g), if_pos g]; grind
    · rw [if_neg (fun hh => g (hb.1 hh)), if_neg g]
theorem pulse_times {rate by' : Int} {f : Nat → Int} (h : 1 ≤ by') (k : Nat) : pulse (rate * by') (fun i => by' * f i) k = pulse rate f k := by
  have ih := phase_times (rate := rate) (f := f) h k
  have e1 : 1000 * (rate * by') = by' * (1000 * rate) := by grind
  have e2 : by' * phase rate f k + by' * f k = by' * (phase rate f k + f k) := by grind
  simp only [pulse, ih, e1, e2]
  refine decide_eq_decide.2 ⟨fun hh => ?_, fun hh => Int.mul_le_mul_of_nonneg_left hh (by omega)⟩
  rcases (show phase rate f k + f k < 1000 * rate ∨ 1000 * rate ≤ phase rate f k + f k by omega) with hlt | hge
  · have := Int.mul_lt_mul_of_pos_left hlt (show 0 < by' by omega); omega
  · exact hge
theorem count_times {rate by' : Int} {f : Nat → Int} (h : 1 ≤ by') : ∀ k, count (rate * by') (fun i => by' * f i) k = count rate f k
  | 0 => rfl
  | k + 1 => by simp only [count, pulse_times h, count_times h k]
theorem place_times {rate by' : Int} {f : Nat → Int} (h : 1 ≤ by') : ∀ k j, place (rate * by') (fun i => by' * f i) k j = place rate f k j
  | 0, _ => rfl
  | k + 1, j => by simp only [place, pulse_times h, count_times h k, place_times h k]
end Go.Proofs.YtijonghofghocaaDoor
