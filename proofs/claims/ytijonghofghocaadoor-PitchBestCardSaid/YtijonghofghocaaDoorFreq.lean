/-
  Plain Lean: the frequency of cents: it grows, it doubles with an octave. No program in sight.
-/
import Derived.Test.YtijonghofghocaaDoorPlain
namespace Go.Proofs.YtijonghofghocaaDoor

def semiL : List Int := [1048576, 1110928, 1176987, 1246974, 1321123, 1399681, 1482910, 1571089, 1664511, 1763488, 1868350, 1979448, 2097152]
def semi (i : Nat) : Int := semiL.getD i 0
theorem semi_bd : ∀ i, i < 13 → 1048576 ≤ semi i ∧ semi i ≤ 2097152 := by decide
theorem semi_up : ∀ i, i < 12 → semi i + 62352 ≤ semi (i + 1) := by decide
def pow2 : Nat → Int
  | 0 => 1
  | k + 1 => 2 * pow2 k
theorem pow2_bd : ∀ k, k < 11 → 1 ≤ pow2 k ∧ pow2 k ≤ 1024 := by decide

/-- What is rounded: at semitone s and f hundredths. -/
def mix (s f : Nat) : Int := 27500 * (semi s * (100 - (f : Int)) + semi (s + 1) * (f : Int))
def freqN (k s f : Nat) : Int := rnd (mix s f * pow2 k) 104857600
def freq (c : Nat) : Int := freqN (c / 1200) (c % 1200 / 100) (c % 100)

theorem mix_bd {s f : Nat} (hs : s < 12) (hf : f < 100) : (104857600 ≤ semi s * (100 - (f : Int)) + semi (s + 1) * (f : Int) ∧ semi s * (100 - (f : Int)) + semi (s + 1) * (f : Int) ≤ 209715200) ∧
    (0 ≤ semi s * (100 - (f : Int)) ∧ semi s * (100 - (f : Int)) ≤ 209715200) ∧ (0 ≤ semi (s + 1) * (f : Int) ∧ semi (s + 1) * (f : Int) ≤ 209715200) := by
  have h1 := semi_bd s (by omega)
  have h2 := semi_bd (s + 1) (by omega)
  have a1 := Int.mul_le_mul_of_nonneg_right h1.1 (show 0 ≤ 100 - (f : Int) by omega)
  have a2 := Int.mul_le_mul_of_nonneg_right h1.2 (show 0 ≤ 100 - (f : Int) by omega)
  have b1 := Int.mul_le_mul_of_nonneg_right h2.1 (show 0 ≤ (f : Int) by omega)
  have b2 := Int.mul_le_mul_of_nonneg_right h2.2 (show 0 ≤ (f : Int) by omega)
  omega
theorem mixp_bd {s f k : Nat} (hs : s < 12) (hf : f < 100) (hk : k < 11) : 0 ≤ mix s f * pow2 k ∧ mix s f * pow2 k ≤ 5905580032000000 := by
  have h := (mix_bd hs hf).1
  have hp := pow2_bd k hk
  unfold mix
  have a1 := Int.mul_nonneg (show 0 ≤ 27500 * (semi s * (100 - (f : Int)) + semi (s + 1) * (f : Int)) by omega) (show 0 ≤ pow2 k by omega)
  have a2 := Int.mul_le_mul (show 27500 * (semi s * (100 - (f : Int)) + semi (s + 1) * (f : Int)) ≤ 5767168000000 by omega) hp.2 (by omega) (by omega)
  omega
theorem parts (c : Nat) : c % 1200 / 100 < 12 ∧ c % 100 < 100 ∧ c = 1200 * (c / 1200) + 100 * (c % 1200 / 100) + c % 100 := by omega

/-- A step up, as numbers before the rounding. -/
theorem mix_step {s f : Nat} (hs : s < 12) : mix s f + 1714680000 ≤ mix s (f + 1) := by
  have h := semi_up s hs
  have : mix s (f + 1) = mix s f + 27500 * (semi (s + 1) - semi s) := by unfold mix; grind
  omega
theorem mix_turn {s : Nat} (hs : s + 1 < 12) : mix s 99 + 1714680000 ≤ mix (s + 1) 0 := by
  have h := semi_up s (by omega)
  have : mix (s + 1) 0 = mix s 99 + 27500 * (semi (s + 1) - semi s) := by unfold mix; grind
  omega
theorem mix_over : mix 11 99 + 1714680000 ≤ 2 * mix 0 0 := by decide
theorem rndP_grow {a b : Int} (h : a + 104857600 ≤ b) : rndP a 104857600 < rndP b 104857600 := by
  unfold rndP; omega
theorem rndP_mono {a b : Int} (h : a ≤ b) : rndP a 104857600 ≤ rndP b 104857600 := by
  unfold rndP; omega
theorem mul_step {a b k : Int} (h : a + 1714680000 ≤ b) (hk : 1 ≤ k) : a * k + 104857600 ≤ b * k := by
  have := Int.mul_le_mul_of_nonneg_right h (show 0 ≤ k by omega)
  rw [Int.add_mul] at this
  omega
theorem freq_pos (c : Nat) : freq c = rndP (mix (c % 1200 / 100) (c % 100) * pow2 (c / 1200)) 104857600 := by
  have h := mix_bd (s := c % 1200 / 100) (f := c % 100) (by omega) (by omega)
  have hp : ∀ k, 0 ≤ pow2 k := by
    intro k
    induction k with
    | zero => decide
    | succ k ih => show 0 ≤ 2 * pow2 k; omega
  unfold freq freqN
  rw [rnd_pos _ _ (Int.mul_nonneg (by unfold mix; omega) (hp _))]
theorem pow2_pos : ∀ k, 1 ≤ pow2 k
  | 0 => by decide
  | k + 1 => by have := pow2_pos k; show 1 ≤ 2 * pow2 k; omega
theorem freq_step (c : Nat) : freq c < freq (c + 1) := by
  rw [freq_pos, freq_pos]
  obtain ⟨h1, h2, h3⟩ := parts c
  have hp := pow2_pos (c / 1200)
  by_cases e1 : c % 100 + 1 < 100
  · have e2 : (c + 1) / 1200 = c / 1200 := by omega
    have e3 : (c + 1) % 1200 / 100 = c % 1200 / 100 := by omega
    have e4 : (c + 1) % 100 = c % 100 + 1 := by omega
    rw [e2, e3, e4]
    exact rndP_grow (mul_step (mix_step h1) hp)
  · have e0 : c % 100 = 99 := by omega
    by_cases e5 : c % 1200 / 100 + 1 < 12
    · have e2 : (c + 1) / 1200 = c / 1200 := by omega
      have e3 : (c + 1) % 1200 / 100 = c % 1200 / 100 + 1 := by omega
      have e4 : (c + 1) % 100 = 0 := by omega
      rw [e2, e3, e4, e0]
      exact rndP_grow (mul_step (mix_turn e5) hp)
    · have e6 : c % 1200 / 100 = 11 := by omega
      have e2 : (c + 1) / 1200 = c / 1200 + 1 := by omega
      have e3 : (c + 1) % 1200 / 100 = 0 := by omega
      have e4 : (c + 1) % 100 = 0 := by omega
      rw [e2, e3, e4, e0, e6]
      have e7 : mix 0 0 * pow2 (c / 1200 + 1) = 2 * mix 0 0 * pow2 (c / 1200) := by
        show mix 0 0 * (2 * pow2 (c / 1200)) = _
        grind
      rw [e7]
      exact rndP_grow (mul_step mix_over hp)
theorem freq_lt : ∀ (k c : Nat), freq c < freq (c + k + 1)
  | 0, c => freq_step c
  | k + 1, c => Int.lt_trans (freq_lt k c) (freq_step (c + k + 1))
theorem freq_mono {a b : Nat} (h : a < b) : freq a < freq b := by
  have := freq_lt (b - a - 1) a
  rwa [show a + (b - a - 1) + 1 = b by omega] at this
theorem freq_octave (c : Nat) : -1 ≤ freq (c + 1200) - 2 * freq c ∧ freq (c + 1200) - 2 * freq c ≤ 1 := by
  rw [freq_pos, freq_pos]
  have e2 : (c + 1200) / 1200 = c / 1200 + 1 := by omega
  have e3 : (c + 1200) % 1200 / 100 = c % 1200 / 100 := by omega
  have e4 : (c + 1200) % 100 = c % 100 := by omega
  rw [e2, e3, e4]
  have e7 : mix (c % 1200 / 100) (c % 100) * pow2 (c / 1200 + 1) = 2 * (mix (c % 1200 / 100) (c % 100) * pow2 (c / 1200)) := by
    show _ * (2 * pow2 (c / 1200)) = _
    grind
  rw [e7]
  generalize mix (c % 1200 / 100) (c % 100) * pow2 (c / 1200) = x
  unfold rndP
  omega
theorem freq_zero : freq 0 = 27500 := by decide
theorem freq_bd {c : Nat} (h : c ≤ 12000) : 27500 ≤ freq c ∧ freq c ≤ 100000000000000000 := by
  refine ⟨?_, ?_⟩
  · rcases Nat.eq_zero_or_pos c with e | e
    · subst e; decide
    · have := freq_mono e; rw [freq_zero] at this; omega
  · rw [freq_pos]
    have h1 := mixp_bd (s := c % 1200 / 100) (f := c % 100) (k := c / 1200) (by omega) (by omega) (by omega)
    have := rndP_bd _ 104857600 h1.1 (by omega)
    omega

/-- The greatest number of cents below n whose frequency is not greater than F, or -1. -/
def centsTo (F : Int) : Nat → Int
  | 0 => -1
  | n + 1 => if freq n ≤ F then (n : Int) else centsTo F n
theorem centsTo_place {F : Int} {n i : Nat} (hi : i ≤ n) (h1 : 0 < i → freq (i - 1) ≤ F) (h2 : i < n → F < freq i) : centsTo F n = (i : Int) - 1 := by
  induction n with
  | zero => have : i = 0 := by omega
            subst this; rfl
  | succ n ih =>
    simp only [centsTo]
    by_cases e : i = n + 1
    · subst e
      rw [if_pos (by simpa using h1 (by omega))]; omega
    · have h3 := h2 (by omega)
      rw [if_neg]
      · refine ih (by omega) fun h => ?_
        exact h2 (by omega)
      · by_cases e2 : i = n
        · rw [← e2]; omega
        · have := freq_mono (show i < n by omega); omega
end Go.Proofs.YtijonghofghocaaDoor
