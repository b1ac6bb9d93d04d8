/-
  Plain Lean: notes: what is as defined, vibrato, glide, the cents of all frames. No program in sight.
-/
import Derived.Test.YtijonghofghocaaDoorPlain
namespace Go.Proofs.YtijonghofghocaaDoor

/-- A note. -/
structure Note where
  key : Int
  len : Int
  glide : Int
  delay : Int
  depth : Int
  period : Int

def noteOk (x : Note) : Bool := inB x.key 0 119 && inB x.len 1 1000 && inB x.glide 0 x.len && inB x.delay 0 x.len && inB x.depth 0 200 && inB x.period 4 200
theorem note_cases (x : Note) :
    (inB x.key 0 119 = true ∧ inB x.len 1 1000 = true ∧ inB x.glide 0 x.len = true ∧ inB x.delay 0 x.len = true ∧ inB x.depth 0 200 = true ∧ inB x.period 4 200 = true ∧ noteOk x = true) ∨
    (noteOk x = false ∧ (inB x.key 0 119 = false ∨ (inB x.key 0 119 = true ∧ inB x.len 1 1000 = false) ∨ (inB x.key 0 119 = true ∧ inB x.len 1 1000 = true ∧ inB x.glide 0 x.len = false) ∨
      (inB x.key 0 119 = true ∧ inB x.len 1 1000 = true ∧ inB x.glide 0 x.len = true ∧ inB x.delay 0 x.len = false) ∨
      (inB x.key 0 119 = true ∧ inB x.len 1 1000 = true ∧ inB x.glide 0 x.len = true ∧ inB x.delay 0 x.len = true ∧ inB x.depth 0 200 = false) ∨
      (inB x.key 0 119 = true ∧ inB x.len 1 1000 = true ∧ inB x.glide 0 x.len = true ∧ inB x.delay 0 x.len = true ∧ inB x.depth 0 200 = true ∧ inB x.period 4 200 = false))) := by
  unfold noteOk
  cases inB x.key 0 119 <;> cases inB x.len 1 1000 <;> cases inB x.glide 0 x.len <;> cases inB x.delay 0 x.len <;> cases inB x.depth 0 200 <;> cases inB x.period 4 200 <;> simp
theorem noteOk_iff {x : Note} (h : noteOk x = true) : (0 ≤ x.key ∧ x.key ≤ 119) ∧ (1 ≤ x.len ∧ x.len ≤ 1000) ∧ (0 ≤ x.glide ∧ x.glide ≤ x.len) ∧ (0 ≤ x.delay ∧ x.delay ≤ x.len) ∧ (0 ≤ x.depth ∧ x.depth ≤ 200) ∧ (4 ≤ x.period ∧ x.period ≤ 200) := by
  simp only [noteOk, Bool.and_eq_true, inB_iff] at h
  exact ⟨h.1.1.1.1.1, h.1.1.1.1.2, h.1.1.1.2, h.1.1.2, h.1.2, h.2⟩

/-- Where in its period the vibrato is. -/
def vibAt (x : Note) (i : Int) : Int := (i - x.delay) % x.period
def vibNum (x : Note) (j : Int) : Int :=
  if 4 * j ≤ x.period then 4 * x.depth * j else if 4 * j ≤ 3 * x.period then 2 * x.depth * x.period - 4 * x.depth * j else 4 * x.depth * j - 4 * x.depth * x.period
def vib (x : Note) (i : Int) : Int := if i < x.delay then 0 else rnd (vibNum x (vibAt x i)) x.period
def gld (before : Int) (x : Note) (i : Int) : Int := if i < x.glide then rnd (100 * (before - x.key) * (x.glide - i)) x.glide else 0
/-- The cents of frame i of note k. -/
def frm (l : Nat → Note) (k : Nat) (i : Int) : Int := 100 * (l k).key + vib (l k) i + (if 0 < k then gld (l (k - 1)).key (l k) i else 0)
/-- The cents of the first i frames of note k. -/
def frames (l : Nat → Note) (k i : Nat) : List Int := (List.range i).map (fun j : Nat => frm l k (j : Int))
/-- The cents of the first k notes. -/
def song (l : Nat → Note) : Nat → List Int
  | 0 => []
  | k + 1 => song l k ++ frames l k (l k).len.toNat
theorem frames_succ (l : Nat → Note) (k i : Nat) : frames l k (i + 1) = frames l k i ++ [frm l k (i : Int)] := by simp [frames, List.range_succ]
/-- All frames together. -/
def total (l : Nat → Note) (m : Nat) : Int := sumTo (fun i => (l i).len) m
def notesB (l : Nat → Note) (m : Nat) : Bool := decide (m ≤ 100) && allTo (fun i => noteOk (l i)) m && decide (total l m ≤ 4000)
theorem total_succ (l : Nat → Note) (m : Nat) : total l (m + 1) = total l m + (l m).len := rfl
theorem total_bd {l : Nat → Note} : ∀ {m : Nat}, allTo (fun i => noteOk (l i)) m = true → (m : Int) ≤ total l m ∧ total l m ≤ 1000 * m
  | 0, _ => by simp [total, sumTo]
  | m + 1, h => by
    simp only [allTo, Bool.and_eq_true] at h
    have h1 := total_bd h.1
    have h2 := noteOk_iff h.2
    rw [total_succ]
    omega
theorem song_length {l : Nat → Note} : ∀ {m : Nat}, allTo (fun i => noteOk (l i)) m = true → ((song l m).length : Int) = total l m
  | 0, _ => rfl
  | m + 1, h => by
    simp only [allTo, Bool.and_eq_true] at h
    have h1 := song_length h.1
    have h2 := noteOk_iff h.2
    rw [total_succ]
    simp only [song, List.length_append, frames, List.length_map, List.length_range]
    omega

theorem vibAt_bd {x : Note} (h : noteOk x = true) (i : Int) : 0 ≤ vibAt x i ∧ vibAt x i < x.period := by
  have := noteOk_iff h
  exact ⟨Int.emod_nonneg _ (by omega), Int.emod_lt_of_pos _ (by omega)⟩
theorem vib_parts {x : Note} (h : noteOk x = true) {j : Int} (h1 : 0 ≤ j) (h2 : j < x.period) :
    (0 ≤ 4 * x.depth * j ∧ 4 * x.depth * j ≤ 160000) ∧ (0 ≤ 2 * x.depth * x.period ∧ 2 * x.depth * x.period ≤ 80000) ∧ (0 ≤ 4 * x.depth * x.period ∧ 4 * x.depth * x.period ≤ 160000) := by
  have hn := noteOk_iff h
  have a1 := Int.mul_nonneg (show 0 ≤ 4 * x.depth by omega) h1
  have a2 := Int.mul_le_mul (show 4 * x.depth ≤ 800 by omega) (show j ≤ 200 by omega) h1 (by omega)
  have b1 := Int.mul_nonneg (show 0 ≤ 2 * x.depth by omega) (show 0 ≤ x.period by omega)
  have b2 := Int.mul_le_mul (show 2 * x.depth ≤ 400 by omega) (show x.period ≤ 200 by omega) (by omega) (by omega)
  have c1 := Int.mul_nonneg (show 0 ≤ 4 * x.depth by omega) (show 0 ≤ x.period by omega)
  have c2 := Int.mul_le_mul (show 4 * x.depth ≤ 800 by omega) (show x.period ≤ 200 by omega) (by omega) (by omega)
  omega
/-- The vibrato's numerator is at most depth times period. -/
theorem vibNum_bd {x : Note} (h : noteOk x = true) {j : Int} (h1 : 0 ≤ j) (h2 : j < x.period) : -(x.depth * x.period) ≤ vibNum x j ∧ vibNum x j ≤ x.depth * x.period := by
  have hn := noteOk_iff h
  have e1 : 4 * x.depth * j = x.depth * (4 * j) := by grind
  have e2 : 2 * x.depth * x.period - 4 * x.depth * j = x.depth * (2 * x.period - 4 * j) := by grind
  have e3 : 4 * x.depth * j - 4 * x.depth * x.period = x.depth * (4 * j - 4 * x.period) := by grind
  have en : -(x.depth * x.period) = x.depth * (-x.period) := by grind
  unfold vibNum
  rw [en]
  split
  · rw [e1]
    exact ⟨Int.mul_le_mul_of_nonneg_left (by omega) (by omega), Int.mul_le_mul_of_nonneg_left (by omega) (by omega)⟩
  · split
    · rw [e2]
      exact ⟨Int.mul_le_mul_of_nonneg_left (by omega) (by omega), Int.mul_le_mul_of_nonneg_left (by omega) (by omega)⟩
    · rw [e3]
      exact ⟨Int.mul_le_mul_of_nonneg_left (by omega) (by omega), Int.mul_le_mul_of_nonneg_left (by omega) (by omega)⟩
/-- A rounded quotient of what is at most d times b is at most d. -/
theorem rndP_le {a b d : Int} (hb : 1 ≤ b) (h : a ≤ d * b) : rndP a b ≤ d := by
  unfold rndP
  have : (2 * a + b) / (2 * b) < d + 1 := by
    apply Int.ediv_lt_of_lt_mul (by omega)
    have : (d + 1) * (2 * b) = 2 * (d * b) + 2 * b := by grind
    omega
  omega
theorem rnd_le {a b d : Int} (hb : 1 ≤ b) (h1 : -(d * b) ≤ a) (h2 : a ≤ d * b) : -d ≤ rnd a b ∧ rnd a b ≤ d := by
  unfold rnd
  split
  · have h3 := rndP_le (a := -a) hb (d := d) (by omega)
    have h4 := rndP_bd (-a) b (by omega) hb
    omega
  · have h3 := rndP_le (a := a) hb h2
    have h4 := rndP_bd a b (by omega) hb
    omega
theorem vib_bd {x : Note} (h : noteOk x = true) (i : Int) : -x.depth ≤ vib x i ∧ vib x i ≤ x.depth := by
  have hn := noteOk_iff h
  unfold vib
  split
  · omega
  · obtain ⟨h1, h2⟩ := vibAt_bd h i
    obtain ⟨h3, h4⟩ := vibNum_bd h h1 h2
    exact rnd_le (by omega) h3 h4
theorem gld_num {x y : Note} (hx : noteOk x = true) (hy : noteOk y = true) {i : Int} (h0 : 0 ≤ i) (h1 : i < x.glide) :
    (-11900 ≤ 100 * (y.key - x.key) ∧ 100 * (y.key - x.key) ≤ 11900) ∧ (-11900000 ≤ 100 * (y.key - x.key) * (x.glide - i) ∧ 100 * (y.key - x.key) * (x.glide - i) ≤ 11900000) := by
  have a := noteOk_iff hx
  have b := noteOk_iff hy
  have := mul_bd (a := 100 * (y.key - x.key)) (b := x.glide - i) (A := 11900) (B := 1000) (by omega) (by omega) (by omega) (by omega)
  omega
/-- The glide's part lies between 0 and the step between the keys. -/
theorem gld_bd {x : Note} {k : Int} (hx : noteOk x = true) {i : Int} (h0 : 0 ≤ i) :
    (x.key ≤ k → 0 ≤ gld k x i ∧ gld k x i ≤ 100 * (k - x.key)) ∧ (k ≤ x.key → 100 * (k - x.key) ≤ gld k x i ∧ gld k x i ≤ 0) := by
  have a := noteOk_iff hx
  unfold gld
  split
  · rename_i hlt
    refine ⟨fun h => ?_, fun h => ?_⟩
    · have h1 := Int.mul_nonneg (show 0 ≤ 100 * (k - x.key) by omega) (show 0 ≤ x.glide - i by omega)
      have h2 := Int.mul_le_mul_of_nonneg_left (show x.glide - i ≤ x.glide by omega) (show 0 ≤ 100 * (k - x.key) by omega)
      have h3 := rnd_le (a := 100 * (k - x.key) * (x.glide - i)) (b := x.glide) (d := 100 * (k - x.key)) (by omega) (by omega) h2
      have h4 := rndP_bd (100 * (k - x.key) * (x.glide - i)) x.glide h1 (by omega)
      rw [rnd_pos _ _ h1] at *
      omega
    · have e : 100 * (k - x.key) * (x.glide - i) = -(100 * (x.key - k) * (x.glide - i)) := by grind
      have h1 := Int.mul_nonneg (show 0 ≤ 100 * (x.key - k) by omega) (show 0 ≤ x.glide - i by omega)
      have h2 := Int.mul_le_mul_of_nonneg_left (show x.glide - i ≤ x.glide by omega) (show 0 ≤ 100 * (x.key - k) by omega)
      have h4 := rndP_bd (100 * (x.key - k) * (x.glide - i)) x.glide h1 (by omega)
      have h5 := rndP_le (a := 100 * (x.key - k) * (x.glide - i)) (b := x.glide) (d := 100 * (x.key - k)) (by omega) h2
      by_cases hz : 100 * (x.key - k) * (x.glide - i) = 0
      · rw [e, hz]
        have hz1 : rnd (-0) x.glide = 0 := by
          rw [rnd_pos _ _ (by omega)]
          unfold rndP
          exact Int.ediv_eq_zero_of_lt (by omega) (by omega)
        rw [hz1]; omega
      · rw [e, rnd_neg _ _ (by omega), Int.neg_neg, rnd_pos _ _ h1]
        omega
  · omega
/-- The first frame glides from the key before. -/
theorem gld_first {x : Note} {k : Int} (hg : 0 < x.glide) : gld k x 0 = 100 * (k - x.key) := by
  unfold gld
  rw [if_pos hg]
  have e : 100 * (k - x.key) * (x.glide - 0) = 100 * (k - x.key) * x.glide := by rw [Int.sub_zero]
  rw [e]
  generalize 100 * (k - x.key) = d
  have key : ∀ d : Int, 0 ≤ d → rndP (d * x.glide) x.glide = d := by
    intro d _
    unfold rndP
    have : 2 * (d * x.glide) + x.glide = x.glide + d * (2 * x.glide) := by grind
    rw [this, Int.add_mul_ediv_right _ _ (by omega : 2 * x.glide ≠ 0), Int.ediv_eq_zero_of_lt (by omega) (by omega)]
    omega
  by_cases hd : 0 ≤ d
  · rw [rnd_pos _ _ (Int.mul_nonneg hd (by omega)), key d hd]
  · have h1 : d * x.glide < 0 := Int.mul_neg_of_neg_of_pos (by omega) hg
    rw [rnd_neg _ _ h1, show -(d * x.glide) = (-d) * x.glide by grind, rnd_pos _ _ (Int.mul_nonneg (by omega) (by omega)), key (-d) (by omega)]
    omega
theorem vib_flat {x : Note} (hx : noteOk x = true) {i : Int} (h : x.depth = 0 ∨ i ≤ x.delay) : vib x i = 0 := by
  have hn := noteOk_iff hx
  unfold vib
  split
  · rfl
  · have hz : ∀ b : Int, 1 ≤ b → rnd 0 b = 0 := fun b hb => by
      rw [rnd_pos _ _ (by omega)]
      unfold rndP
      exact Int.ediv_eq_zero_of_lt (by omega) (by omega)
    rcases h with h | h
    · have : vibNum x (vibAt x i) = 0 := by unfold vibNum; rw [h]; split <;> simp
      rw [this]; exact hz _ (by omega)
    · have e : i - x.delay = 0 := by omega
      have : vibNum x (vibAt x i) = 0 := by
        unfold vibNum vibAt
        rw [e, Int.zero_emod, if_pos (by omega)]; simp
      rw [this]; exact hz _ (by omega)
theorem gld_over {x : Note} {k i : Int} (h : x.glide ≤ i) : gld k x i = 0 := by unfold gld; rw [if_neg (by omega)]
end Go.Proofs.YtijonghofghocaaDoor
