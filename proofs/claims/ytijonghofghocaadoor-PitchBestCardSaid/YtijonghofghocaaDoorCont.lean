/-
  Plain Lean: problems and contours as functions that answer yes or no, and how big costs become. No program in sight.
-/
import Derived.Test.YtijonghofghocaaDoorContains
import Derived.Test.YtijonghofghocaaDoorDp
namespace Go.Proofs.YtijonghofghocaaDoor

def probB (p : Prob) : Bool :=
  inB p.frames 1 200 && inB p.low (-100000) 100000 && inB p.high (-100000) 100000 && !decide (p.high < p.low) && !decide (p.low + 400 < p.high) && inB p.slope 0 400 && inB p.smooth 0 1000 && decide (p.m ≤ 200) &&
    allTo (fun i => tgtOk p.frames (p.tg i)) p.m

structure PB (p : Prob) : Prop where
  f1 : 1 ≤ p.frames
  f2 : p.frames ≤ 200
  l1 : -100000 ≤ p.low
  h1 : p.high ≤ 100000
  lh : p.low ≤ p.high
  rg : p.high ≤ p.low + 400
  s1 : 0 ≤ p.slope
  s2 : p.slope ≤ 400
  k1 : 0 ≤ p.smooth
  k2 : p.smooth ≤ 1000
  m1 : p.m ≤ 200
  tg : ∀ i, i < p.m → 0 ≤ (p.tg i).time ∧ (p.tg i).time ≤ p.frames - 1 ∧ -200000 ≤ (p.tg i).value ∧ (p.tg i).value ≤ 200000 ∧ 0 ≤ (p.tg i).weight ∧ (p.tg i).weight ≤ 1000

theorem tgtOk_iff {fr : Int} {x : Tgt} : tgtOk fr x = true ↔ 0 ≤ x.time ∧ x.time ≤ fr - 1 ∧ -200000 ≤ x.value ∧ x.value ≤ 200000 ∧ 0 ≤ x.weight ∧ x.weight ≤ 1000 := by
  simp only [tgtOk, Bool.and_eq_true, inB_iff]; omega
theorem probB_iff {p : Prob} : probB p = true ↔ PB p := by
  simp only [probB, Bool.and_eq_true, inB_iff, Bool.not_eq_true', decide_eq_false_iff_not, decide_eq_true_eq, allTo_iff, tgtOk_iff]
  constructor
  · intro h
    exact ⟨by omega, by omega, by omega, by omega, by omega, by omega, by omega, by omega, by omega, by omega, by omega, h.2⟩
  · intro h
    obtain ⟨a1, a2, a3, a4, a5, a6, a7, a8, a9, a10, a11, a12⟩ := h
    exact ⟨by omega, a12⟩
theorem PB.good {p : Prob} (h : PB p) : good p := ⟨h.k1, fun i hi => (h.tg i hi).2.2.2.2.1⟩

def contB (p : Prob) (n : Nat) (v : Nat → Int) : Bool :=
  decide ((n : Int) = p.frames) && allTo (fun i => inB (v i) p.low p.high && (decide (i = 0) || inB (v i - v (i - 1)) (-p.slope) p.slope)) n
theorem contB_iff {p : Prob} {n : Nat} {v : Nat → Int} : contB p n v = true ↔ (n : Int) = p.frames ∧ okN p n v := by
  simp only [contB, Bool.and_eq_true, decide_eq_true_eq, allTo_iff, Bool.or_eq_true, inB_iff, okN]
  constructor
  · rintro ⟨h1, h2⟩
    refine ⟨h1, fun t ht => (h2 t ht).1, fun t h0 ht => ?_⟩
    have := (h2 t ht).2
    omega
  · rintro ⟨h1, h2, h3⟩
    refine ⟨h1, fun i hi => ⟨h2 i hi, ?_⟩⟩
    by_cases e : i = 0
    · exact .inl e
    · exact .inr (h3 i (by omega) hi)

theorem sq_nonneg (x : Int) : 0 ≤ sq x := by
  unfold sq
  rcases Int.le_total 0 x with h | h
  · exact Int.mul_nonneg h h
  · have := Int.mul_nonneg (show 0 ≤ -x by omega) (show 0 ≤ -x by omega)
    rwa [Int.neg_mul_neg] at this
theorem sq_le {x B : Int} (h1 : -B ≤ x) (h2 : x ≤ B) : sq x ≤ B * B := by
  have h : 0 ≤ (B - x) * (B + x) := Int.mul_nonneg (by omega) (by omega)
  have e : (B - x) * (B + x) = B * B - sq x := by unfold sq; grind
  omega
theorem wsq_bd {w x W B : Int} (h0 : 0 ≤ w) (hW : w ≤ W) (h1 : -B ≤ x) (h2 : x ≤ B) : 0 ≤ w * sq x ∧ w * sq x ≤ W * (B * B) := by
  have h3 := sq_nonneg x
  have h4 := sq_le h1 h2
  exact ⟨Int.mul_nonneg h0 h3, Int.mul_le_mul hW h4 h3 (by omega)⟩
theorem sumTo_bd {f : Nat → Int} {M : Int} : ∀ {n : Nat}, (∀ i, i < n → 0 ≤ f i ∧ f i ≤ M) → 0 ≤ sumTo f n ∧ sumTo f n ≤ n * M
  | 0, _ => by simp [sumTo]
  | n + 1, h => by
    have ih := sumTo_bd (n := n) (M := M) (fun i hi => h i (by omega))
    have h1 := h n (by omega)
    have e : ((n + 1 : Nat) : Int) * M = n * M + M := by rw [show ((n + 1 : Nat) : Int) = n + 1 by omega, Int.add_mul, Int.one_mul]
    simp only [sumTo]
    omega
theorem mul_up {n m M : Int} (h : n ≤ m) (hM : 0 ≤ M) : n * M ≤ m * M := Int.mul_le_mul_of_nonneg_right h hM

theorem tcost_bd {p : Prob} (h : PB p) {t : Nat} {v : Int} (h1 : -100001 ≤ v) (h2 : v ≤ 100001) {i : Nat} (hi : i < p.m) : 0 ≤ tcost p t v i ∧ tcost p t v i ≤ 90000600001000 := by
  have ht := h.tg i hi
  have := wsq_bd (w := (p.tg i).weight) (x := v - (p.tg i).value) (W := 1000) (B := 300001) (by omega) (by omega) (by omega) (by omega)
  unfold tcost
  split <;> omega
theorem nodeN_bd {p : Prob} (h : PB p) {t : Nat} {v : Int} (h1 : -100001 ≤ v) (h2 : v ≤ 100001) {j : Nat} (hj : j ≤ p.m) : 0 ≤ sumTo (tcost p t v) j ∧ sumTo (tcost p t v) j ≤ 18000120000200000 := by
  have := sumTo_bd (f := tcost p t v) (n := j) (fun i hi => tcost_bd h h1 h2 (t := t) (i := i) (by omega))
  have h3 := h.m1
  have h4 := mul_up (n := (j : Int)) (m := 200) (M := 90000600001000) (by omega) (by omega)
  omega
theorem node_bd {p : Prob} (h : PB p) {t : Nat} {v : Int} (h1 : -100001 ≤ v) (h2 : v ≤ 100001) : 0 ≤ node p t v ∧ node p t v ≤ 18000120000200000 := nodeN_bd h h1 h2 (Nat.le_refl _)
theorem term_bd {p : Prob} (h : PB p) {n t : Nat} {v : Nat → Int} (hv : okN p n v) (ht : t < n) : 0 ≤ term p v t ∧ term p v t ≤ 18000120160200000 := by
  have a1 := hv.1 t ht
  have b1 := h.l1
  have b2 := h.h1
  have b3 := h.rg
  have h3 := node_bd h (t := t) (v := v t) (by omega) (by omega)
  unfold term
  by_cases e : 0 < t
  · have a2 := hv.1 (t - 1) (by omega)
    have := wsq_bd (w := p.smooth) (x := v t - v (t - 1)) (W := 1000) (B := 400) h.k1 h.k2 (by omega) (by omega)
    rw [if_pos e]; omega
  · rw [if_neg e]; omega
theorem costN_bd {p : Prob} (h : PB p) {n j : Nat} {v : Nat → Int} (hv : okN p n v) (hn : n ≤ 200) (hj : j ≤ n) : 0 ≤ costN p j v ∧ costN p j v ≤ 3600024032040000000 := by
  have := sumTo_bd (f := term p v) (n := j) (fun i hi => term_bd h hv (show i < n by omega))
  have h4 := mul_up (n := (j : Int)) (m := 200) (M := 18000120160200000) (by omega) (by omega)
  unfold costN
  omega
theorem costN_succ (p : Prob) (v : Nat → Int) (n : Nat) : costN p (n + 1) v = costN p n v + term p v n := rfl
theorem nodeN_succ (p : Prob) (t : Nat) (v : Int) (n : Nat) : sumTo (tcost p t v) (n + 1) = sumTo (tcost p t v) n + tcost p t v n := rfl

/-- What a way on costs is not negative and stays small. -/
theorem rst_bd {p : Prob} (h : PB p) : ∀ (r t : Nat) (x : Int), p.low ≤ x → x ≤ p.high → 0 ≤ rst p r t x ∧ rst p r t x ≤ (r + 1 : Nat) * 18000120000200000
  | 0, t, x, h1, h2 => by
    have b1 := h.l1
    have b2 := h.h1
    have := node_bd h (t := t) (v := x) (by omega) (by omega)
    simp only [rst]; omega
  | r + 1, t, x, h1, h2 => by
    have b1 := h.l1
    have b2 := h.h1
    have h3 := node_bd h (t := t) (v := x) (by omega) (by omega)
    have h4 := next_least (p := p) (c := rst p r (t + 1)) (v := x) (u := x) h1 h2 (by have := h.s1; omega) (by have := h.s1; omega)
    have h5 := rst_bd h r (t + 1) x h1 h2
    have h6 : step p (rst p r (t + 1)) x x = rst p r (t + 1) x := by simp [step, sq]
    have h7 := next_range (p := p) (c := rst p r (t + 1)) (v := x) h1 h2 h.s1
    have h8 : (next p (rst p r (t + 1)) x).2 = step p (rst p r (t + 1)) x (next p (rst p r (t + 1)) x).1 := fm_val _ _ _
    have h9 := rst_bd h r (t + 1) _ h7.1 h7.2.1
    have h10 := (wsq_bd (w := p.smooth) (x := (next p (rst p r (t + 1)) x).1 - x) (W := 1000) (B := 400) h.k1 h.k2 (by have := h.s2; omega) (by have := h.s2; omega)).1
    simp only [rst]
    unfold step at h8
    have e : ((r + 1 + 1 : Nat) : Int) * 18000120000200000 = ((r + 1 : Nat) : Int) * 18000120000200000 + 18000120000200000 := by omega
    omega
theorem rst_bd' {p : Prob} (h : PB p) {r t : Nat} {x : Int} (hr : r < 200) (h1 : p.low ≤ x) (h2 : x ≤ p.high) : 0 ≤ rst p r t x ∧ rst p r t x ≤ 3600024000040000000 := by
  have := rst_bd h r t x h1 h2
  omega
theorem step_bd {p : Prob} (h : PB p) {r t : Nat} {v u : Int} (hr : r < 200) (h1 : p.low ≤ u) (h2 : u ≤ p.high) (h3 : p.low ≤ v) (h4 : v ≤ p.high) : 0 ≤ step p (rst p r t) v u ∧ step p (rst p r t) v u ≤ 3600024000200000000 := by
  have h5 := rst_bd' h hr h1 h2 (t := t)
  have h6 := h.rg
  have := wsq_bd (w := p.smooth) (x := u - v) (W := 1000) (B := 400) h.k1 h.k2 (by omega) (by omega)
  unfold step
  omega
end Go.Proofs.YtijonghofghocaaDoor
