/-
  The walks of pitch.value and pitch.Value: both answer the command's value. Conditions: the shape's slice reads as its knots; of the inner one, the command is as defined and the time at most 1000000.
-/
import Derived.Test.YtijonghofghocaaDoorVal
namespace Go.Proofs.YtijonghofghocaaDoor
open Go.RowKit

set_option maxRecDepth 100000 in
set_option maxHeartbeats 1000000 in
theorem value_any (c : Cmd) (t : Int) (p : Option Addr) (cap : Nat) (w : World) (hv : c.valid = true) (ht : -1000000 ≤ t) (ht' : t ≤ 1000000) (hp : Row w p c.n 2 (knotCell c.kt c.kv)) :
    Calls Tryd.prog 49 #[.agg #[.int .i64 c.ca, .int .i64 c.ch, .slice p c.n cap], .int .i64 t] w fun e w' => e = .returned (.int .i64 (c.val t)) ∧ Below w.heap.size w w' := by
  obtain ⟨a1, a2, a3, a4, a5⟩ := valid_iff hv
  have hn' : (c.n : Int) ≤ 20 := by omega
  have hn1 : (1 : Int) ≤ c.n := by omega
  have hn0 : 0 < c.n := by omega
  obtain ⟨b, off, rfl, hbs, hcell⟩ := hp.at (by omega)
  have z0 : w.cell? ⟨b, off, none⟩ = some (.int .i64 (c.kt 0)) := by have := hcell 0 (by omega) 0 (by omega); simpa [knotCell] using this
  have zl : w.cell? ⟨b, off + (c.n - 1) * 2, none⟩ = some (.int .i64 (c.kt (c.n - 1))) := hcell (c.n - 1) (by omega) 0 (by omega)
  have el0 : IntKind.i64.wrap ((c.n : Int) - 1) = (c.n : Int) - 1 := IntWalk.i64_in _ (by omega)
  have el1 : (0 : Int) ≤ (c.n : Int) - 1 := by omega
  have el2 : ((c.n : Int) - 1).toNat = c.n - 1 := by omega
  have el3 : (c.n : Int) - 1 < c.n := by omega
  have HC := Lib.hid hcell
  have HA4 := Lib.hid a4
  have HA5 := Lib.hid a5
  clear hcell a4 a5
  by_cases g1 : t - c.ca < c.kt 0
  · have HV := Lib.hid (val_before hv g1)
    go_enter Tryd.func49, Tryd.ntmps49
    go_wp2_with fail
    go_quiet (fail)
    go_wp2_with fail
    go_ret
    exact ⟨ret_int HV.out.symm, below_drewN (((Below.refl _ _).alloc (Nat.le_refl _) _).alloc (by simp) _) _⟩
  · by_cases g2 : c.kt (c.n - 1) < t - c.ca
    · have HV := Lib.hid (val_behind hv g2)
      have g1' : c.kt 0 ≤ t - c.ca := by omega
      go_enter Tryd.func49, Tryd.ntmps49
      go_wp2_with fail
      go_quiet (fail)
      go_wp2_with fail
      go_ret
      exact ⟨ret_int HV.out.symm, below_drewN (((Below.refl _ _).alloc (Nat.le_refl _) _).alloc (by simp) _) _⟩
    · have g1' : c.kt 0 ≤ t - c.ca := by omega
      have g2' : t - c.ca ≤ c.kt (c.n - 1) := by omega
      go_enter Tryd.func49, Tryd.ntmps49
      go_wp2_with fail
      go_quiet (fail)
      clear el0 el2
      go_wp2_with fail
      refine calls_gen (fun w1 => Below w.heap.size w w1 ∧ w.heap.size + 1 < w1.heap.size ∧ w1.cell? ⟨w.heap.size, 1, none⟩ = some (.int .i64 c.ch) ∧ w1.cell? ⟨w.heap.size, 2, none⟩ = some (.slice (some ⟨b, off, none⟩) c.n cap) ∧ w1.cell? ⟨w.heap.size + 1, 0, none⟩ = some (.int .i64 (t - c.ca)))
        ⟨below_drewN (((Below.refl _ _).alloc (Nat.le_refl _) _).alloc (by simp) _) _, by simp, by simp, by simp, by simp⟩ ?_
      rintro w1 ⟨hb1, hs1, q1, q2, q3⟩
      refine (search_69 (fun i => decide (t - c.ca ≤ c.kt i)) c.n ⟨w.heap.size, 0, none⟩ ⟨w.heap.size + 1, 0, none⟩ w1 (by omega) (fun i hi w' hw' => ?_)).mono ?_
      · exact value1_any c.kt c.kv c.n (t - c.ca) (some ⟨b, off, none⟩) cap i w.heap.size (w.heap.size + 1) w' (by omega) hi ((hp.mono hb1).mono hw') (keepc hw' q2) (keepc hw' q3)
      · rintro e w2 ⟨i, hi, rfl, f1, f2, hb2⟩
        have q1' := keepc hb2 q1
        have q2' := keepc hb2 q2
        have q3' := keepc hb2 q3
        have hs2 : w.heap.size + 1 < w2.heap.size := Nat.lt_of_lt_of_le hs1 hb2.size
        have hs3 : w.heap.size < w2.heap.size := by omega
        have HB := Lib.hid (hb1.trans (hb2.mono hb1.size))
        clear q1 q2 q3 z0 zl hs1
        have hin : i < c.n := by
          rcases Nat.lt_or_ge i c.n with h | h
          · exact h
          · have := f1 (by omega)
            simp only [decide_eq_false_iff_not] at this
            rw [show i - 1 = c.n - 1 by omega] at this
            omega
        have f2' := f2 hin
        simp only [decide_eq_true_eq] at f2'
        simp only [decide_eq_false_iff_not] at f1
        have hnot : 0 < i → c.kt (i - 1) < t - c.ca := fun h => by have := f1 h; omega
        clear f1 f2 hi hb1 hb2
        have hbr : b < w2.heap.size := by omega
        have b4 := HA4.out i hin
        have hi20 : (i : Int) < c.n := by omega
        have hk0 : w2.cell? ⟨b, off + i * 2, none⟩ = some (.int .i64 (c.kt i)) := by rw [HB.out.cell hbs]; exact HC.out i hin 0 (by omega)
        have hk1 : w2.cell? ⟨b, off + i * 2 + 1, none⟩ = some (.int .i64 (c.kv i)) := by rw [HB.out.cell hbs]; exact HC.out i hin 1 (by omega)
        have hat := at_bd hv hin
        by_cases g3 : c.kt i = t - c.ca
        · have HV := Lib.hid (val_found hv hin hnot (hit_at g3))
          have g4 : (c.kt i == t - c.ca) = true := by simpa using g3
          clear g3 hnot
          go_wp2_with (go_at_call 70; refine (rounded_any _ _ _ (by omega) (by omega) (by omega) (by omega)).mono ?_; rintro e w' ⟨rfl, rfl⟩)
          go_ret
          exact ⟨ret_int HV.out.symm, HB.out.alloc (by omega) _⟩
        · have hi0 : 0 < i := by
            rcases Nat.eq_zero_or_pos i with h | h
            · subst h; omega
            · exact h
          have g5 := hnot hi0
          have g6 : t - c.ca < c.kt i := by omega
          have HV := Lib.hid (val_found hv hin hnot (hit_in g3 ⟨hi0, g5, g6⟩))
          have g4 : (c.kt i == t - c.ca) = false := by simpa using g3
          obtain ⟨i1, i2, i3⟩ := in_bd hv hin hi0 g5 g6
          have hp0 : w2.cell? ⟨b, off + (i - 1) * 2, none⟩ = some (.int .i64 (c.kt (i - 1))) := by rw [HB.out.cell hbs]; exact HC.out (i - 1) (by omega) 0 (by omega)
          have hp1 : w2.cell? ⟨b, off + (i - 1) * 2 + 1, none⟩ = some (.int .i64 (c.kv (i - 1))) := by rw [HB.out.cell hbs]; exact HC.out (i - 1) (by omega) 1 (by omega)
          have b5 := HA4.out (i - 1) (by omega)
          clear g3 hnot
          go_wp2_with (go_at_call 70; refine (rounded_any _ _ _ (by omega) (by omega) (by omega) (by omega)).mono ?_; rintro e w' ⟨rfl, rfl⟩)
          go_ret
          exact ⟨ret_int HV.out.symm, (HB.out.alloc (by omega) _).alloc (by simp; omega) _⟩

/-- A result and an error's number. -/
def two (a b : Int) : Ending := .returned (.tuple #[.int .i64 a, .int .i64 b])
theorem two_eq {a b c d : Int} (h : a = c) (h' : b = d) : Ending.returned (.tuple #[.int .i64 a, .int .i64 b]) = two c d := by rw [h, h']; rfl

def Cmd.Value (c : Cmd) (t : Int) : Ending := if (c.valid && inB t (-4000) 8000) = true then two (c.val t) 0 else two 0 2

set_option maxRecDepth 100000 in
set_option maxHeartbeats 1000000 in
theorem Value_any (c : Cmd) (t : Int) (p : Option Addr) (cap : Nat) (w : World) (hn : c.n ≤ 9223372036854775807) (hp : Row w p c.n 2 (knotCell c.kt c.kv)) :
    Calls Tryd.prog 17 #[.agg #[.int .i64 c.ca, .int .i64 c.ch, .slice p c.n cap], .int .i64 t] w fun e w' => e = c.Value t ∧ Below w.heap.size w w' := by
  rcases Bool.eq_false_or_eq_true c.valid with h1 | h1
  rcases Bool.eq_false_or_eq_true (inB t (-4000) 8000) with h2 | h2
  · have HE := Lib.hid (show c.Value t = two (c.val t) 0 by simp [Cmd.Value, h1, h2])
    obtain ⟨h3, h4⟩ := inB_iff.1 h2
    go_enter Tryd.func17, Tryd.ntmps17
    go_wp2_with fail
    refine (valid_any c p cap _ hn (hp.mono (newb _ _))).mono ?_
    rintro e w1 ⟨rfl, hb1⟩
    rw [h1]
    have k0 := keepc (v := .int .i64 c.ca) (a := ⟨w.heap.size, 0, none⟩) hb1 (by simp)
    have k1 := keepc (v := .int .i64 c.ch) (a := ⟨w.heap.size, 1, none⟩) hb1 (by simp)
    have k2 := keepc (v := .slice p c.n cap) (a := ⟨w.heap.size, 2, none⟩) hb1 (by simp)
    have HB := Lib.hid ((newb w _).trans (hb1.mono (by simp)))
    clear hb1
    go_wp2_with (go_at_call 48; refine (within_any _ _ _ _).mono ?_; rintro e w' ⟨rfl, rfl⟩)
    refine (value_any c t p cap _ h1 (by omega) (by omega) (hp.mono HB.out)).mono ?_
    rintro e w2 ⟨rfl, hb2⟩
    have HB2 := Lib.hid (HB.out.trans (hb2.mono HB.out.size))
    clear hb2 k0 k1 k2
    go_wp2_with fail
    go_ret2
    exact ⟨(two_eq rfl rfl).trans HE.out.symm, HB2.out⟩
  · have HE := Lib.hid (show c.Value t = two 0 2 by simp [Cmd.Value, h2])
    go_enter Tryd.func17, Tryd.ntmps17
    go_wp2_with fail
    refine (valid_any c p cap _ hn (hp.mono (newb _ _))).mono ?_
    rintro e w1 ⟨rfl, hb1⟩
    rw [h1]
    have HB := Lib.hid ((newb w _).trans (hb1.mono (by simp)))
    clear hb1
    go_wp2_with (go_at_call 48; refine (within_any _ _ _ _).mono ?_; rintro e w' ⟨rfl, rfl⟩)
    go_ret2
    exact ⟨(two_eq rfl rfl).trans HE.out.symm, HB.out⟩
  · have HE := Lib.hid (show c.Value t = two 0 2 by simp [Cmd.Value, h1])
    go_enter Tryd.func17, Tryd.ntmps17
    go_wp2_with fail
    refine (valid_any c p cap _ hn (hp.mono (newb _ _))).mono ?_
    rintro e w1 ⟨rfl, hb1⟩
    rw [h1]
    have HB := Lib.hid ((newb w _).trans (hb1.mono (by simp)))
    clear hb1
    go_wp2_with fail
    go_ret2
    exact ⟨(two_eq rfl rfl).trans HE.out.symm, HB.out⟩
end Go.Proofs.YtijonghofghocaaDoor
