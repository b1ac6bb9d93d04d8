/-
  The walks of the parts of a note (key, vibrato, glide) and of declaimref05.vibrato. Conditions: the notes are as defined, the frame is not negative.
-/
import Derived.Test.YtijonghofghocaaDoorArgs
namespace Go.Proofs.YtijonghofghocaaDoor
open Go.RowKit

def Note.cells (x : Note) : Array Value := #[.int .i64 x.key, .int .i64 x.len, .int .i64 x.glide, .int .i64 x.delay, .int .i64 x.depth, .int .i64 x.period]

set_option maxRecDepth 100000 in
set_option maxHeartbeats 1000000 in
theorem key_any (x : Note) (i : Int) (w : World) (hx : noteOk x = true) :
    Calls Tryd.prog 99 #[.agg #[.int .i64 x.key, .int .i64 x.len, .int .i64 x.glide, .int .i64 x.delay, .int .i64 x.depth, .int .i64 x.period], .int .i64 i] w fun e w' => e = .returned (.int .i64 (100 * x.key)) ∧ Below w.heap.size w w' := by
  obtain ⟨h1, _⟩ := noteOk_iff hx
  go_enter Tryd.func99, Tryd.ntmps99
  go_wp2_with fail
  go_ret
  exact ⟨rfl, newb _ _⟩

set_option maxRecDepth 100000 in
set_option maxHeartbeats 1000000 in
theorem glide_any (x y : Note) (i : Int) (w : World) (hx : noteOk x = true) (hy : noteOk y = true) (h0 : 0 ≤ i) (h1 : i ≤ 1000) :
    Calls Tryd.prog 101 #[.agg #[.int .i64 x.key, .int .i64 x.len, .int .i64 x.glide, .int .i64 x.delay, .int .i64 x.depth, .int .i64 x.period, .int .i64 y.key], .int .i64 i] w fun e w' => e = .returned (.int .i64 (gld y.key x i)) ∧ Below w.heap.size w w' := by
  obtain ⟨k1, k2, k3, k4⟩ := noteOk_iff hx
  obtain ⟨y1, _⟩ := noteOk_iff hy
  by_cases hg : i < x.glide
  · obtain ⟨b1, b2⟩ := gld_num hx hy h0 hg
    have HE := Lib.hid (show gld y.key x i = rnd (100 * (y.key - x.key) * (x.glide - i)) x.glide by simp [gld, hg])
    go_enter Tryd.func101, Tryd.ntmps101
    go_wp2_with (go_at_call 70; refine (rounded_any _ _ _ (by omega) (by omega) (by omega) (by omega)).mono ?_; rintro e w' ⟨rfl, rfl⟩)
    go_ret
    exact ⟨ret_int HE.out.symm, newb _ _⟩
  · have HE := Lib.hid (show gld y.key x i = 0 by simp [gld, hg])
    have hg' : x.glide ≤ i := by omega
    go_enter Tryd.func101, Tryd.ntmps101
    go_wp2_with fail
    go_ret
    exact ⟨ret_int HE.out.symm, newb _ _⟩

set_option maxRecDepth 100000 in
set_option maxHeartbeats 2000000 in
theorem vibrato_any (x : Note) (i : Int) (w : World) (hx : noteOk x = true) (h0 : 0 ≤ i) (h1 : i ≤ 1000) :
    Calls Tryd.prog 100 #[.agg #[.int .i64 x.key, .int .i64 x.len, .int .i64 x.glide, .int .i64 x.delay, .int .i64 x.depth, .int .i64 x.period], .int .i64 i] w fun e w' => e = .returned (.int .i64 (vib x i)) ∧ Below w.heap.size w w' := by
  obtain ⟨k1, k2, k3, k4, k5, k6⟩ := noteOk_iff hx
  by_cases hd : i < x.delay
  · have HE := Lib.hid (show vib x i = 0 by simp [vib, hd])
    go_enter Tryd.func100, Tryd.ntmps100
    go_wp2_with fail
    go_ret
    exact ⟨ret_int HE.out.symm, newb _ _⟩
  · have hd' : x.delay ≤ i := by omega
    have HV := Lib.hid (show vib x i = rnd (vibNum x ((i - x.delay) % x.period)) x.period by unfold vib; rw [if_neg hd]; rfl)
    obtain ⟨j1, j2⟩ := vibAt_bd hx i
    obtain ⟨p1, p2, p3⟩ := vib_parts hx j1 j2
    simp only [vibAt] at j1 j2 p1
    have HN := Lib.hid (show ∀ a, vibNum x ((i - x.delay) % x.period) = a → vib x i = rnd a x.period from fun a h => by rw [HV.out, h])
    by_cases g1 : 4 * ((i - x.delay) % x.period) ≤ x.period
    · have HE := Lib.hid (HN.out (4 * x.depth * ((i - x.delay) % x.period)) (by unfold vibNum; rw [if_pos g1]))
      go_enter Tryd.func100, Tryd.ntmps100
      go_wp2_with (go_at_call 70; refine (rounded_any _ _ _ (by omega) (by omega) (by omega) (by omega)).mono ?_; rintro e w' ⟨rfl, rfl⟩)
      go_ret
      exact ⟨ret_int HE.out.symm, newb _ _⟩
    · have g1' : x.period < 4 * ((i - x.delay) % x.period) := by omega
      by_cases g2 : 4 * ((i - x.delay) % x.period) ≤ 3 * x.period
      · have HE := Lib.hid (HN.out (2 * x.depth * x.period - 4 * x.depth * ((i - x.delay) % x.period)) (by unfold vibNum; rw [if_neg g1, if_pos g2]))
        go_enter Tryd.func100, Tryd.ntmps100
        go_wp2_with (go_at_call 70; refine (rounded_any _ _ _ (by omega) (by omega) (by omega) (by omega)).mono ?_; rintro e w' ⟨rfl, rfl⟩)
        go_ret
        exact ⟨ret_int HE.out.symm, newb _ _⟩
      · have HE := Lib.hid (HN.out (4 * x.depth * ((i - x.delay) % x.period) - 4 * x.depth * x.period) (by unfold vibNum; rw [if_neg g1, if_neg g2]))
        have g2' : 3 * x.period < 4 * ((i - x.delay) % x.period) := by omega
        go_enter Tryd.func100, Tryd.ntmps100
        go_wp2_with (go_at_call 70; refine (rounded_any _ _ _ (by omega) (by omega) (by omega) (by omega)).mono ?_; rintro e w' ⟨rfl, rfl⟩)
        go_ret
        exact ⟨ret_int HE.out.symm, newb _ _⟩

set_option maxRecDepth 100000 in
set_option maxHeartbeats 2000000 in
theorem refvib_any (x : Note) (i : Int) (w : World) (hx : noteOk x = true) (h0 : 0 ≤ i) (h1 : i ≤ 1000) :
    Calls Tryd.prog 65 #[.agg #[.int .i64 x.key, .int .i64 x.len, .int .i64 x.glide, .int .i64 x.delay, .int .i64 x.depth, .int .i64 x.period], .int .i64 i] w fun e w' => e = .returned (.int .i64 (vib x i)) ∧ Below w.heap.size w w' := by
  obtain ⟨k1, k2, k3, k4, k5, k6⟩ := noteOk_iff hx
  by_cases hd : i < x.delay
  · have HE := Lib.hid (show vib x i = 0 by simp [vib, hd])
    go_enter Tryd.func65, Tryd.ntmps65
    go_wp2_with fail
    go_ret
    exact ⟨ret_int HE.out.symm, newb _ _⟩
  · have hd' : x.delay ≤ i := by omega
    have HV := Lib.hid (show vib x i = rnd (vibNum x ((i - x.delay) % x.period)) x.period by unfold vib; rw [if_neg hd]; rfl)
    obtain ⟨j1, j2⟩ := vibAt_bd hx i
    obtain ⟨p1, p2, p3⟩ := vib_parts hx j1 j2
    simp only [vibAt] at j1 j2 p1
    have HN := Lib.hid (show ∀ a, vibNum x ((i - x.delay) % x.period) = a → vib x i = rnd a x.period from fun a h => by rw [HV.out, h])
    by_cases g1 : 4 * ((i - x.delay) % x.period) ≤ x.period
    · have HE := Lib.hid (HN.out (4 * x.depth * ((i - x.delay) % x.period)) (by unfold vibNum; rw [if_pos g1]))
      go_enter Tryd.func65, Tryd.ntmps65
      go_wp2_with (go_at_call 51; refine (divide_any _ _ _ (by omega) (by omega) (by omega) (by omega)).mono ?_; rintro e w' ⟨rfl, rfl⟩)
      go_ret
      exact ⟨ret_int HE.out.symm, newb _ _⟩
    · have g1' : x.period < 4 * ((i - x.delay) % x.period) := by omega
      by_cases g2 : 4 * ((i - x.delay) % x.period) ≤ 3 * x.period
      · have HE := Lib.hid (HN.out (2 * x.depth * x.period - 4 * x.depth * ((i - x.delay) % x.period)) (by unfold vibNum; rw [if_neg g1, if_pos g2]))
        go_enter Tryd.func65, Tryd.ntmps65
        go_wp2_with (go_at_call 51; refine (divide_any _ _ _ (by omega) (by omega) (by omega) (by omega)).mono ?_; rintro e w' ⟨rfl, rfl⟩)
        go_ret
        exact ⟨ret_int HE.out.symm, newb _ _⟩
      · have HE := Lib.hid (HN.out (4 * x.depth * ((i - x.delay) % x.period) - 4 * x.depth * x.period) (by unfold vibNum; rw [if_neg g1, if_neg g2]))
        have g2' : 3 * x.period < 4 * ((i - x.delay) % x.period) := by omega
        go_enter Tryd.func65, Tryd.ntmps65
        go_wp2_with (go_at_call 51; refine (divide_any _ _ _ (by omega) (by omega) (by omega) (by omega)).mono ?_; rintro e w' ⟨rfl, rfl⟩)
        go_ret
        exact ⟨ret_int HE.out.symm, newb _ _⟩
end Go.Proofs.YtijonghofghocaaDoor
