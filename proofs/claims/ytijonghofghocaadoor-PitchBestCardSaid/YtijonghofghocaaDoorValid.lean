/-
  The walks of pitch.valid and declaimref05.Command: both say whether a command is as defined. Condition: the shape's slice reads as its knots.
-/
import Derived.Test.YtijonghofghocaaDoorBase
namespace Go.Proofs.YtijonghofghocaaDoor
open Go.RowKit

theorem knotOk_true {kt kv : Nat → Int} {k : Nat} (g1 : inB (kt k) 0 4000 = true) (g2 : inB (kv k) (-1000) 1000 = true) (g3 : k = 0 ∨ kt (k - 1) < kt k) : knotOk kt kv k = true := by
  unfold knotOk
  rcases g3 with g3 | g3
  · subst g3; simp [g1, g2]
  · simp [g1, g2, g3]
theorem knotOk_f1 {kt kv : Nat → Int} {k : Nat} (g1 : inB (kt k) 0 4000 = false) : knotOk kt kv k = false := by simp [knotOk, g1]
theorem knotOk_f2 {kt kv : Nat → Int} {k : Nat} (g1 : inB (kv k) (-1000) 1000 = false) : knotOk kt kv k = false := by simp [knotOk, g1]
theorem knotOk_f3 {kt kv : Nat → Int} {k : Nat} (h0 : 0 < k) (g1 : kt k ≤ kt (k - 1)) : knotOk kt kv k = false := by
  unfold knotOk
  rw [decide_eq_false (show ¬ k = 0 by omega), decide_eq_false (show ¬ kt (k - 1) < kt k by omega)]
  simp
theorem valid_f1 {c : Cmd} (h : inB c.ca (-4000) 4000 = false) : c.valid = false := by simp [Cmd.valid, h]
theorem valid_f2 {c : Cmd} (h : inB c.ch (-100000) 100000 = false) : c.valid = false := by simp [Cmd.valid, h]
theorem valid_f3 {c : Cmd} (h : inB c.n 1 20 = false) : c.valid = false := by simp [Cmd.valid, h]
theorem valid_f4 {c : Cmd} {k : Nat} (hk : k < c.n) (h : knotOk c.kt c.kv k = false) : c.valid = false := by simp [Cmd.valid, allTo_false hk h]
theorem valid_t {c : Cmd} (h1 : inB c.ca (-4000) 4000 = true) (h2 : inB c.ch (-100000) 100000 = true) (h3 : inB c.n 1 20 = true) (h4 : allTo (knotOk c.kt c.kv) c.n = true) : c.valid = true := by
  simp [Cmd.valid, h1, h2, h3, h4]

set_option maxRecDepth 100000 in
set_option maxHeartbeats 1000000 in
theorem valid_any (c : Cmd) (p : Option Addr) (cap : Nat) (w : World) (hn : c.n ≤ 9223372036854775807) (hp : Row w p c.n 2 (knotCell c.kt c.kv)) :
    Calls Tryd.prog 47 #[.agg #[.int .i64 c.ca, .int .i64 c.ch, .slice p c.n cap]] w fun e w' => e = .returned (.bool c.valid) ∧ Below w.heap.size w w' := by
  have hn' : (c.n : Int) ≤ 9223372036854775807 := by omega
  rcases Bool.eq_false_or_eq_true (inB c.ca (-4000) 4000) with h1 | h1
  rcases Bool.eq_false_or_eq_true (inB c.ch (-100000) 100000) with h2 | h2
  rcases Bool.eq_false_or_eq_true (inB c.n 1 20) with h3 | h3
  · go_enter Tryd.func47, Tryd.ntmps47
    go_wp2_with (go_at_call 48; refine (within_any _ _ _ _).mono ?_; rintro e w' ⟨rfl, rfl⟩)
    go_loopw [25] (fun i wr => ∃ k : Nat, k ≤ c.n ∧ i = .int .i64 k ∧ allTo (knotOk c.kt c.kv) k = true ∧ Below w.heap.size w wr ∧ w.heap.size < wr.heap.size ∧
       wr.cell? ⟨w.heap.size, 2, none⟩ = some (.slice p c.n cap)) (fun i _ => c.n - (intOf i).toNat)
    case atStart => exact ⟨0, Nat.zero_le _, rfl, rfl, (Below.refl _ _).alloc (Nat.le_refl _) _, by simp, by simp⟩
    case round =>
      obtain ⟨k, hk, rfl, hall, hb, hsz, hc2⟩ := hrel
      by_cases hlt : k < c.n
      · obtain ⟨b, off, rfl, hbs, hcell⟩ := hp.at (by omega)
        have hc0 : wr.cell? ⟨b, off + k * 2, none⟩ = some (.int .i64 (c.kt k)) := by rw [hb.cell hbs]; exact hcell k hlt 0 (by omega)
        have hc1 : wr.cell? ⟨b, off + k * 2 + 1, none⟩ = some (.int .i64 (c.kv k)) := by rw [hb.cell hbs]; exact hcell k hlt 1 (by omega)
        have hcp : 0 < k → wr.cell? ⟨b, off + (k - 1) * 2, none⟩ = some (.int .i64 (c.kt (k - 1))) := fun _ => by rw [hb.cell hbs]; exact hcell (k - 1) (by omega) 0 (by omega)
        have hbr : b < wr.heap.size := by omega
        have HB := Lib.hid hb
        have HA := Lib.hid hall
        clear hcell hb hall
        rcases Bool.eq_false_or_eq_true (inB (c.kt k) 0 4000) with g1 | g1
        rcases Bool.eq_false_or_eq_true (inB (c.kv k) (-1000) 1000) with g2 | g2
        by_cases g3 : k = 0
        · subst g3
          simp only [Nat.zero_mul, Nat.add_zero] at hc0 hc1
          clear hcp
          go_wp2_with fail
          go_quiet ((go_at_call 48; exact Calls.quiet_of_same (within_q _ _ _ _)))
          go_wp2_with fail
          go_roundw
          case rel => exact ⟨1, by omega, by go_num, allTo_succ HA.out (knotOk_true g1 g2 (.inl rfl)), below_drewN (HB.out.alloc (by omega) _) _, by simp; omega, keepc (newq _ _ _) hc2⟩
          case measure => simp [intOf]; omega
        · have hcp' := hcp (by omega)
          clear hcp
          have hk0 : 0 < k := by omega
          by_cases g4 : c.kt (k - 1) < c.kt k
          · have HK := Lib.hid (knotOk_true g1 g2 (.inr g4))
            have e3 : (k:Int) - 1 < c.n := by omega
            have e0 : IntKind.i64.wrap (↑k - 1) = ↑k - 1 := IntWalk.i64_in _ (by omega)
            have e1 : (0:Int) ≤ ↑k - 1 := by omega
            have e2 : ((k:Int) - 1).toNat = k - 1 := by omega
            go_wp2_with fail
            go_quiet ((go_at_call 48; exact Calls.quiet_of_same (within_q _ _ _ _)))
            clear e0 e2
            go_wp2_with fail
            go_roundw
            case rel => exact ⟨k + 1, by omega, by go_num, allTo_succ HA.out HK.out, below_drewN (HB.out.alloc (by omega) _) _, by simp; omega, keepc (newq _ _ _) hc2⟩
            case measure => simp [intOf]; omega
          · have HK := Lib.hid (valid_f4 hlt (knotOk_f3 (kv := c.kv) hk0 (Int.not_lt.1 g4)))
            have g5 : c.kt k ≤ c.kt (k - 1) := by omega
            have e3 : (k:Int) - 1 < c.n := by omega
            have e0 : IntKind.i64.wrap (↑k - 1) = ↑k - 1 := IntWalk.i64_in _ (by omega)
            have e1 : (0:Int) ≤ ↑k - 1 := by omega
            have e2 : ((k:Int) - 1).toNat = k - 1 := by omega
            go_wp2_with fail
            go_quiet ((go_at_call 48; exact Calls.quiet_of_same (within_q _ _ _ _)))
            clear e0 e2
            go_wp2_with fail
            go_ret
            exact ⟨ret_bool HK.out.symm, below_drewN (HB.out.alloc (by omega) _) _⟩
        · have HK := Lib.hid (valid_f4 hlt (knotOk_f2 (kt := c.kt) g2))
          clear hcp
          go_wp2_with fail
          go_quiet ((go_at_call 48; exact Calls.quiet_of_same (within_q _ _ _ _)))
          go_wp2_with fail
          go_ret
          exact ⟨ret_bool HK.out.symm, below_drewN (HB.out.alloc (by omega) _) _⟩
        · have HK := Lib.hid (valid_f4 hlt (knotOk_f1 (kv := c.kv) g1))
          clear hcp
          go_wp2_with fail
          go_quiet ((go_at_call 48; exact Calls.quiet_of_same (within_q _ _ _ _)))
          go_wp2_with fail
          go_ret
          exact ⟨ret_bool HK.out.symm, below_drewN (HB.out.alloc (by omega) _) _⟩
      · have hkn : k = c.n := by omega
        have HK := Lib.hid (valid_t h1 h2 h3 (hkn ▸ hall))
        have HB := Lib.hid hb
        clear hkn hall hb
        have hlt' : c.n ≤ k := by omega
        go_wp2_with fail
        go_ret
        exact ⟨ret_bool HK.out.symm, HB.out⟩
  · have HK := Lib.hid (valid_f3 h3)
    go_enter Tryd.func47, Tryd.ntmps47
    go_wp2_with (go_at_call 48; refine (within_any _ _ _ _).mono ?_; rintro e w' ⟨rfl, rfl⟩)
    go_ret
    exact ⟨ret_bool HK.out.symm, (Below.refl _ _).alloc (Nat.le_refl _) _⟩
  · have HK := Lib.hid (valid_f2 h2)
    go_enter Tryd.func47, Tryd.ntmps47
    go_wp2_with (go_at_call 48; refine (within_any _ _ _ _).mono ?_; rintro e w' ⟨rfl, rfl⟩)
    go_ret
    exact ⟨ret_bool HK.out.symm, (Below.refl _ _).alloc (Nat.le_refl _) _⟩
  · have HK := Lib.hid (valid_f1 h1)
    go_enter Tryd.func47, Tryd.ntmps47
    go_wp2_with (go_at_call 48; refine (within_any _ _ _ _).mono ?_; rintro e w' ⟨rfl, rfl⟩)
    go_ret
    exact ⟨ret_bool HK.out.symm, (Below.refl _ _).alloc (Nat.le_refl _) _⟩
set_option maxRecDepth 100000 in
set_option maxHeartbeats 1000000 in
theorem command_any (c : Cmd) (p : Option Addr) (cap : Nat) (w : World) (hn : c.n ≤ 9223372036854775807) (hp : Row w p c.n 2 (knotCell c.kt c.kv)) :
    Calls Tryd.prog 18 #[.agg #[.int .i64 c.ca, .int .i64 c.ch, .slice p c.n cap]] w fun e w' => e = .returned (.bool c.valid) ∧ Below w.heap.size w w' := by
  have hn' : (c.n : Int) ≤ 9223372036854775807 := by omega
  rcases Bool.eq_false_or_eq_true (inB c.ca (-4000) 4000) with h1 | h1
  rcases Bool.eq_false_or_eq_true (inB c.ch (-100000) 100000) with h2 | h2
  rcases Bool.eq_false_or_eq_true (inB c.n 1 20) with h3 | h3
  · obtain ⟨h4, h5⟩ := inB_iff.1 h3
    go_enter Tryd.func18, Tryd.ntmps18
    go_wp2_with (go_at_call 50; refine (in_any _ _ _ _).mono ?_; rintro e w' ⟨rfl, rfl⟩)
    go_loopw [3] (fun i wr => ∃ k : Nat, k ≤ c.n ∧ i = .int .i64 k ∧ allTo (knotOk c.kt c.kv) k = true ∧ Below w.heap.size w wr ∧ w.heap.size < wr.heap.size ∧
       wr.cell? ⟨w.heap.size, 2, none⟩ = some (.slice p c.n cap)) (fun i _ => c.n - (intOf i).toNat)
    case atStart => exact ⟨0, Nat.zero_le _, rfl, rfl, (Below.refl _ _).alloc (Nat.le_refl _) _, by simp, by simp⟩
    case round =>
      obtain ⟨k, hk, rfl, hall, hb, hsz, hc2⟩ := hrel
      by_cases hlt : k < c.n
      · obtain ⟨b, off, rfl, hbs, hcell⟩ := hp.at (by omega)
        have hc0 : wr.cell? ⟨b, off + k * 2, none⟩ = some (.int .i64 (c.kt k)) := by rw [hb.cell hbs]; exact hcell k hlt 0 (by omega)
        have hc1 : wr.cell? ⟨b, off + k * 2 + 1, none⟩ = some (.int .i64 (c.kv k)) := by rw [hb.cell hbs]; exact hcell k hlt 1 (by omega)
        have hcp : 0 < k → wr.cell? ⟨b, off + (k - 1) * 2, none⟩ = some (.int .i64 (c.kt (k - 1))) := fun _ => by rw [hb.cell hbs]; exact hcell (k - 1) (by omega) 0 (by omega)
        have hbr : b < wr.heap.size := by omega
        have HB := Lib.hid hb
        have HA := Lib.hid hall
        clear hcell hb hall
        rcases Bool.eq_false_or_eq_true (inB (c.kt k) 0 4000) with g1 | g1
        rcases Bool.eq_false_or_eq_true (inB (c.kv k) (-1000) 1000) with g2 | g2
        by_cases g3 : k = 0
        · subst g3
          simp only [Nat.zero_mul, Nat.add_zero] at hc0 hc1
          clear hcp
          go_wp2_with fail
          go_quiet ((go_at_call 50; exact Calls.quiet_of_same (in_q _ _ _ _)))
          go_wp2_with fail
          go_roundw
          case rel => exact ⟨1, by omega, by go_num, allTo_succ HA.out (knotOk_true g1 g2 (.inl rfl)), below_drewN (HB.out.alloc (by omega) _) _, by simp; omega, keepc (newq _ _ _) hc2⟩
          case measure => simp [intOf]; omega
        · have hcp' := hcp (by omega)
          clear hcp
          have hk0 : 0 < k := by omega
          by_cases g4 : c.kt (k - 1) < c.kt k
          · have HK := Lib.hid (knotOk_true g1 g2 (.inr g4))
            have e3 : (k:Int) - 1 < c.n := by omega
            have e0 : IntKind.i64.wrap (↑k - 1) = ↑k - 1 := IntWalk.i64_in _ (by omega)
            have e1 : (0:Int) ≤ ↑k - 1 := by omega
            have e2 : ((k:Int) - 1).toNat = k - 1 := by omega
            go_wp2_with fail
            go_quiet ((go_at_call 50; exact Calls.quiet_of_same (in_q _ _ _ _)))
            clear e0 e2
            go_wp2_with fail
            go_roundw
            case rel => exact ⟨k + 1, by omega, by go_num, allTo_succ HA.out HK.out, below_drewN (HB.out.alloc (by omega) _) _, by simp; omega, keepc (newq _ _ _) hc2⟩
            case measure => simp [intOf]; omega
          · have HK := Lib.hid (valid_f4 hlt (knotOk_f3 (kv := c.kv) hk0 (Int.not_lt.1 g4)))
            have g5 : c.kt k ≤ c.kt (k - 1) := by omega
            have e3 : (k:Int) - 1 < c.n := by omega
            have e0 : IntKind.i64.wrap (↑k - 1) = ↑k - 1 := IntWalk.i64_in _ (by omega)
            have e1 : (0:Int) ≤ ↑k - 1 := by omega
            have e2 : ((k:Int) - 1).toNat = k - 1 := by omega
            go_wp2_with fail
            go_quiet ((go_at_call 50; exact Calls.quiet_of_same (in_q _ _ _ _)))
            clear e0 e2
            go_wp2_with fail
            go_ret
            exact ⟨ret_bool HK.out.symm, below_drewN (HB.out.alloc (by omega) _) _⟩
        · have HK := Lib.hid (valid_f4 hlt (knotOk_f2 (kt := c.kt) g2))
          clear hcp
          go_wp2_with fail
          go_quiet ((go_at_call 50; exact Calls.quiet_of_same (in_q _ _ _ _)))
          go_wp2_with fail
          go_ret
          exact ⟨ret_bool HK.out.symm, below_drewN (HB.out.alloc (by omega) _) _⟩
        · have HK := Lib.hid (valid_f4 hlt (knotOk_f1 (kv := c.kv) g1))
          clear hcp
          go_wp2_with fail
          go_quiet ((go_at_call 50; exact Calls.quiet_of_same (in_q _ _ _ _)))
          go_wp2_with fail
          go_ret
          exact ⟨ret_bool HK.out.symm, below_drewN (HB.out.alloc (by omega) _) _⟩
      · have hkn : k = c.n := by omega
        have HK := Lib.hid (valid_t h1 h2 h3 (hkn ▸ hall))
        have HB := Lib.hid hb
        clear hkn hall hb
        have hlt' : c.n ≤ k := by omega
        go_wp2_with fail
        go_ret
        exact ⟨ret_bool HK.out.symm, HB.out⟩
  · have HK := Lib.hid (valid_f3 h3)
    rcases inB_false.1 h3 with h4 | h4
    all_goals
      go_enter Tryd.func18, Tryd.ntmps18
      go_wp2_with (go_at_call 50; refine (in_any _ _ _ _).mono ?_; rintro e w' ⟨rfl, rfl⟩)
      go_ret
      exact ⟨ret_bool HK.out.symm, (Below.refl _ _).alloc (Nat.le_refl _) _⟩
  · have HK := Lib.hid (valid_f2 h2)
    go_enter Tryd.func18, Tryd.ntmps18
    go_wp2_with (go_at_call 50; refine (in_any _ _ _ _).mono ?_; rintro e w' ⟨rfl, rfl⟩)
    go_ret
    exact ⟨ret_bool HK.out.symm, (Below.refl _ _).alloc (Nat.le_refl _) _⟩
  · have HK := Lib.hid (valid_f1 h1)
    go_enter Tryd.func18, Tryd.ntmps18
    go_wp2_with (go_at_call 50; refine (in_any _ _ _ _).mono ?_; rintro e w' ⟨rfl, rfl⟩)
    go_ret
    exact ⟨ret_bool HK.out.symm, (Below.refl _ _).alloc (Nat.le_refl _) _⟩
end Go.Proofs.YtijonghofghocaaDoor
