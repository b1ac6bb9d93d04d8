/-
  The walks of pitch.value and its closure, declaimref05.Value and pitch.Value: all answer the command's value. Conditions: the shape's slice reads as its knots; of the inner ones, the command is as defined and the time at most 1000000.
-/
import Derived.Test.YtijonghofghocaaDoorValid
import Derived.Test.YtijonghofghocaaDoorSearch
namespace Go.Proofs.YtijonghofghocaaDoor
open Go.RowKit

set_option maxRecDepth 100000 in
set_option maxHeartbeats 1000000 in
theorem value1_any (kt kv : Nat → Int) (n : Nat) (t : Int) (p : Option Addr) (cap i B2 B3 : Nat) (w : World) (hn : n ≤ 9223372036854775807) (hi : i < n) (hp : Row w p n 2 (knotCell kt kv))
    (h2 : w.cell? ⟨B2, 2, none⟩ = some (.slice p n cap)) (h3 : w.cell? ⟨B3, 0, none⟩ = some (.int .i64 t)) :
    Calls Tryd.prog 69 #[.int .i64 i, .pointer (some ⟨B2, 0, none⟩), .pointer (some ⟨B3, 0, none⟩)] w fun e w' => e = .returned (.bool (decide (t ≤ kt i))) ∧ Below w.heap.size w w' := by
  obtain ⟨b, off, rfl, hbs, hcell⟩ := hp.at (by omega)
  have hc0 : w.cell? ⟨b, off + i * 2, none⟩ = some (.int .i64 (kt i)) := hcell i hi 0 (by omega)
  clear hcell
  have hi' : (i : Int) < n := by omega
  have hn' : (n : Int) ≤ 9223372036854775807 := by omega
  go_enter Tryd.func69, Tryd.ntmps69
  go_wp2_with fail
  go_quiet (fail)
  go_wp2_with fail
  go_ret
  exact ⟨ret_bool (by first | rfl | (simp only [ge_iff_le])), drewN_below _ _⟩

set_option maxRecDepth 100000 in
set_option maxHeartbeats 1000000 in
theorem refvalue_any (c : Cmd) (t : Int) (p : Option Addr) (cap : Nat) (w : World) (hv : c.valid = true) (ht : -1000000 ≤ t) (ht' : t ≤ 1000000) (hp : Row w p c.n 2 (knotCell c.kt c.kv)) :
    Calls Tryd.prog 19 #[.agg #[.int .i64 c.ca, .int .i64 c.ch, .slice p c.n cap], .int .i64 t] w fun e w' => e = .returned (.int .i64 (c.val t)) ∧ Below w.heap.size w w' := by
  obtain ⟨a1, a2, a3, a4, a5⟩ := valid_iff hv
  have hn' : (c.n : Int) ≤ 20 := by omega
  go_enter Tryd.func19, Tryd.ntmps19
  go_wp2_with fail
  go_loopw [6] (fun i wr => ∃ k : Nat, k ≤ c.n ∧ i = .int .i64 k ∧ c.val t = c.from t k (c.n - k) ∧ Below w.heap.size w wr ∧ w.heap.size < wr.heap.size ∧
       wr.cell? ⟨w.heap.size, 1, none⟩ = some (.int .i64 c.ch) ∧ wr.cell? ⟨w.heap.size, 2, none⟩ = some (.slice p c.n cap)) (fun i _ => c.n - (intOf i).toNat)
  case atStart => exact ⟨0, Nat.zero_le _, rfl, rfl, (Below.refl _ _).alloc (Nat.le_refl _) _, by simp, by simp, by simp⟩
  case round =>
    obtain ⟨k, hk, rfl, hval, hb, hsz, hc1, hc2⟩ := hrel
    have HB := Lib.hid hb
    by_cases hlt : k < c.n
    · obtain ⟨b, off, rfl, hbs, hcell⟩ := hp.at (by omega)
      have hk0 : wr.cell? ⟨b, off + k * 2, none⟩ = some (.int .i64 (c.kt k)) := by rw [hb.cell hbs]; exact hcell k hlt 0 (by omega)
      have hk1 : wr.cell? ⟨b, off + k * 2 + 1, none⟩ = some (.int .i64 (c.kv k)) := by rw [hb.cell hbs]; exact hcell k hlt 1 (by omega)
      have hbr : b < wr.heap.size := by omega
      have b4 := a4 k hlt
      have hpre : 0 < k → wr.cell? ⟨b, off + (k - 1) * 2, none⟩ = some (.int .i64 (c.kt (k - 1))) ∧ wr.cell? ⟨b, off + (k - 1) * 2 + 1, none⟩ = some (.int .i64 (c.kv (k - 1))) := fun _ => by
        rw [hb.cell hbs, hb.cell hbs]; exact ⟨hcell (k - 1) (by omega) 0 (by omega), hcell (k - 1) (by omega) 1 (by omega)⟩
      have HV := Lib.hid hval
      have HA := Lib.hid a5
      have HA4 := Lib.hid a4
      clear hcell hb hval a5 a4
      have hat := at_bd hv hlt
      by_cases g1 : c.kt k = t - c.ca
      · have HH := Lib.hid (hit_at g1)
        have HG := Lib.hid g1
        have g2 : (c.kt k == t - c.ca) = true := by simpa using g1
        clear g1 hpre
        by_cases g0 : k = 0
        · subst g0
          simp only [Nat.zero_mul, Nat.add_zero] at hk0 hk1
          go_wp2_with (go_at_call 51; refine (divide_any _ _ _ (by omega) (by omega) (by omega) (by omega)).mono ?_; rintro e w' ⟨rfl, rfl⟩)
          go_ret
          exact ⟨ret_int (by rw [HV.out, show c.n - 0 = c.n - 0 - 1 + 1 by omega]; simp only [Cmd.from, HH.out]), HB.out.alloc (by omega) _⟩
        · go_wp2_with (go_at_call 51; refine (divide_any _ _ _ (by omega) (by omega) (by omega) (by omega)).mono ?_; rintro e w' ⟨rfl, rfl⟩)
          go_ret
          exact ⟨ret_int (by rw [HV.out, show c.n - k = c.n - k - 1 + 1 by omega]; simp only [Cmd.from, HH.out]), HB.out.alloc (by omega) _⟩
      · have g2 : (c.kt k == t - c.ca) = false := by simpa using g1
        by_cases g0 : k = 0
        · have HH := Lib.hid (hit_none (i := k) g1 (by omega))
          have HG := Lib.hid g1
          clear g1 hpre
          subst g0
          simp only [Nat.zero_mul, Nat.add_zero] at hk0 hk1
          go_wp2_with fail
          go_roundw
          case rel => exact ⟨1, by omega, by go_num, by rw [HV.out, show c.n - 0 = c.n - 1 + 1 by omega]; simp only [Cmd.from, HH.out], HB.out.alloc (by omega) _, by simp; omega, keepc (newb _ _) hc1, keepc (newb _ _) hc2⟩
          case measure => simp [intOf]; omega
        · obtain ⟨hp0, hp1⟩ := hpre (by omega)
          have hk0' : 0 < k := by omega
          have b5 := HA4.out (k - 1) (by omega)
          by_cases g3 : c.kt (k - 1) < t - c.ca
          · by_cases g4 : t - c.ca < c.kt k
            · have HH := Lib.hid (hit_in g1 ⟨hk0', g3, g4⟩)
              obtain ⟨i1, i2, i3⟩ := in_bd hv hlt hk0' g3 g4
              have HG := Lib.hid g1
              clear g1 hpre
              go_wp2_with (go_at_call 51; refine (divide_any _ _ _ (by omega) (by omega) (by omega) (by omega)).mono ?_; rintro e w' ⟨rfl, rfl⟩)
              go_ret
              exact ⟨ret_int (by rw [HV.out, show c.n - k = c.n - k - 1 + 1 by omega]; simp only [Cmd.from, HH.out]), (HB.out.alloc (by omega) _).alloc (by simp; omega) _⟩
            · have HH := Lib.hid (hit_none g1 (fun h => g4 h.2.2))
              have g5 : c.kt k ≤ t - c.ca := by omega
              have HG := Lib.hid g1
              clear g1 hpre
              go_wp2_with fail
              go_roundw
              case rel => exact ⟨k + 1, by omega, by go_num, by rw [HV.out, show c.n - k = c.n - (k + 1) + 1 by omega]; simp only [Cmd.from, HH.out], HB.out.alloc (by omega) _, by simp; omega, keepc (newb _ _) hc1, keepc (newb _ _) hc2⟩
              case measure => simp [intOf]; omega
          · have HH := Lib.hid (hit_none g1 (fun h => g3 h.2.1))
            have g5 : t - c.ca ≤ c.kt (k - 1) := by omega
            have HG := Lib.hid g1
            clear g1 hpre
            go_wp2_with fail
            go_roundw
            case rel => exact ⟨k + 1, by omega, by go_num, by rw [HV.out, show c.n - k = c.n - (k + 1) + 1 by omega]; simp only [Cmd.from, HH.out], HB.out.alloc (by omega) _, by simp; omega, keepc (newb _ _) hc1, keepc (newb _ _) hc2⟩
            case measure => simp [intOf]; omega
    · have hkn : k = c.n := by omega
      have HV := Lib.hid (show c.val t = 0 by rw [hval, hkn, Nat.sub_self]; rfl)
      clear hkn hval hb
      have hle : c.n ≤ k := by omega
      go_wp2_with fail
      go_ret
      exact ⟨ret_int HV.out.symm, HB.out⟩
end Go.Proofs.YtijonghofghocaaDoor
