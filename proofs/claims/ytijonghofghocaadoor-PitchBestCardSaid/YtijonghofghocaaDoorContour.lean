/-
  The walks of declaimref05.Contour and of pitch.contour. Conditions: the problem is as defined, the slice reads as its elements.
-/
import Derived.Test.YtijonghofghocaaDoorRefCont
namespace Go.Proofs.YtijonghofghocaaDoor
open Go.RowKit

def contF (p : Prob) (v : Nat → Int) (i : Nat) : Bool := inB (v i) p.low p.high && (decide (i = 0) || inB (v i - v (i - 1)) (-p.slope) p.slope)
theorem contB_def (p : Prob) (n : Nat) (v : Nat → Int) : contB p n v = (decide ((n : Int) = p.frames) && allTo (contF p v) n) := rfl
theorem contF_in {p : Prob} {v : Nat → Int} {n i : Nat} (h : allTo (contF p v) n = true) (hi : i < n) : p.low ≤ v i ∧ v i ≤ p.high := by
  have := allTo_iff.1 h i hi
  simp only [contF, Bool.and_eq_true, inB_iff] at this
  exact this.1

set_option maxRecDepth 100000 in
set_option maxHeartbeats 4000000 in
theorem refcontour_any (p : Prob) (n : Nat) (v : Nat → Int) (a q : Option Addr) (c cq : Nat) (w : World) (hp : PB p) (hq : Ints w q n v) (hn : n ≤ 9223372036854775807) :
    Calls Tryd.prog 29 #[.agg #[.int .i64 p.frames, .int .i64 p.low, .int .i64 p.high, .int .i64 p.slope, .int .i64 p.smooth, .slice a p.m c], .slice q n cq] w fun e w' => e = .returned (.bool (contB p n v)) ∧ Below w.heap.size w w' := by
  have hn' : (n : Int) ≤ 9223372036854775807 := by omega
  have b1 := hp.l1
  have b2 := hp.h1
  have b3 := hp.s1
  have b4 := hp.s2
  clear hp
  by_cases hnf : (n : Int) = p.frames
  · have hnf1 : ((n : Int) == p.frames) = true := by simpa using hnf
    have hnf2 : ((n : Int) != p.frames) = false := by simp [bne, hnf1]
    have HF := Lib.hid hnf
    clear hnf
    go_enter Tryd.func29, Tryd.ntmps29
    go_wp2_with fail
    refine wp_gen (fun w2 => ProbBlk w2 w.heap.size p a c ∧ Below w.heap.size w w2) ⟨heap_alloc_new _ _, newb _ _⟩ ?_
    obtain ⟨N, hN⟩ : ∃ N, N = w.heap.size := ⟨_, rfl⟩
    rw [← hN]
    rintro w2 ⟨hN2, hb2⟩
    have HN2 := Lib.hid hN2
    have HB2 := Lib.hid (show Below w.heap.size w w2 by rw [← hN]; exact hb2)
    clear hN2 hb2 hN hnf1 hnf2
    go_loopw [5] (fun i wr => ∃ k : Nat, k ≤ n ∧ i = .int .i64 k ∧ allTo (contF p v) k = true ∧ ProbBlk wr N p a c ∧ Below w.heap.size w wr) (fun i _ => n - (intOf i).toNat)
    case atStart => exact ⟨0, Nat.zero_le _, rfl, rfl, HN2.out, HB2.out⟩
    case round =>
      obtain ⟨k, hk, rfl, hall, hn, hb⟩ := hrel
      have HA := Lib.hid hall
      have HB := Lib.hid hb
      have HN := Lib.hid hn
      obtain ⟨a0, a1, a2, a3, a4, a5⟩ := hn.cells
      clear hb hn hall a0 a4 a5
      by_cases hlt : k < n
      · obtain ⟨b, off, rfl, hbs, hcell⟩ := hq.at (by omega)
        have k0 : wr.cell? ⟨b, off + k, none⟩ = some (.int .i64 (v k)) := by rw [HB.out.cell hbs]; exact hcell k hlt
        rcases Bool.eq_false_or_eq_true (inB (v k) p.low p.high) with g1 | g1
        · rcases Nat.eq_zero_or_pos k with h0 | h0
          · subst h0
            have HE := Lib.hid (show contF p v 0 = true by simp [contF, g1])
            simp only [Nat.add_zero] at k0
            clear hcell
            go_wp2_with fail
            go_quiet ((go_at_call 50; exact Calls.quiet_of_same (in_q _ _ _ _)))
            go_wp2_with fail
            go_roundw
            case rel => exact ⟨1, by omega, by go_num, allTo_succ HA.out HE.out, HN.out.later (below_drewN (Below.refl _ _) _), below_drewN HB.out _⟩
            case measure => simp [intOf]; omega
          · have k1 : wr.cell? ⟨b, off + (k - 1), none⟩ = some (.int .i64 (v (k - 1))) := by rw [HB.out.cell hbs]; exact hcell (k - 1) (by omega)
            clear hcell
            have e0 : IntKind.i64.wrap ((k : Int) - 1) = (k : Int) - 1 := IntWalk.i64_in _ (by omega)
            have e1 : (0 : Int) ≤ (k : Int) - 1 := by omega
            have e2 : ((k : Int) - 1).toNat = k - 1 := by omega
            have e3 : (k : Int) - 1 < n := by omega
            have e4 : (0 : Int) < (k : Int) := by omega
            have g1' := inB_iff.1 g1
            have hpre := contF_in HA.out (show k - 1 < k by omega)
            rcases Bool.eq_false_or_eq_true (inB (v k - v (k - 1)) (-p.slope) p.slope) with g2 | g2
            · have HE := Lib.hid (show contF p v k = true by simp [contF, g1, g2])
              go_wp2_with fail
              go_quiet ((go_at_call 50; exact Calls.quiet_of_same (in_q _ _ _ _)))
              go_wp2_with fail
              go_roundw
              case rel => exact ⟨k + 1, by omega, by go_num, allTo_succ HA.out HE.out, HN.out.later (below_drewN (Below.refl _ _) _), below_drewN HB.out _⟩
              case measure => simp [intOf]; omega
            · have HE := Lib.hid (show contF p v k = false by simp [contF, g1, g2]; omega)
              go_wp2_with fail
              go_quiet ((go_at_call 50; exact Calls.quiet_of_same (in_q _ _ _ _)))
              go_wp2_with fail
              go_ret
              exact ⟨ret_bool (by rw [contB_def]; rw [allTo_false hlt HE.out]; simp), below_drewN HB.out _⟩
        · have HE := Lib.hid (show contF p v k = false by simp [contF, g1])
          clear hcell
          go_wp2_with fail
          go_quiet ((go_at_call 50; exact Calls.quiet_of_same (in_q _ _ _ _)))
          go_wp2_with fail
          go_ret
          exact ⟨ret_bool (by rw [contB_def]; rw [allTo_false hlt HE.out]; simp), below_drewN HB.out _⟩
      · have hle : n ≤ k := by omega
        have HJ := Lib.hid (show k = n by omega)
        go_wp2_with fail
        go_ret
        exact ⟨ret_bool (by rw [contB_def, ← HJ.out, HA.out, HJ.out]; simp [HF.out]), HB.out⟩
  · have hnf1 : ((n : Int) == p.frames) = false := by simpa using hnf
    have hnf2 : ((n : Int) != p.frames) = true := by simp [bne, hnf1]
    have HE := Lib.hid (show contB p n v = false by simp [contB, hnf])
    clear hnf
    go_enter Tryd.func29, Tryd.ntmps29
    go_wp2_with fail
    go_ret
    exact ⟨ret_bool HE.out.symm, newb _ _⟩

set_option maxRecDepth 100000 in
set_option maxHeartbeats 4000000 in
theorem contour_any (p : Prob) (n : Nat) (v : Nat → Int) (a q : Option Addr) (c cq : Nat) (w : World) (hp : PB p) (hq : Ints w q n v) (hn : n ≤ 9223372036854775807) :
    Calls Tryd.prog 55 #[.agg #[.int .i64 p.frames, .int .i64 p.low, .int .i64 p.high, .int .i64 p.slope, .int .i64 p.smooth, .slice a p.m c], .slice q n cq] w fun e w' => e = .returned (.bool (contB p n v)) ∧ Below w.heap.size w w' := by
  have hn' : (n : Int) ≤ 9223372036854775807 := by omega
  have b1 := hp.l1
  have b2 := hp.h1
  have b3 := hp.s1
  have b4 := hp.s2
  clear hp
  by_cases hnf : (n : Int) = p.frames
  · have hnf1 : ((n : Int) == p.frames) = true := by simpa using hnf
    have hnf2 : ((n : Int) != p.frames) = false := by simp [bne, hnf1]
    have HF := Lib.hid hnf
    clear hnf
    go_enter Tryd.func55, Tryd.ntmps55
    go_wp2_with fail
    refine wp_gen (fun w2 => ProbBlk w2 w.heap.size p a c ∧ Below w.heap.size w w2) ⟨heap_alloc_new _ _, newb _ _⟩ ?_
    obtain ⟨N, hN⟩ : ∃ N, N = w.heap.size := ⟨_, rfl⟩
    rw [← hN]
    rintro w2 ⟨hN2, hb2⟩
    have HN2 := Lib.hid hN2
    have HB2 := Lib.hid (show Below w.heap.size w w2 by rw [← hN]; exact hb2)
    clear hN2 hb2 hN hnf1 hnf2
    go_loopw [14] (fun i wr => ∃ k : Nat, k ≤ n ∧ i = .int .i64 k ∧ allTo (contF p v) k = true ∧ ProbBlk wr N p a c ∧ Below w.heap.size w wr) (fun i _ => n - (intOf i).toNat)
    case atStart => exact ⟨0, Nat.zero_le _, rfl, rfl, HN2.out, HB2.out⟩
    case round =>
      obtain ⟨k, hk, rfl, hall, hn, hb⟩ := hrel
      have HA := Lib.hid hall
      have HB := Lib.hid hb
      have HN := Lib.hid hn
      obtain ⟨a0, a1, a2, a3, a4, a5⟩ := hn.cells
      clear hb hn hall a0 a4 a5
      by_cases hlt : k < n
      · obtain ⟨b, off, rfl, hbs, hcell⟩ := hq.at (by omega)
        have k0 : wr.cell? ⟨b, off + k, none⟩ = some (.int .i64 (v k)) := by rw [HB.out.cell hbs]; exact hcell k hlt
        rcases Bool.eq_false_or_eq_true (inB (v k) p.low p.high) with g1 | g1
        · rcases Nat.eq_zero_or_pos k with h0 | h0
          · subst h0
            have HE := Lib.hid (show contF p v 0 = true by simp [contF, g1])
            simp only [Nat.add_zero] at k0
            clear hcell
            go_wp2_with fail
            go_quiet ((go_at_call 48; exact Calls.quiet_of_same (within_q _ _ _ _)))
            go_wp2_with fail
            go_roundw
            case rel => exact ⟨1, by omega, by go_num, allTo_succ HA.out HE.out, HN.out.later (below_drewN (Below.refl _ _) _), below_drewN HB.out _⟩
            case measure => simp [intOf]; omega
          · have k1 : wr.cell? ⟨b, off + (k - 1), none⟩ = some (.int .i64 (v (k - 1))) := by rw [HB.out.cell hbs]; exact hcell (k - 1) (by omega)
            clear hcell
            have e0 : IntKind.i64.wrap ((k : Int) - 1) = (k : Int) - 1 := IntWalk.i64_in _ (by omega)
            have e1 : (0 : Int) ≤ (k : Int) - 1 := by omega
            have e2 : ((k : Int) - 1).toNat = k - 1 := by omega
            have e3 : (k : Int) - 1 < n := by omega
            have e4 : (0 : Int) < (k : Int) := by omega
            have g1' := inB_iff.1 g1
            have hpre := contF_in HA.out (show k - 1 < k by omega)
            rcases Bool.eq_false_or_eq_true (inB (v k - v (k - 1)) (-p.slope) p.slope) with g2 | g2
            · have HE := Lib.hid (show contF p v k = true by simp [contF, g1, g2])
              go_wp2_with fail
              go_quiet ((go_at_call 48; exact Calls.quiet_of_same (within_q _ _ _ _)))
              go_wp2_with fail
              go_roundw
              case rel => exact ⟨k + 1, by omega, by go_num, allTo_succ HA.out HE.out, HN.out.later (below_drewN (Below.refl _ _) _), below_drewN HB.out _⟩
              case measure => simp [intOf]; omega
            · have HE := Lib.hid (show contF p v k = false by simp [contF, g1, g2]; omega)
              go_wp2_with fail
              go_quiet ((go_at_call 48; exact Calls.quiet_of_same (within_q _ _ _ _)))
              go_wp2_with fail
              go_ret
              exact ⟨ret_bool (by rw [contB_def]; rw [allTo_false hlt HE.out]; simp), below_drewN HB.out _⟩
        · have HE := Lib.hid (show contF p v k = false by simp [contF, g1])
          clear hcell
          go_wp2_with fail
          go_quiet ((go_at_call 48; exact Calls.quiet_of_same (within_q _ _ _ _)))
          go_wp2_with fail
          go_ret
          exact ⟨ret_bool (by rw [contB_def]; rw [allTo_false hlt HE.out]; simp), below_drewN HB.out _⟩
      · have hle : n ≤ k := by omega
        have HJ := Lib.hid (show k = n by omega)
        go_wp2_with fail
        go_ret
        exact ⟨ret_bool (by rw [contB_def, ← HJ.out, HA.out, HJ.out]; simp [HF.out]), HB.out⟩
  · have hnf1 : ((n : Int) == p.frames) = false := by simpa using hnf
    have hnf2 : ((n : Int) != p.frames) = true := by simp [bne, hnf1]
    have HE := Lib.hid (show contB p n v = false by simp [contB, hnf])
    clear hnf
    go_enter Tryd.func55, Tryd.ntmps55
    go_wp2_with fail
    go_ret
    exact ⟨ret_bool HE.out.symm, newb _ _⟩

end Go.Proofs.YtijonghofghocaaDoor
