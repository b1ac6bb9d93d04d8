/-
  The walk of pitch.Cost. Condition: the slices read as their elements.
-/
import Derived.Test.YtijonghofghocaaDoorPCost
import Derived.Test.YtijonghofghocaaDoorVal2
namespace Go.Proofs.YtijonghofghocaaDoor
open Go.RowKit

def CostE (p : Prob) (n : Nat) (v : Nat → Int) : Ending := if probB p = true ∧ contB p n v = true then two (costN p n v) 0 else two 0 2

set_option maxRecDepth 100000 in
set_option maxHeartbeats 4000000 in
theorem Cost_any (p : Prob) (n : Nat) (v : Nat → Int) (a q : Option Addr) (c cq : Nat) (w : World) (hm : p.m ≤ 9223372036854775807) (hn : n ≤ 9223372036854775807) (hc : Row w a p.m 3 (tgtCell p.tg)) (hq : Ints w q n v) :
    Calls Tryd.prog 26 #[.agg #[.int .i64 p.frames, .int .i64 p.low, .int .i64 p.high, .int .i64 p.slope, .int .i64 p.smooth, .slice a p.m c], .slice q n cq] w fun e w' => e = CostE p n v ∧ Below w.heap.size w w' := by
  rcases Bool.eq_false_or_eq_true (probB p) with g1 | g1
  · have HP := Lib.hid (probB_iff.1 g1)
    rcases Bool.eq_false_or_eq_true (contB p n v) with g2 | g2
    · have HE := Lib.hid (show CostE p n v = two (costN p n v) 0 by simp [CostE, g1, g2])
      have HC := Lib.hid (contB_iff.1 g2)
      go_enter Tryd.func26, Tryd.ntmps26
      go_wp2_with fail
      have h0 : ProbBlk (w.alloc (.cells #[.int .i64 p.frames, .int .i64 p.low, .int .i64 p.high, .int .i64 p.slope, .int .i64 p.smooth, .slice a p.m c] 43)) w.heap.size p a c := heap_alloc_new _ _
      refine (problem_any p a c _ hm (hc.mono (newb _ _))).mono ?_
      rintro e w1 ⟨rfl, hb1⟩
      have HN1 := Lib.hid (h0.later hb1)
      have HB1 := Lib.hid ((newb w _).trans (hb1.mono (by simp)))
      obtain ⟨a0, a1, a2, a3, a4, a5⟩ := HN1.out.cells
      clear h0 hb1
      rw [g1]
      go_wp2_with fail
      refine (contour_any p n v a q c cq _ HP.out (hq.mono HB1.out) hn).mono ?_
      rintro e w2 ⟨rfl, hb2⟩
      have HN2 := Lib.hid (HN1.out.later hb2)
      have HB2 := Lib.hid (HB1.out.trans (hb2.mono HB1.out.size))
      clear a0 a1 a2 a3 a4 a5 hb2
      obtain ⟨a0, a1, a2, a3, a4, a5⟩ := HN2.out.cells
      rw [g2]
      go_wp2_with fail
      refine (cost_any p n v a q c cq _ HP.out HC.out.1 HC.out.2 (hc.mono HB2.out) (hq.mono HB2.out)).mono ?_
      rintro e w3 ⟨rfl, hb3⟩
      have HB3 := Lib.hid (HB2.out.trans (hb3.mono HB2.out.size))
      clear a0 a1 a2 a3 a4 a5 hb3
      go_wp2_with fail
      go_ret2
      exact ⟨(two_eq rfl rfl).trans HE.out.symm, HB3.out⟩
    · have HE := Lib.hid (show CostE p n v = two 0 2 by simp [CostE, g2])
      go_enter Tryd.func26, Tryd.ntmps26
      go_wp2_with fail
      have h0 : ProbBlk (w.alloc (.cells #[.int .i64 p.frames, .int .i64 p.low, .int .i64 p.high, .int .i64 p.slope, .int .i64 p.smooth, .slice a p.m c] 43)) w.heap.size p a c := heap_alloc_new _ _
      refine (problem_any p a c _ hm (hc.mono (newb _ _))).mono ?_
      rintro e w1 ⟨rfl, hb1⟩
      have HN1 := Lib.hid (h0.later hb1)
      have HB1 := Lib.hid ((newb w _).trans (hb1.mono (by simp)))
      obtain ⟨a0, a1, a2, a3, a4, a5⟩ := HN1.out.cells
      clear h0 hb1
      rw [g1]
      go_wp2_with fail
      refine (contour_any p n v a q c cq _ HP.out (hq.mono HB1.out) hn).mono ?_
      rintro e w2 ⟨rfl, hb2⟩
      have HB2 := Lib.hid (HB1.out.trans (hb2.mono HB1.out.size))
      clear a0 a1 a2 a3 a4 a5 hb2
      rw [g2]
      go_wp2_with fail
      go_ret2
      exact ⟨(two_eq rfl rfl).trans HE.out.symm, HB2.out⟩
  · have HE := Lib.hid (show CostE p n v = two 0 2 by simp [CostE, g1])
    go_enter Tryd.func26, Tryd.ntmps26
    go_wp2_with fail
    refine (problem_any p a c _ hm (hc.mono (newb _ _))).mono ?_
    rintro e w1 ⟨rfl, hb1⟩
    have HB1 := Lib.hid ((newb w _).trans (hb1.mono (by simp)))
    clear hb1
    rw [g1]
    go_wp2_with fail
    go_ret2
    exact ⟨(two_eq rfl rfl).trans HE.out.symm, HB1.out⟩
end Go.Proofs.YtijonghofghocaaDoor
