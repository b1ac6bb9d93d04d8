/-
  The walk of PitchCosts: it answers true. Conditions: the table of semitones lies as the program's text lays it; the slices read as their elements.
-/
import Derived.Test.YtijonghofghocaaDoorKnown
import Derived.Test.YtijonghofghocaaDoorRefSettled
namespace Go.Proofs.YtijonghofghocaaDoor
open Go.RowKit

set_option maxRecDepth 100000 in
set_option maxHeartbeats 8000000 in
theorem little_any (p : Prob) (a : Option Addr) (c : Nat) (w : World) (hm : p.m ≤ 9223372036854775807) :
    Calls Tryd.prog 25 #[.agg #[.int .i64 p.frames, .int .i64 p.low, .int .i64 p.high, .int .i64 p.slope, .int .i64 p.smooth, .slice a p.m c]] w fun e w' => (∃ b : Bool, e = .returned (.bool b)) ∧ Below w.heap.size w w' := by
  obtain ⟨z, hz⟩ : ∃ z, IntKind.i64.wrap (p.high - p.low) = z := ⟨_, rfl⟩
  have hm' : (p.m : Int) ≤ 9223372036854775807 := by omega
  have hA : p.frames ≤ 12 ∨ (12 < p.frames ∧ 200 < p.frames) ∨ (12 < p.frames ∧ p.frames ≤ 200) := by omega
  have hB : z ≤ 40 ∨ (40 < z ∧ 400 < z) ∨ (40 < z ∧ z ≤ 400) := by omega
  have hC : (p.m : Int) ≤ 12 ∨ ((12 : Int) < p.m ∧ (200 : Int) < p.m ∧ (300 : Int) < p.m) ∨ ((12 : Int) < p.m ∧ (200 : Int) < p.m ∧ (p.m : Int) ≤ 300) ∨ ((12 : Int) < p.m ∧ (p.m : Int) ≤ 200) := by omega
  rcases hA with f1 | ⟨f1, f2⟩ | ⟨f1, f2⟩
  rotate_left 2
  · clear hB hC hm hm' hz
    go_enter Tryd.func25, Tryd.ntmps25
    go_wp2_with fail
    go_ret
    exact ⟨⟨_, rfl⟩, newb _ _⟩
  all_goals
    rcases hB with b1 | ⟨b1, b2⟩ | ⟨b1, b2⟩
    rotate_left 2
    · clear hC hm hm'
      go_enter Tryd.func25, Tryd.ntmps25
      go_wp2_with fail
      go_ret
      exact ⟨⟨_, rfl⟩, newb _ _⟩
    all_goals
      rcases hC with c1 | ⟨c1, c2, c3⟩ | ⟨c1, c2, c3⟩ | ⟨c1, c2⟩
      all_goals
        clear hm
        go_enter Tryd.func25, Tryd.ntmps25
        go_wp2_with fail
        go_ret
        exact ⟨⟨_, rfl⟩, newb _ _⟩

set_option maxRecDepth 100000 in
set_option maxHeartbeats 4000000 in
theorem settled_err (p : Prob) (n : Nat) (v : Nat → Int) (a q : Option Addr) (c cq : Nat) (w : World) (hm : p.m ≤ 9223372036854775807) (hn : n ≤ 9223372036854775807) (h : ¬ (probB p = true ∧ contB p n v = true)) (hc : Row w a p.m 3 (tgtCell p.tg)) (hq : Ints w q n v) :
    Calls Tryd.prog 27 #[.agg #[.int .i64 p.frames, .int .i64 p.low, .int .i64 p.high, .int .i64 p.slope, .int .i64 p.smooth, .slice a p.m c], .slice q n cq] w
      fun e w' => e = .returned (.tuple #[.bool false, .int .i64 2]) ∧ Below w.heap.size w w' := by
  have HQ := Lib.hid hq
  clear hq
  rcases Bool.eq_false_or_eq_true (probB p) with g1 | g1
  · have HP := Lib.hid (probB_iff.1 g1)
    have HG2 := Lib.hid (show contB p n v = false by
      cases q : contB p n v with
      | false => rfl
      | true => exact absurd ⟨g1, q⟩ h)
    clear h
    go_enter Tryd.func27, Tryd.ntmps27
    go_wp2_with fail
    have h0 : ProbBlk (w.alloc (.cells #[.int .i64 p.frames, .int .i64 p.low, .int .i64 p.high, .int .i64 p.slope, .int .i64 p.smooth, .slice a p.m c] 43)) w.heap.size p a c := heap_alloc_new _ _
    refine (problem_any p a c _ hm (hc.mono (newb _ _))).mono ?_
    rintro e w1 ⟨rfl, hb1⟩
    have HN1 := Lib.hid (h0.later hb1)
    have HB1 := Lib.hid ((newb w _).trans (hb1.mono (by simp)))
    obtain ⟨a0, a1, a2, a3, a4, a5⟩ := HN1.out.cells
    clear h0 hb1
    rw [g1]
    clear g1
    go_wp2_with fail
    refine (contour_any p n v a q c cq _ HP.out (HQ.out.mono HB1.out) (by omega)).mono ?_
    rintro e w2 ⟨rfl, hb2⟩
    have HB2 := Lib.hid (HB1.out.trans (hb2.mono HB1.out.size))
    clear a0 a1 a2 a3 a4 a5 hb2
    rw [HG2.out]
    go_wp2_with fail
    go_ret2
    exact ⟨rfl, HB2.out⟩
  · clear h
    go_enter Tryd.func27, Tryd.ntmps27
    go_wp2_with fail
    refine (problem_any p a c _ hm (hc.mono (newb _ _))).mono ?_
    rintro e w1 ⟨rfl, hb1⟩
    have HB1 := Lib.hid ((newb w _).trans (hb1.mono (by simp)))
    clear hb1
    rw [g1]
    clear g1
    go_wp2_with fail
    go_ret2
    exact ⟨rfl, HB1.out⟩

set_option maxRecDepth 100000 in
set_option maxHeartbeats 8000000 in
theorem costs_main (p : Prob) (n : Nat) (v : Nat → Int) (a q : Option Addr) (c cq : Nat) (w : World) (hm : p.m ≤ 9223372036854775807) (hn20 : n ≤ 20) (hp : PB p) (hn : (n : Int) = p.frames) (hv : okN p n v) (hc : Row w a p.m 3 (tgtCell p.tg)) (hq : Ints w q n v) (ht : Table w) :
    Calls Tryd.prog 6 #[.agg #[.int .i64 p.frames, .int .i64 p.low, .int .i64 p.high, .int .i64 p.slope, .int .i64 p.smooth, .slice a p.m c], .slice q n cq] w fun e w' => e = .returned (.bool true) ∧ Below w.heap.size w w' := by
  have hn' : (n : Int) ≤ 20 := by omega
  have HG1 := Lib.hid (probB_iff.2 hp)
  have HG2 := Lib.hid (contB_iff.2 ⟨hn, hv⟩)
  obtain ⟨C1, hC1⟩ : ∃ C1, C1 = costN p n v := ⟨_, rfl⟩
  have HC1 := Lib.hid hC1
  have HP := Lib.hid hp
  have HV := Lib.hid hv
  have HF := Lib.hid hn
  have HQ := Lib.hid hq
  have HT := Lib.hid ht
  clear hp hv hq ht hC1 hn
  go_enter Tryd.func6, Tryd.ntmps6
  go_wp2_with fail
  have h0 : ProbBlk (w.alloc (.cells #[.int .i64 p.frames, .int .i64 p.low, .int .i64 p.high, .int .i64 p.slope, .int .i64 p.smooth, .slice a p.m c] 43)) w.heap.size p a c := heap_alloc_new _ _
  refine (little_any p a c _ hm).mono ?_
  rintro e w1 ⟨⟨bl, rfl⟩, hb1⟩
  have HN1 := Lib.hid (h0.later hb1)
  have HB1 := Lib.hid ((newb w _).trans (hb1.mono (by simp)))
  obtain ⟨a0, a1, a2, a3, a4, a5⟩ := HN1.out.cells
  clear h0 hb1
  cases bl with
  | false =>
    go_wp2_with fail
    refine (known_any _ (HT.out.later HB1.out)).mono ?_
    rintro e wk ⟨rfl, hbk⟩
    have HBK := Lib.hid (HB1.out.trans (hbk.mono HB1.out.size))
    clear hbk
    go_wp2_with fail
    go_ret
    exact ⟨rfl, HBK.out⟩
  | true =>
    go_wp2_with fail
    refine (Cost_any p n v a q c cq _ hm (by omega) (hc.mono HB1.out) (HQ.out.mono HB1.out)).mono ?_
    rintro e w4 ⟨rfl, hb4⟩
    rw [show CostE p n v = two C1 0 by rw [HC1.out]; simp [CostE, HG1.out, HG2.out]]
    unfold two
    have HN4 := Lib.hid (HN1.out.later hb4)
    have HB4 := Lib.hid (HB1.out.trans (hb4.mono HB1.out.size))
    clear a0 a1 a2 a3 a4 a5 hb4
    obtain ⟨a0, a1, a2, a3, a4, a5⟩ := HN4.out.cells
    go_wp2_with fail
    refine (settled_ok p n v a q c cq _ hm HP.out HF.out HV.out (hc.mono HB4.out) (HQ.out.mono HB4.out)).mono ?_
    rintro e w5 ⟨⟨b1, hb1, rfl⟩, hb5⟩
    have HS1 := Lib.hid hb1
    have HN5 := Lib.hid (HN4.out.later hb5)
    have HB5 := Lib.hid (HB4.out.trans (hb5.mono HB4.out.size))
    clear a0 a1 a2 a3 a4 a5 hb5 hb1
    obtain ⟨a0, a1, a2, a3, a4, a5⟩ := HN5.out.cells
    go_wp2_with fail
    refine (refproblem_any p a c _ hm (hc.mono HB5.out)).mono ?_
    rintro e w6 ⟨rfl, hb6⟩
    rw [HG1.out]
    have HN6 := Lib.hid (HN5.out.later hb6)
    have HB6 := Lib.hid (HB5.out.trans (hb6.mono HB5.out.size))
    clear a0 a1 a2 a3 a4 a5 hb6
    obtain ⟨a0, a1, a2, a3, a4, a5⟩ := HN6.out.cells
    go_wp2_with fail
    refine (refcontour_any p n v a q c cq _ HP.out (HQ.out.mono HB6.out) (by omega)).mono ?_
    rintro e w7 ⟨rfl, hb7⟩
    rw [HG2.out]
    have HN7 := Lib.hid (HN6.out.later hb7)
    have HB7 := Lib.hid (HB6.out.trans (hb7.mono HB6.out.size))
    clear a0 a1 a2 a3 a4 a5 hb7
    obtain ⟨a0, a1, a2, a3, a4, a5⟩ := HN7.out.cells
    go_wp2_with fail
    refine (refcost_any p n v a q c cq _ HP.out HF.out HV.out (hc.mono HB7.out) (HQ.out.mono HB7.out)).mono ?_
    rintro e w8 ⟨rfl, hb8⟩
    rw [← HC1.out]
    have HN8 := Lib.hid (HN7.out.later hb8)
    have HB8 := Lib.hid (HB7.out.trans (hb8.mono HB7.out.size))
    clear a0 a1 a2 a3 a4 a5 hb8
    obtain ⟨a0, a1, a2, a3, a4, a5⟩ := HN8.out.cells
    go_wp2_with fail
    refine (refsettled_any p n v a q c cq _ HP.out HF.out HV.out (hc.mono HB8.out) (HQ.out.mono HB8.out)).mono ?_
    rintro e w9 ⟨⟨b2, hb2, rfl⟩, hb9⟩
    obtain rfl : b1 = b2 := by
      have h1 := HS1.out
      cases b1 <;> cases b2 <;> simp_all
    have HB9 := Lib.hid (HB8.out.trans (hb9.mono HB8.out.size))
    clear a0 a1 a2 a3 a4 a5 hb9 hb2
    cases b1
    all_goals
      go_wp2_with fail
      refine (known_any _ (HT.out.later HB9.out)).mono ?_
      rintro e wk ⟨rfl, hbk⟩
      have HBK := Lib.hid (HB9.out.trans (hbk.mono HB9.out.size))
      clear hbk
      go_wp2_with fail
      go_ret
      exact ⟨rfl, HBK.out⟩

set_option maxRecDepth 100000 in
set_option maxHeartbeats 8000000 in
theorem costs_law (p : Prob) (n : Nat) (v : Nat → Int) (a q : Option Addr) (c cq : Nat) (w : World) (hm : p.m ≤ 9223372036854775807) (hn : n ≤ 9223372036854775807) (hc : Row w a p.m 3 (tgtCell p.tg)) (hq : Ints w q n v) (ht : Table w) :
    Calls Tryd.prog 6 #[.agg #[.int .i64 p.frames, .int .i64 p.low, .int .i64 p.high, .int .i64 p.slope, .int .i64 p.smooth, .slice a p.m c], .slice q n cq] w fun e w' => e = .returned (.bool true) ∧ Below w.heap.size w w' := by
  have hn' : (n : Int) ≤ 9223372036854775807 := by omega
  by_cases hok : n ≤ 20 ∧ probB p = true ∧ contB p n v = true
  · obtain ⟨h1, g1, g2⟩ := hok
    exact costs_main p n v a q c cq w hm h1 (probB_iff.1 g1) (contB_iff.1 g2).1 (contB_iff.1 g2).2 hc hq ht
  · have HQ := Lib.hid hq
    have HT := Lib.hid ht
    clear hq ht
    by_cases h20 : n ≤ 20
    · have h20' : (n : Int) ≤ 20 := by omega
      have hno : ¬ (probB p = true ∧ contB p n v = true) := fun h => hok ⟨h20, h⟩
      have HNO := Lib.hid hno
      have HE := Lib.hid (show CostE p n v = two 0 2 by unfold CostE; rw [if_neg hno])
      clear hok hno
      go_enter Tryd.func6, Tryd.ntmps6
      go_wp2_with fail
      have h0 : ProbBlk (w.alloc (.cells #[.int .i64 p.frames, .int .i64 p.low, .int .i64 p.high, .int .i64 p.slope, .int .i64 p.smooth, .slice a p.m c] 43)) w.heap.size p a c := heap_alloc_new _ _
      refine (little_any p a c _ hm).mono ?_
      rintro e w1 ⟨⟨bl, rfl⟩, hb1⟩
      have HN1 := Lib.hid (h0.later hb1)
      have HB1 := Lib.hid ((newb w _).trans (hb1.mono (by simp)))
      obtain ⟨a0, a1, a2, a3, a4, a5⟩ := HN1.out.cells
      clear h0 hb1
      cases bl with
      | false =>
        go_wp2_with fail
        refine (known_any _ (HT.out.later HB1.out)).mono ?_
        rintro e wk ⟨rfl, hbk⟩
        have HBK := Lib.hid (HB1.out.trans (hbk.mono HB1.out.size))
        clear hbk
        go_wp2_with fail
        go_ret
        exact ⟨rfl, HBK.out⟩
      | true =>
        go_wp2_with fail
        refine (Cost_any p n v a q c cq _ hm (by omega) (hc.mono HB1.out) (HQ.out.mono HB1.out)).mono ?_
        rintro e w4 ⟨rfl, hb4⟩
        rw [HE.out]
        unfold two
        have HN4 := Lib.hid (HN1.out.later hb4)
        have HB4 := Lib.hid (HB1.out.trans (hb4.mono HB1.out.size))
        clear a0 a1 a2 a3 a4 a5 hb4
        obtain ⟨a0, a1, a2, a3, a4, a5⟩ := HN4.out.cells
        go_wp2_with fail
        refine (settled_err p n v a q c cq _ hm hn HNO.out (hc.mono HB4.out) (HQ.out.mono HB4.out)).mono ?_
        rintro e w5 ⟨rfl, hb5⟩
        have HN5 := Lib.hid (HN4.out.later hb5)
        have HB5 := Lib.hid (HB4.out.trans (hb5.mono HB4.out.size))
        clear a0 a1 a2 a3 a4 a5 hb5
        obtain ⟨a0, a1, a2, a3, a4, a5⟩ := HN5.out.cells
        go_wp2_with fail
        refine (refproblem_any p a c _ hm (hc.mono HB5.out)).mono ?_
        rintro e w6 ⟨rfl, hb6⟩
        have HN6 := Lib.hid (HN5.out.later hb6)
        have HB6 := Lib.hid (HB5.out.trans (hb6.mono HB5.out.size))
        clear a0 a1 a2 a3 a4 a5 hb6
        obtain ⟨a0, a1, a2, a3, a4, a5⟩ := HN6.out.cells
        rcases Bool.eq_false_or_eq_true (probB p) with g1 | g1
        · have HP := Lib.hid (probB_iff.1 g1)
          have HG2 := Lib.hid (show contB p n v = false by
            cases q : contB p n v with
            | false => rfl
            | true => exact absurd ⟨g1, q⟩ HNO.out)
          rw [g1]
          clear g1
          go_wp2_with fail
          refine (refcontour_any p n v a q c cq _ HP.out (HQ.out.mono HB6.out) (by omega)).mono ?_
          rintro e w7 ⟨rfl, hb7⟩
          rw [HG2.out]
          have HB7 := Lib.hid (HB6.out.trans (hb7.mono HB6.out.size))
          clear a0 a1 a2 a3 a4 a5 hb7
          go_wp2_with fail
          refine (known_any _ (HT.out.later HB7.out)).mono ?_
          rintro e wk ⟨rfl, hbk⟩
          have HBK := Lib.hid (HB7.out.trans (hbk.mono HB7.out.size))
          clear hbk
          go_wp2_with fail
          go_ret
          exact ⟨rfl, HBK.out⟩
        · rw [g1]
          clear g1 a0 a1 a2 a3 a4 a5
          go_wp2_with fail
          refine (known_any _ (HT.out.later HB6.out)).mono ?_
          rintro e wk ⟨rfl, hbk⟩
          have HBK := Lib.hid (HB6.out.trans (hbk.mono HB6.out.size))
          clear hbk
          go_wp2_with fail
          go_ret
          exact ⟨rfl, HBK.out⟩
    · have h20' : (20 : Int) < n := by omega
      clear hok
      go_enter Tryd.func6, Tryd.ntmps6
      go_wp2_with fail
      refine (little_any p a c _ hm).mono ?_
      rintro e w1 ⟨⟨bl, rfl⟩, hb1⟩
      have HB1 := Lib.hid ((newb w _).trans (hb1.mono (by simp)))
      clear hb1
      cases bl
      all_goals
        go_wp2_with fail
        refine (known_any _ (HT.out.later HB1.out)).mono ?_
        rintro e wk ⟨rfl, hbk⟩
        have HBK := Lib.hid (HB1.out.trans (hbk.mono HB1.out.size))
        clear hbk
        go_wp2_with fail
        go_ret
        exact ⟨rfl, HBK.out⟩
end Go.Proofs.YtijonghofghocaaDoor
