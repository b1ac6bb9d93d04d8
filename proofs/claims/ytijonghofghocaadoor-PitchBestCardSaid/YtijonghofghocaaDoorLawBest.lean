/-
  The walk of PitchBest: it answers true. Conditions: the table of semitones lies as the program's text lays it; the slice of targets reads as its elements.
-/
import Derived.Test.YtijonghofghocaaDoorKnown
import Derived.Test.YtijonghofghocaaDoorRefBest
namespace Go.Proofs.YtijonghofghocaaDoor
open Go.RowKit

set_option maxRecDepth 100000 in
set_option maxHeartbeats 8000000 in
theorem little_any (p : Prob) (a : Option Addr) (c : Nat) (w : World) (hm : p.m ≤ 9223372036854775807) :
    Calls Tryd.prog 25 #[.agg #[.int .i64 p.frames, .int .i64 p.low, .int .i64 p.high, .int .i64 p.slope, .int .i64 p.smooth, .slice a p.m c]] w fun e w' => (∃ b : Bool, e = .returned (.bool b)) ∧ Below w.heap.size w w' := by
  obtain ⟨z, hz⟩ : ∃ z, IntKind.i64.wrap (p.high - p.low) = z := ⟨_, rfl⟩
  have hm' : (p.m : Int) ≤ 9223372036854775807 := by omega
  have hA : p.frames ≤ 12 ∨ (12 < p.frames ∧ 200 < p.frames) ∨ (12 < p.frames ∧ p.frames ≤ 200) := by omega
  have hB : z ≤ 40 ∨ (40 < z ∧ 400 < z) ∨ (40 < z ∧ z ≤ 400) := by omega
  have hC : (p.m : Int) ≤ 12 ∨ ((12 : Int) < p.m ∧ (200 : Int) < p.m ∧ (300 : Int) < p.m) ∨ ((12 : Int) < p.m ∧ (200 : Int) < p.m ∧ (p.m : Int) ≤ 300) ∨ ((12 : Int) < p.m ∧ (p.m : Int) ≤ 200) := by omega
  rcases hA with f1 | ⟨f1, f2⟩ | ⟨f1, f2⟩
  rotate_left 2
  · clear hB hC hm hm' hz
    go_enter Tryd.func25, Tryd.ntmps25
    go_wp2_with fail
    go_ret
    exact ⟨⟨_, rfl⟩, newb _ _⟩
  all_goals
    rcases hB with b1 | ⟨b1, b2⟩ | ⟨b1, b2⟩
    rotate_left 2
    · clear hC hm hm'
      go_enter Tryd.func25, Tryd.ntmps25
      go_wp2_with fail
      go_ret
      exact ⟨⟨_, rfl⟩, newb _ _⟩
    all_goals
      rcases hC with c1 | ⟨c1, c2, c3⟩ | ⟨c1, c2, c3⟩ | ⟨c1, c2⟩
      all_goals
        clear hm
        go_enter Tryd.func25, Tryd.ntmps25
        go_wp2_with fail
        go_ret
        exact ⟨⟨_, rfl⟩, newb _ _⟩

set_option maxRecDepth 100000 in
set_option maxHeartbeats 8000000 in
theorem best_law (p : Prob) (a : Option Addr) (c : Nat) (w : World) (hm : p.m ≤ 9223372036854775807) (hc : Row w a p.m 3 (tgtCell p.tg)) (ht : Table w) :
    Calls Tryd.prog 8 #[.agg #[.int .i64 p.frames, .int .i64 p.low, .int .i64 p.high, .int .i64 p.slope, .int .i64 p.smooth, .slice a p.m c]] w fun e w' => e = .returned (.bool true) ∧ Below w.heap.size w w' := by
  have HT := Lib.hid ht
  have HC := Lib.hid hc
  clear ht hc
  rcases Bool.eq_false_or_eq_true (probB p) with g1 | g1
  · have HG := Lib.hid g1
    have HP := Lib.hid (probB_iff.1 g1)
    obtain ⟨F, hF⟩ : ∃ F, F = framesN p := ⟨_, rfl⟩
    have hFR : (F : Int) = p.frames := by rw [hF]; unfold framesN; have := HP.out.f1; omega
    have hF2 : (F : Int) ≤ 200 := by have := HP.out.f2; omega
    have HF := Lib.hid hF
    have HFR := Lib.hid hFR
    obtain ⟨C, hC⟩ : ∃ C, C = costN p F (path p F) := ⟨_, rfl⟩
    have HCC := Lib.hid hC
    clear g1 hF hFR hC
    go_enter Tryd.func8, Tryd.ntmps8
    go_wp2_with fail
    have h0 : ProbBlk (w.alloc (.cells #[.int .i64 p.frames, .int .i64 p.low, .int .i64 p.high, .int .i64 p.slope, .int .i64 p.smooth, .slice a p.m c] 43)) w.heap.size p a c := heap_alloc_new _ _
    refine (little_any p a c _ hm).mono ?_
    rintro e w1 ⟨⟨bl, rfl⟩, hb1⟩
    have HN1 := Lib.hid (h0.later hb1)
    have HB1 := Lib.hid ((newb w _).trans (hb1.mono (by simp)))
    obtain ⟨a0, a1, a2, a3, a4, a5⟩ := HN1.out.cells
    clear h0 hb1
    cases bl with
    | false =>
      go_wp2_with fail
      refine (known_any _ (HT.out.later HB1.out)).mono ?_
      rintro e wk ⟨rfl, hbk⟩
      have HBK := Lib.hid (HB1.out.trans (hbk.mono HB1.out.size))
      clear hbk
      go_wp2_with fail
      go_ret
      exact ⟨rfl, HBK.out⟩
    | true =>
      go_wp2_with fail
      refine (Best_any p a c _ hm (HC.out.mono HB1.out)).mono ?_
      rintro e w2 ⟨hbest, _, hb2⟩
      obtain ⟨qv, cv, rfl, hi2⟩ := hbest HG.out
      rw [← HF.out] at hi2 ⊢
      rw [← HCC.out]
      have HI2 := Lib.hid hi2
      have HN2 := Lib.hid (HN1.out.later hb2)
      have HB2 := Lib.hid (HB1.out.trans (hb2.mono HB1.out.size))
      clear a0 a1 a2 a3 a4 a5 hb2 hi2 hbest
      obtain ⟨a0, a1, a2, a3, a4, a5⟩ := HN2.out.cells
      go_wp2_with fail
      refine (refproblem_any p a c _ hm (HC.out.mono HB2.out)).mono ?_
      rintro e w3 ⟨rfl, hb3⟩
      rw [HG.out]
      have HI3 := Lib.hid (HI2.out.mono hb3)
      have HN3 := Lib.hid (HN2.out.later hb3)
      have HB3 := Lib.hid (HB2.out.trans (hb3.mono HB2.out.size))
      clear a0 a1 a2 a3 a4 a5 hb3
      obtain ⟨a0, a1, a2, a3, a4, a5⟩ := HN3.out.cells
      go_wp2_with fail
      refine (refbest_any p F a c _ HP.out HFR.out (HC.out.mono HB3.out)).mono ?_
      rintro e w4 ⟨qw, cw, rfl, hj4, hb4⟩
      have HJ4 := Lib.hid hj4
      have HI4 := Lib.hid (HI3.out.mono hb4)
      have HN4 := Lib.hid (HN3.out.later hb4)
      have HB4 := Lib.hid (HB3.out.trans (hb4.mono HB3.out.size))
      clear a0 a1 a2 a3 a4 a5 hb4 hj4
      obtain ⟨a0, a1, a2, a3, a4, a5⟩ := HN4.out.cells
      go_wp2_with fail
      refine (same_any F F (path p F) (path p F) qv qw cv cw _ HI4.out HJ4.out (by omega) (by omega)).mono ?_
      rintro e w5 ⟨rfl, hb5⟩
      rw [sameB_of fun _ _ => rfl]
      have HJ5 := Lib.hid (HJ4.out.mono hb5)
      have HN5 := Lib.hid (HN4.out.later hb5)
      have HB5 := Lib.hid (HB4.out.trans (hb5.mono HB4.out.size))
      clear a0 a1 a2 a3 a4 a5 hb5
      obtain ⟨a0, a1, a2, a3, a4, a5⟩ := HN5.out.cells
      go_wp2_with fail
      refine (refcost_any p F (path p F) a qw c cw _ HP.out HFR.out (path_ok p F HP.out.lh HP.out.s1) (HC.out.mono HB5.out) HJ5.out).mono ?_
      rintro e w6 ⟨rfl, hb6⟩
      rw [← HCC.out]
      have HB6 := Lib.hid (HB5.out.trans (hb6.mono HB5.out.size))
      clear a0 a1 a2 a3 a4 a5 hb6
      go_wp2_with fail
      refine (known_any _ (HT.out.later HB6.out)).mono ?_
      rintro e wk ⟨rfl, hbk⟩
      have HBK := Lib.hid (HB6.out.trans (hbk.mono HB6.out.size))
      clear hbk
      go_wp2_with fail
      go_ret
      exact ⟨rfl, HBK.out⟩
  · have HG := Lib.hid g1
    clear g1
    go_enter Tryd.func8, Tryd.ntmps8
    go_wp2_with fail
    have h0 : ProbBlk (w.alloc (.cells #[.int .i64 p.frames, .int .i64 p.low, .int .i64 p.high, .int .i64 p.slope, .int .i64 p.smooth, .slice a p.m c] 43)) w.heap.size p a c := heap_alloc_new _ _
    refine (little_any p a c _ hm).mono ?_
    rintro e w1 ⟨⟨bl, rfl⟩, hb1⟩
    have HN1 := Lib.hid (h0.later hb1)
    have HB1 := Lib.hid ((newb w _).trans (hb1.mono (by simp)))
    obtain ⟨a0, a1, a2, a3, a4, a5⟩ := HN1.out.cells
    clear h0 hb1
    cases bl with
    | false =>
      go_wp2_with fail
      refine (known_any _ (HT.out.later HB1.out)).mono ?_
      rintro e wk ⟨rfl, hbk⟩
      have HBK := Lib.hid (HB1.out.trans (hbk.mono HB1.out.size))
      clear hbk
      go_wp2_with fail
      go_ret
      exact ⟨rfl, HBK.out⟩
    | true =>
      go_wp2_with fail
      refine (Best_any p a c _ hm (HC.out.mono HB1.out)).mono ?_
      rintro e w2 ⟨_, herr, hb2⟩
      obtain rfl := herr HG.out
      have HN2 := Lib.hid (HN1.out.later hb2)
      have HB2 := Lib.hid (HB1.out.trans (hb2.mono HB1.out.size))
      clear a0 a1 a2 a3 a4 a5 hb2 herr
      obtain ⟨a0, a1, a2, a3, a4, a5⟩ := HN2.out.cells
      go_wp2_with fail
      refine (refproblem_any p a c _ hm (HC.out.mono HB2.out)).mono ?_
      rintro e w3 ⟨rfl, hb3⟩
      rw [HG.out]
      have HB3 := Lib.hid (HB2.out.trans (hb3.mono HB2.out.size))
      clear a0 a1 a2 a3 a4 a5 hb3
      go_wp2_with fail
      refine (known_any _ (HT.out.later HB3.out)).mono ?_
      rintro e wk ⟨rfl, hbk⟩
      have HBK := Lib.hid (HB3.out.trans (hbk.mono HB3.out.size))
      clear hbk
      go_wp2_with fail
      go_ret
      exact ⟨rfl, HBK.out⟩
end Go.Proofs.YtijonghofghocaaDoor
