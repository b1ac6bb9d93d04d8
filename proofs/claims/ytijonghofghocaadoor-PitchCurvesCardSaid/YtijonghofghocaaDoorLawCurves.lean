/-
  The walk of PitchCurves: it answers true. Conditions: the table of semitones lies as the program's text lays it; the slices read as their elements.
-/
import Derived.Test.YtijonghofghocaaDoorKnown
namespace Go.Proofs.YtijonghofghocaaDoor
open Go.RowKit

theorem curved_iff {n base : Int} {l : Nat → Cmd} {m : Nat} (h : curvedB n base l m = true) : (0 ≤ n ∧ n ≤ 4000) ∧ (-100000 ≤ base ∧ base ≤ 100000) ∧ m ≤ 200 ∧ allTo (fun i => (l i).valid) m = true := by
  simp only [curvedB, Bool.and_eq_true, decide_eq_true_eq, inB_iff] at h
  exact ⟨h.1.1.1, h.1.1.2, h.1.2, h.2⟩

set_option maxRecDepth 100000 in
set_option maxHeartbeats 4000000 in
theorem curves_law (n base : Int) (l : Nat → Cmd) (sp : Nat → Option Addr) (sc : Nat → Nat) (p : Option Addr) (m cap : Nat) (w : World) (hm : m ≤ 9223372036854775807) (hc : Cmds w p m l sp sc) (ht : Table w) :
    Calls Tryd.prog 4 #[.int .i64 n, .int .i64 base, .slice p m cap] w fun e w' => e = .returned (.bool true) ∧ Below w.heap.size w w' := by
  have HT := Lib.hid ht
  have HC := Lib.hid hc
  have hm' : (m : Int) ≤ 9223372036854775807 := by omega
  have HM := Lib.hid hm
  clear ht hc hm
  by_cases tA : 200 < n ∧ n ≤ 4000
  · obtain ⟨tA1, tA2⟩ := tA
    go_enter Tryd.func4, Tryd.ntmps4
    go_wp2_with fail
    refine (known_any _ HT.out).mono ?_
    rintro e wk ⟨rfl, hbk⟩
    have HBK := Lib.hid hbk
    clear hbk
    go_wp2_with fail
    go_ret
    exact ⟨rfl, HBK.out⟩
  have hA : n ≤ 200 ∨ (200 < n ∧ 4000 < n) := by omega
  clear tA
  by_cases tB : 8 < m ∧ m ≤ 200
  · have tB1 : (8 : Int) < m := by omega
    have tB2 : (m : Int) ≤ 200 := by omega
    clear tB
    rcases hA with hA | ⟨hA, hA2⟩
    all_goals
      go_enter Tryd.func4, Tryd.ntmps4
      go_wp2_with fail
      refine (known_any _ HT.out).mono ?_
      rintro e wk ⟨rfl, hbk⟩
      have HBK := Lib.hid hbk
      clear hbk
      go_wp2_with fail
      go_ret
      exact ⟨rfl, HBK.out⟩
  by_cases tC : 300 < m
  · have tC1 : (300 : Int) < m := by omega
    have tC2 : (8 : Int) < m := by omega
    have tC3 : (200 : Int) < m := by omega
    clear tB tC
    rcases hA with hA | ⟨hA, hA2⟩
    all_goals
      go_enter Tryd.func4, Tryd.ntmps4
      go_wp2_with fail
      refine (known_any _ HT.out).mono ?_
      rintro e wk ⟨rfl, hbk⟩
      have HBK := Lib.hid hbk
      clear hbk
      go_wp2_with fail
      go_ret
      exact ⟨rfl, HBK.out⟩
  have hB : (m : Int) ≤ 8 ∨ ((8 : Int) < m ∧ (200 : Int) < m) := by omega
  have hC : (m : Int) ≤ 300 := by omega
  clear tB tC
  cases kb : allTo (fun i => decide ((l i).n ≤ 40)) m with
  | false =>
    rcases hA with hA | ⟨hA, hA2⟩
    all_goals
      rcases hB with hB | ⟨hB, hB2⟩
    all_goals
      go_enter Tryd.func4, Tryd.ntmps4
      go_wp2_with fail
      refine (knots_any l sp sc p m cap _ HC.out HM.out).mono ?_
      rintro e w1 ⟨rfl, hb1⟩
      rw [kb]
      have HB1 := Lib.hid hb1
      clear hb1 kb
      go_wp2_with fail
      refine (known_any _ (HT.out.later HB1.out)).mono ?_
      rintro e wk ⟨rfl, hbk⟩
      have HBK := Lib.hid (HB1.out.trans (hbk.mono HB1.out.size))
      clear hbk
      go_wp2_with fail
      go_ret
      exact ⟨rfl, HBK.out⟩
  | true =>
    have HKB := Lib.hid kb
    clear kb
    cases cb : curvedB n base l m with
    | false =>
      have HCB := Lib.hid cb
      clear cb
      rcases hA with hA | ⟨hA, hA2⟩
      all_goals
        rcases hB with hB | ⟨hB, hB2⟩
      all_goals
        go_enter Tryd.func4, Tryd.ntmps4
        go_wp2_with fail
        refine (knots_any l sp sc p m cap _ HC.out HM.out).mono ?_
        rintro e w1 ⟨rfl, hb1⟩
        rw [HKB.out]
        have HB1 := Lib.hid hb1
        clear hb1
        go_wp2_with fail
        refine (curve_err n base l sp sc p m cap _ (HC.out.mono HB1.out) HM.out HCB.out).mono ?_
        rintro e w2 ⟨q, cq, rfl, _, hb2⟩
        have HB2 := Lib.hid (HB1.out.trans (hb2.mono HB1.out.size))
        clear hb2
        go_wp2_with fail
        refine (curved_any n base l sp sc p m cap _ (HC.out.mono HB2.out) HM.out).mono ?_
        rintro e w3 ⟨rfl, hb3⟩
        rw [HCB.out]
        have HB3 := Lib.hid (HB2.out.trans (hb3.mono HB2.out.size))
        clear hb3
        go_wp2_with fail
        refine (known_any _ (HT.out.later HB3.out)).mono ?_
        rintro e wk ⟨rfl, hbk⟩
        have HBK := Lib.hid (HB3.out.trans (hbk.mono HB3.out.size))
        clear hbk
        go_wp2_with fail
        go_ret
        exact ⟨rfl, HBK.out⟩
    | true =>
      have HCB := Lib.hid cb
      obtain ⟨⟨n1, n2⟩, ⟨b1, b2⟩, m2, hv⟩ := curved_iff cb
      have HV := Lib.hid hv
      have hn : n ≤ 200 := by omega
      have hm8 : (m : Int) ≤ 8 := by omega
      obtain ⟨N, rfl⟩ : ∃ N : Nat, n = N := ⟨n.toNat, by omega⟩
      have hN : N ≤ 4000 := by omega
      clear hA hB cb hv
      go_enter Tryd.func4, Tryd.ntmps4
      go_wp2_with fail
      refine (knots_any l sp sc p m cap _ HC.out HM.out).mono ?_
      rintro e w1 ⟨rfl, hb1⟩
      rw [HKB.out]
      have HB1 := Lib.hid hb1
      clear hb1
      go_wp2_with fail
      refine (curve_ok N base l sp sc p m cap _ (HC.out.mono HB1.out) hN b1 b2 m2 HV.out).mono ?_
      rintro e w2 ⟨q, cq, rfl, hi, hb2⟩
      have HB2 := Lib.hid (HB1.out.trans (hb2.mono HB1.out.size))
      have HI2 := Lib.hid hi
      clear hb2 hi
      go_wp2_with fail
      refine (curved_any N base l sp sc p m cap _ (HC.out.mono HB2.out) HM.out).mono ?_
      rintro e w3 ⟨rfl, hb3⟩
      rw [HCB.out]
      have HB3 := Lib.hid (HB2.out.trans (hb3.mono HB2.out.size))
      have HI3 := Lib.hid (HI2.out.mono hb3)
      clear hb3
      go_wp2_with fail
      refine (refcurve_any N base l sp sc p m cap _ (HC.out.mono HB3.out) hN b1 b2 m2 HV.out).mono ?_
      rintro e w4 ⟨q2, cq2, rfl, hj, hb4⟩
      have HB4 := Lib.hid (HB3.out.trans (hb4.mono HB3.out.size))
      have HI4 := Lib.hid (HI3.out.mono hb4)
      have HJ4 := Lib.hid hj
      clear hb4 hj
      go_wp2_with fail
      refine (same_any N N _ _ q q2 cq cq2 _ HI4.out HJ4.out (by omega) (by omega)).mono ?_
      rintro e w5 ⟨rfl, hb5⟩
      rw [sameB_of fun _ _ => rfl]
      have HB5 := Lib.hid (HB4.out.trans (hb5.mono HB4.out.size))
      clear hb5
      go_wp2_with fail
      refine (known_any _ (HT.out.later HB5.out)).mono ?_
      rintro e wk ⟨rfl, hbk⟩
      have HBK := Lib.hid (HB5.out.trans (hbk.mono HB5.out.size))
      clear hbk
      go_wp2_with fail
      go_ret
      exact ⟨rfl, HBK.out⟩
end Go.Proofs.YtijonghofghocaaDoor
