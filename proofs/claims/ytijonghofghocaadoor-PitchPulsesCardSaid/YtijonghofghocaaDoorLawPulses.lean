/-
  The walk of PitchPulses: it answers true. Conditions: the table of semitones lies as the program's text lays it; the slice reads as its elements.
-/
import Derived.Test.YtijonghofghocaaDoorKnown
namespace Go.Proofs.YtijonghofghocaaDoor
open Go.RowKit

set_option maxRecDepth 100000 in
set_option maxHeartbeats 4000000 in
theorem pulses_law (rate : Int) (f : Nat → Int) (p : Option Addr) (n cap : Nat) (w : World) (hn : n ≤ 9223372036854775807) (hc : Ints w p n f) (ht : Table w) :
    Calls Tryd.prog 15 #[.int .i64 rate, .slice p n cap] w fun e w' => e = .returned (.bool true) ∧ Below w.heap.size w w' := by
  have HT := Lib.hid ht
  have HC := Lib.hid hc
  have hn' : (n : Int) ≤ 9223372036854775807 := by omega
  have HN := Lib.hid hn
  clear ht hc hn
  cases g0 : fewB n with
  | false =>
    go_enter Tryd.func15, Tryd.ntmps15
    go_wp2_with (go_at_call 44; refine (few_any _ _).mono ?_; rintro e w' ⟨rfl, rfl⟩; rw [g0])
    refine (known_any _ HT.out).mono ?_
    rintro e w2 ⟨rfl, hb2⟩
    have HB2 := Lib.hid hb2
    clear hb2
    go_wp2_with fail
    go_ret
    exact ⟨rfl, HB2.out⟩
  | true =>
    cases g1 : voiceB rate n f with
    | false =>
      have HG := Lib.hid g1
      clear g1
      go_enter Tryd.func15, Tryd.ntmps15
      go_wp2_with (go_at_call 44; refine (few_any _ _).mono ?_; rintro e w' ⟨rfl, rfl⟩; rw [g0])
      clear g0
      refine (Pulses_err rate f p n cap _ HN.out HG.out HC.out).mono ?_
      rintro e w1 ⟨q, cq, rfl, _, hb1⟩
      have HB1 := Lib.hid hb1
      clear hb1
      go_wp2_with fail
      refine (Count_err rate f p n cap _ HN.out HG.out (HC.out.mono HB1.out)).mono ?_
      rintro e w2 ⟨rfl, hb2⟩
      unfold three
      have HB2 := Lib.hid (HB1.out.trans (hb2.mono HB1.out.size))
      clear hb2
      go_wp2_with fail
      refine (voice_any rate f p n cap _ HN.out (HC.out.mono HB2.out)).mono ?_
      rintro e w3 ⟨rfl, hb3⟩
      rw [HG.out]
      have HB3 := Lib.hid (HB2.out.trans (hb3.mono HB2.out.size))
      clear hb3
      go_wp2_with fail
      refine (known_any _ (HT.out.later HB3.out)).mono ?_
      rintro e w4 ⟨rfl, hb4⟩
      have HB4 := Lib.hid (HB3.out.trans (hb4.mono HB3.out.size))
      clear hb4
      go_wp2_with fail
      go_ret
      exact ⟨rfl, HB4.out⟩
    | true =>
      have HG := Lib.hid g1
      clear g1
      go_enter Tryd.func15, Tryd.ntmps15
      go_wp2_with (go_at_call 44; refine (few_any _ _).mono ?_; rintro e w' ⟨rfl, rfl⟩; rw [g0])
      clear g0
      refine (Pulses_ok rate f p n cap _ HG.out HC.out).mono ?_
      rintro e w1 ⟨q, cq, rfl, hi1, hb1⟩
      have HB1 := Lib.hid hb1
      have HI1 := Lib.hid hi1
      clear hb1 hi1
      go_wp2_with fail
      refine (Count_ok rate f p n cap _ HG.out (HC.out.mono HB1.out)).mono ?_
      rintro e w2 ⟨rfl, hb2⟩
      unfold three
      have HB2 := Lib.hid (HB1.out.trans (hb2.mono HB1.out.size))
      have HI2 := Lib.hid (HI1.out.mono hb2)
      clear hb2 HI1
      go_wp2_with fail
      refine (voice_any rate f p n cap _ HN.out (HC.out.mono HB2.out)).mono ?_
      rintro e w3 ⟨rfl, hb3⟩
      rw [HG.out]
      have HB3 := Lib.hid (HB2.out.trans (hb3.mono HB2.out.size))
      have HI3 := Lib.hid (HI2.out.mono hb3)
      clear hb3 HI2
      go_wp2_with fail
      refine (refpulses_any rate f p n cap _ HG.out (HC.out.mono HB3.out)).mono ?_
      rintro e w4 ⟨q2, cq2, rfl, hj4, hb4⟩
      have HB4 := Lib.hid (HB3.out.trans (hb4.mono HB3.out.size))
      have HI4 := Lib.hid (HI3.out.mono hb4)
      have HJ4 := Lib.hid hj4
      have hcn := count_le rate f n
      have hcn' : (count rate f n : Int) ≤ 9223372036854775807 := by omega
      clear hb4 hj4 HI3
      go_wp2_with fail
      refine (same_any (count rate f n) (count rate f n) (place rate f n) (place rate f n) q q2 cq cq2 _ HI4.out HJ4.out (by omega) (by omega)).mono ?_
      rintro e w5 ⟨rfl, hb5⟩
      rw [sameB_of fun _ _ => rfl]
      have HB5 := Lib.hid (HB4.out.trans (hb5.mono HB4.out.size))
      clear hb5
      go_wp2_with fail
      refine (known_any _ (HT.out.later HB5.out)).mono ?_
      rintro e w6 ⟨rfl, hb6⟩
      have HB6 := Lib.hid (HB5.out.trans (hb6.mono HB5.out.size))
      clear hb6
      go_wp2_with fail
      go_ret
      exact ⟨rfl, HB6.out⟩
end Go.Proofs.YtijonghofghocaaDoor
