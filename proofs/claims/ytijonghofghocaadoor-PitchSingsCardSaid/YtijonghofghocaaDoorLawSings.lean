/-
  The walk of PitchSings: it answers true. Conditions: the table of semitones lies as the program's text lays it; the slice reads as its notes.
-/
import Derived.Test.YtijonghofghocaaDoorKnown
namespace Go.Proofs.YtijonghofghocaaDoor
open Go.RowKit

def IsInt (u : Value) : Prop := ∃ z : Int, u = .int .i64 z
theorem isInt (z : Int) : IsInt (.int .i64 z) := ⟨z, rfl⟩

set_option maxRecDepth 100000 in
set_option maxHeartbeats 4000000 in
theorem sings_law (l : Nat → Note) (p : Option Addr) (m cap : Nat) (w : World) (hm : m ≤ 9223372036854775807) (hc : Row w p m 6 (noteCell l)) (ht : Table w) :
    Calls Tryd.prog 11 #[.slice p m cap] w fun e w' => e = .returned (.bool true) ∧ Below w.heap.size w w' := by
  have HT := Lib.hid ht
  have HC := Lib.hid hc
  have hm' : (m : Int) ≤ 9223372036854775807 := by omega
  clear ht
  go_enter Tryd.func11, Tryd.ntmps11
  go_wp2_with fail
  go_loopw [3, 4] (fun s i wr => ∃ k : Nat, k ≤ m ∧ i = .int .i64 k ∧ IsInt s ∧ wr = w) (fun _ i _ => m - (intOf i).toNat)
  case atStart => exact ⟨0, Nat.zero_le _, rfl, isInt _, rfl⟩
  case round =>
    obtain ⟨k, hk, rfl, ⟨z, rfl⟩, rfl⟩ := hrel
    by_cases hlt : k < m
    · obtain ⟨b, off, rfl, hbs, hcell⟩ := hc.at (by omega)
      obtain ⟨k0, k1, k2, k3, k4, k5⟩ := note_at (Below.refl _ wr) hbs hcell hlt
      clear hcell k0 k2 k3 k4 k5
      have hcase : (l k).len ≤ 0 ∨ (0 < (l k).len ∧ 1000 < (l k).len) ∨ (0 < (l k).len ∧ (l k).len ≤ 1000) := by omega
      rcases hcase with g | ⟨g, g2⟩ | ⟨g, g2⟩
      all_goals
        go_wp2_with fail
        go_roundw
        case rel => exact ⟨k + 1, by omega, by go_num, isInt _, by first | trivial | rfl⟩
        case measure => simp [intOf]; omega
    · have hle : m ≤ k := by omega
      have HJ := Lib.hid (show k = m by omega)
      by_cases h110 : m ≤ 110
      · have h110' : (m : Int) ≤ 110 := by omega
        have hcase : z ≤ 300 ∨ (300 < z ∧ 4000 < z) ∨ (300 < z ∧ z ≤ 4000) := by omega
        rcases hcase with g | ⟨g, g2⟩ | ⟨g, g2⟩
        rotate_left 2
        · go_wp2_with fail
          refine (known_any _ HT.out).mono ?_
          rintro e w2 ⟨rfl, hb2⟩
          have HB2 := Lib.hid hb2
          clear hb2
          go_wp2_with fail
          go_ret
          exact ⟨rfl, HB2.out⟩
        all_goals
          cases hv : notesB l m with
          | false =>
            have HV := Lib.hid hv
            clear hv
            go_wp2_with fail
            refine (Sing_err l p m cap _ HC.out (by omega) HV.out).mono ?_
            rintro e w1 ⟨q, cq, rfl, _, hb1⟩
            have HB1 := Lib.hid hb1
            clear hb1
            go_wp2_with fail
            refine (notes_any l p m cap _ (HC.out.mono HB1.out) (by omega)).mono ?_
            rintro e w2 ⟨rfl, hb2⟩
            rw [HV.out]
            have HB2 := Lib.hid (HB1.out.trans (hb2.mono HB1.out.size))
            clear hb2
            go_wp2_with fail
            refine (known_any _ (HT.out.later HB2.out)).mono ?_
            rintro e w3 ⟨rfl, hb3⟩
            have HB3 := Lib.hid (HB2.out.trans (hb3.mono HB2.out.size))
            clear hb3
            go_wp2_with fail
            go_ret
            exact ⟨rfl, HB3.out⟩
          | true =>
            have HV := Lib.hid hv
            clear hv
            have HLN := Lib.hid (song_le HV.out (Nat.le_refl m))
            go_wp2_with fail
            refine (Sing_ok l p m cap _ HC.out HV.out).mono ?_
            rintro e w1 ⟨q, cq, rfl, hi1, hb1⟩
            have HB1 := Lib.hid hb1
            have HI1 := Lib.hid hi1
            clear hb1 hi1
            go_wp2_with fail
            refine (notes_any l p m cap _ (HC.out.mono HB1.out) (by omega)).mono ?_
            rintro e w2 ⟨rfl, hb2⟩
            rw [HV.out]
            have HB2 := Lib.hid (HB1.out.trans (hb2.mono HB1.out.size))
            have HI2 := Lib.hid (HI1.out.mono hb2)
            clear hb2 HI1
            go_wp2_with fail
            refine (refsing_any l p m cap _ (HC.out.mono HB2.out) HV.out).mono ?_
            rintro e w3 ⟨q2, cq2, rfl, hj3, hb3⟩
            have HB3 := Lib.hid (HB2.out.trans (hb3.mono HB2.out.size))
            have HI3 := Lib.hid (HI2.out.mono hb3)
            have HJ3 := Lib.hid hj3
            clear hb3 hj3 HI2
            go_wp2_with fail
            refine (same_any (song l m).length (song l m).length _ _ q q2 cq cq2 _ HI3.out HJ3.out (by have := HLN.out; omega) (by have := HLN.out; omega)).mono ?_
            rintro e w4 ⟨rfl, hb4⟩
            rw [sameB_of fun _ _ => rfl]
            have HB4 := Lib.hid (HB3.out.trans (hb4.mono HB3.out.size))
            clear hb4
            go_wp2_with fail
            refine (known_any _ (HT.out.later HB4.out)).mono ?_
            rintro e w5 ⟨rfl, hb5⟩
            have HB5 := Lib.hid (HB4.out.trans (hb5.mono HB4.out.size))
            clear hb5
            go_wp2_with fail
            go_ret
            exact ⟨rfl, HB5.out⟩
      · have h110' : (110 : Int) < m := by omega
        go_wp2_with fail
        refine (known_any _ HT.out).mono ?_
        rintro e w2 ⟨rfl, hb2⟩
        have HB2 := Lib.hid hb2
        clear hb2
        go_wp2_with fail
        go_ret
        exact ⟨rfl, HB2.out⟩
end Go.Proofs.YtijonghofghocaaDoor
