/-
  The walks of PitchFrequencies and of PitchCents: each answers true. Condition: the table of semitones lies as the program's text lays it.
-/
import Derived.Test.YtijonghofghocaaDoorKnown
namespace Go.Proofs.YtijonghofghocaaDoor
open Go.RowKit

theorem Freq_in {n : Nat} (h : n ≤ 12000) : Freq n = two (freq n) 0 := by
  have : inB (n : Int) 0 12000 = true := inB_iff.2 ⟨by omega, by omega⟩
  simp [Freq, this]
theorem Freq_out {c : Int} (h : c < 0 ∨ 12000 < c) : Freq c = two 0 2 := by
  have : inB c 0 12000 = false := by
    cases e : inB c 0 12000 with
    | false => rfl
    | true => have := inB_iff.1 e; omega
  simp [Freq, this]
theorem Cents_back {n : Nat} (h : n ≤ 12000) : CentsE (freq n) = two n 0 := by
  have h1 := (freq_bd h).1
  rw [CentsE, if_neg (by omega)]
  congr 1
  rw [centsTo_place (i := n + 1) (by omega) (fun _ => ?_) (fun _ => freq_step n)]
  · omega
  · exact Int.le_refl _
theorem true_bool {b : Bool} (h : b = true) : Ending.returned (.bool b) = .returned (.bool true) := by rw [h]

set_option maxRecDepth 100000 in
set_option maxHeartbeats 4000000 in
theorem frequencies_law (c : Int) (w : World) (ht : Table w) : Calls Tryd.prog 13 #[.int .i64 c] w fun e w' => e = .returned (.bool true) ∧ Below w.heap.size w w' := by
  have HT := Lib.hid ht
  by_cases h : c < 0 ∨ 12000 < c
  · have HE := Lib.hid (Freq_out h)
    have hcase : c < 0 ∨ (0 ≤ c ∧ 12000 < c) := by omega
    clear h ht
    rcases hcase with g | ⟨g, g2⟩
    all_goals
      go_enter Tryd.func13, Tryd.ntmps13
      go_wp2_with fail
      refine (Frequency_any c _ HT.out).mono ?_
      rintro e w1 ⟨rfl, hb1⟩
      rw [HE.out]
      unfold two
      have HB1 := Lib.hid hb1
      clear hb1
      go_wp2_with fail
      refine (known_any _ (HT.out.later HB1.out)).mono ?_
      rintro e w2 ⟨rfl, hb2⟩
      have HB2 := Lib.hid (HB1.out.trans (hb2.mono HB1.out.size))
      clear hb2
      go_wp2_with fail
      go_ret
      exact ⟨rfl, HB2.out⟩
  · obtain ⟨n, rfl⟩ : ∃ n : Nat, c = n := ⟨c.toNat, by omega⟩
    have hn : n ≤ 12000 := by omega
    have hn' : (n : Int) ≤ 12000 := by omega
    have HE := Lib.hid (Freq_in hn)
    have HC := Lib.hid (Cents_back hn)
    have fb := freq_bd hn
    have HN := Lib.hid hn
    clear h ht
    go_enter Tryd.func13, Tryd.ntmps13
    go_wp2_with fail
    refine (Frequency_any n _ HT.out).mono ?_
    rintro e w1 ⟨rfl, hb1⟩
    rw [HE.out]
    unfold two
    have HB1 := Lib.hid hb1
    clear hb1
    go_wp2_with fail
    refine (reffreq_any n _ HN.out (HT.out.later HB1.out)).mono ?_
    rintro e w2 ⟨rfl, hb2⟩
    have HB2 := Lib.hid (HB1.out.trans (hb2.mono HB1.out.size))
    clear hb2 HB1
    have fs := freq_step n
    by_cases g1 : n < 12000
    · have g1' : (n : Int) < 12000 := by omega
      have HE1 := Lib.hid (show Freq ((n : Int) + 1) = two (freq (n + 1)) 0 from Freq_in (n := n + 1) (by omega))
      go_wp2_with fail
      refine (Frequency_any ((n : Int) + 1) _ (HT.out.later HB2.out)).mono ?_
      rintro e w3 ⟨rfl, hb3⟩
      rw [HE1.out]
      unfold two
      have HB3 := Lib.hid (HB2.out.trans (hb3.mono HB2.out.size))
      clear hb3
      by_cases g2 : n + 1200 ≤ 12000
      · have g2' : (n : Int) + 1200 ≤ 12000 := by omega
        have HE2 := Lib.hid (show Freq ((n : Int) + 1200) = two (freq (n + 1200)) 0 from Freq_in (n := n + 1200) g2)
        have fo := freq_octave n
        have fb2 := freq_bd g2
        go_wp2_with fail
        refine (Frequency_any ((n : Int) + 1200) _ (HT.out.later HB3.out)).mono ?_
        rintro e w4 ⟨rfl, hb4⟩
        rw [HE2.out]
        unfold two
        have HB4 := Lib.hid (HB3.out.trans (hb4.mono HB3.out.size))
        clear hb4
        go_wp2_with fail
        refine (Cents_any (freq n) _ (HT.out.later HB4.out)).mono ?_
        rintro e w5 ⟨rfl, hb5⟩
        rw [HC.out]
        unfold two
        have HB5 := Lib.hid (HB4.out.trans (hb5.mono HB4.out.size))
        clear hb5
        go_wp2_with fail
        refine (known_any _ (HT.out.later HB5.out)).mono ?_
        rintro e w6 ⟨rfl, hb6⟩
        have HB6 := Lib.hid (HB5.out.trans (hb6.mono HB5.out.size))
        clear hb6
        go_wp2_with fail
        go_ret
        exact ⟨rfl, HB6.out⟩
      · have g2' : 12000 < (n : Int) + 1200 := by omega
        go_wp2_with fail
        refine (Cents_any (freq n) _ (HT.out.later HB3.out)).mono ?_
        rintro e w5 ⟨rfl, hb5⟩
        rw [HC.out]
        unfold two
        have HB5 := Lib.hid (HB3.out.trans (hb5.mono HB3.out.size))
        clear hb5
        go_wp2_with fail
        refine (known_any _ (HT.out.later HB5.out)).mono ?_
        rintro e w6 ⟨rfl, hb6⟩
        have HB6 := Lib.hid (HB5.out.trans (hb6.mono HB5.out.size))
        clear hb6
        go_wp2_with fail
        go_ret
        exact ⟨rfl, HB6.out⟩
    · have g1' : (12000 : Int) ≤ (n : Int) := by omega
      have g2' : 12000 < (n : Int) + 1200 := by omega
      go_wp2_with fail
      refine (Cents_any (freq n) _ (HT.out.later HB2.out)).mono ?_
      rintro e w5 ⟨rfl, hb5⟩
      rw [HC.out]
      unfold two
      have HB5 := Lib.hid (HB2.out.trans (hb5.mono HB2.out.size))
      clear hb5
      go_wp2_with fail
      refine (known_any _ (HT.out.later HB5.out)).mono ?_
      rintro e w6 ⟨rfl, hb6⟩
      have HB6 := Lib.hid (HB5.out.trans (hb6.mono HB5.out.size))
      clear hb6
      go_wp2_with fail
      go_ret
      exact ⟨rfl, HB6.out⟩

set_option maxRecDepth 100000 in
set_option maxHeartbeats 4000000 in
theorem cents_law (F : Int) (w : World) (ht : Table w) : Calls Tryd.prog 14 #[.int .i64 F] w fun e w' => e = .returned (.bool true) ∧ Below w.heap.size w w' := by
  have HT := Lib.hid ht
  clear ht
  by_cases h : F < 27500
  · have HE := Lib.hid (show CentsE F = two 0 5 by rw [CentsE, if_pos h])
    go_enter Tryd.func14, Tryd.ntmps14
    go_wp2_with fail
    refine (Cents_any F _ HT.out).mono ?_
    rintro e w1 ⟨rfl, hb1⟩
    rw [HE.out]
    unfold two
    have HB1 := Lib.hid hb1
    clear hb1
    go_wp2_with fail
    refine (known_any _ (HT.out.later HB1.out)).mono ?_
    rintro e w2 ⟨rfl, hb2⟩
    have HB2 := Lib.hid (HB1.out.trans (hb2.mono HB1.out.size))
    clear hb2
    go_wp2_with fail
    go_ret
    exact ⟨rfl, HB2.out⟩
  · have HE := Lib.hid (show CentsE F = two (centsTo F 12001) 0 by rw [CentsE, if_neg h])
    have h' : 27500 ≤ F := by omega
    go_enter Tryd.func14, Tryd.ntmps14
    go_wp2_with fail
    refine (Cents_any F _ HT.out).mono ?_
    rintro e w1 ⟨rfl, hb1⟩
    rw [HE.out]
    unfold two
    have HB1 := Lib.hid hb1
    clear hb1
    go_wp2_with fail
    refine (refcents_any F _ (HT.out.later HB1.out)).mono ?_
    rintro e w2 ⟨rfl, hb2⟩
    have HB2 := Lib.hid (HB1.out.trans (hb2.mono HB1.out.size))
    clear hb2
    go_wp2_with fail
    refine (known_any _ (HT.out.later HB2.out)).mono ?_
    rintro e w3 ⟨rfl, hb3⟩
    have HB3 := Lib.hid (HB2.out.trans (hb3.mono HB2.out.size))
    clear hb3
    go_wp2_with fail
    go_ret
    exact ⟨rfl, HB3.out⟩
end Go.Proofs.YtijonghofghocaaDoor
