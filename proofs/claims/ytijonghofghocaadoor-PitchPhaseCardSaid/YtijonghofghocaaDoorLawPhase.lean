/-
  The walk of PitchPhase: it answers true. Conditions: the table of semitones lies as the program's text lays it; the slice reads as its elements.
-/
import Derived.Test.YtijonghofghocaaDoorKnown
namespace Go.Proofs.YtijonghofghocaaDoor
open Go.RowKit

theorem count_mono {rate : Int} {f : Nat → Int} {k : Nat} : ∀ {n : Nat}, k ≤ n → count rate f k ≤ count rate f n
  | 0, h => by
    have : k = 0 := by omega
    rw [this]; exact Nat.le_refl _
  | n + 1, h => by
    by_cases e : k = n + 1
    · rw [e]; exact Nat.le_refl _
    · have := count_mono (rate := rate) (f := f) (show k ≤ n by omega)
      cases q : pulse rate f n with
      | true => rw [count_yes q]; omega
      | false => rw [count_no q]; exact this
/-- The pulse at k bears the number of those before it. -/
theorem place_hit {rate : Int} {f : Nat → Int} {k : Nat} (hp : pulse rate f k = true) : ∀ {n : Nat}, k < n → place rate f n (count rate f k) = k
  | 0, h => by omega
  | n + 1, h => by
    by_cases e : k = n
    · subst e
      rw [place_yes hp, if_pos rfl]
    · have ih := place_hit hp (show k < n by omega)
      cases q : pulse rate f n with
      | true =>
        have h1 := count_mono (rate := rate) (f := f) (show k + 1 ≤ n by omega)
        rw [count_yes hp] at h1
        rw [place_yes q, if_neg (by omega), ih]
      | false => rw [place_no q, ih]
/-- A pulse whose number is at least that of those before k lies at k or behind it. -/
theorem place_late {rate : Int} {f : Nat → Int} {k j : Nat} (hk : count rate f k ≤ j) : ∀ {n : Nat}, k ≤ n → j < count rate f n → (k : Int) ≤ place rate f n j
  | 0, _, h => by simp [count] at h
  | n + 1, hn, h => by
    cases q : pulse rate f n with
    | true =>
      rw [count_yes q] at h
      have hne : k ≠ n + 1 := fun e => by rw [e, count_yes q] at hk; omega
      rw [place_yes q]
      by_cases e : j = count rate f n
      · rw [if_pos e]; omega
      · rw [if_neg e]
        exact place_late hk (by omega) (by omega)
    | false =>
      rw [count_no q] at h
      have hne : k ≠ n + 1 := fun e => by rw [e, count_no q] at hk; omega
      rw [place_no q]
      exact place_late hk (by omega) h
theorem place_miss {rate : Int} {f : Nat → Int} {k n : Nat} (hp : pulse rate f k = false) (hk : k < n) (h : count rate f k < count rate f n) : (k : Int) < place rate f n (count rate f k) := by
  have := place_late (rate := rate) (f := f) (k := k + 1) (j := count rate f k) (by rw [count_no hp]; exact Nat.le_refl _) (show k + 1 ≤ n by omega) h
  omega
theorem voice_parts {rate : Int} {n : Nat} {f : Nat → Int} (h : voiceB rate n f = true) : (1 ≤ rate ∧ rate ≤ 192000) ∧ n ≤ 400000 ∧ ∀ i, i < n → 0 ≤ f i ∧ f i ≤ 500 * rate := by
  simp only [voiceB, Bool.and_eq_true, decide_eq_true_eq, allTo_iff, inB_iff] at h
  exact ⟨h.1.1, h.1.2, h.2⟩
theorem voice_times {rate by' : Int} {n : Nat} {f : Nat → Int} (h : voiceB rate n f = true) (h1 : 1 ≤ by') (h2 : rate * by' ≤ 192000) : voiceB (rate * by') n (fun i => by' * f i) = true := by
  obtain ⟨a, b, c⟩ := voice_parts h
  simp only [voiceB, Bool.and_eq_true, decide_eq_true_eq, allTo_iff, inB_iff]
  refine ⟨⟨⟨?_, h2⟩, b⟩, fun i hi => ?_⟩
  · have := Int.mul_le_mul a.1 h1 (by omega) (by omega)
    omega
  · have h3 := c i hi
    refine ⟨Int.mul_nonneg (by omega) h3.1, ?_⟩
    have h4 := Int.mul_le_mul_of_nonneg_left h3.2 (show 0 ≤ by' by omega)
    have e : by' * (500 * rate) = 500 * (rate * by') := by rw [Int.mul_comm rate by', ← Int.mul_assoc, Int.mul_comm by' 500, Int.mul_assoc]
    omega
def timesL (b : Int) (f : Nat → Int) (k : Nat) : List Int := (List.range k).map (fun i => b * f i)
theorem timesL_succ (b : Int) (f : Nat → Int) (k : Nat) : timesL b f (k + 1) = timesL b f k ++ [b * f k] := by simp [timesL, List.range_succ]
theorem timesL_length (b : Int) (f : Nat → Int) (k : Nat) : (timesL b f k).length = k := by simp [timesL]
theorem timesL_get {b : Int} {f : Nat → Int} {k i : Nat} (h : i < k) : (timesL b f k).getD i 0 = b * f i := by simp [timesL, h]

set_option maxRecDepth 100000 in
set_option maxHeartbeats 8000000 in
theorem phase_main (rate : Int) (f : Nat → Int) (p : Option Addr) (n cap : Nat) (by' : Int) (w : World) (hn : n ≤ 500) (hv : voiceB rate n f = true) (h1 : 1 ≤ by') (h20 : by' ≤ 20) (hc : Ints w p n f) (ht : Table w) :
    Calls Tryd.prog 10 #[.int .i64 rate, .slice p n cap, .int .i64 by'] w fun e w' => e = .returned (.bool true) ∧ Below w.heap.size w w' := by
  have HT := Lib.hid ht
  have HC := Lib.hid hc
  have HV := Lib.hid hv
  have hn' : (n : Int) ≤ 500 := by omega
  obtain ⟨⟨r1, r2⟩, _, hf⟩ := voice_parts hv
  have HF := Lib.hid hf
  have hmul : 1 ≤ rate * by' ∧ rate * by' ≤ 3840000 := by
    have ha := Int.mul_le_mul r1 h1 (by omega) (by omega)
    have hb := Int.mul_le_mul r2 h20 (by omega) (by omega)
    omega
  clear ht hc hv hf
  go_enter Tryd.func10, Tryd.ntmps10
  go_wp2_with fail
  refine (voice_any rate f p n cap _ (by omega) HC.out).mono ?_
  rintro e w1 ⟨rfl, hb1⟩
  rw [HV.out]
  have HB1 := Lib.hid hb1
  clear hb1
  go_wp2_with fail
  refine (Pulses_ok rate f p n cap _ HV.out (HC.out.mono HB1.out)).mono ?_
  rintro e w2 ⟨q, cq, rfl, hi, hb2⟩
  have HB2 := Lib.hid (HB1.out.trans (hb2.mono HB1.out.size))
  have HI := Lib.hid hi
  have HC2 := Lib.hid (HC.out.mono HB2.out)
  have hcn := count_le rate f n
  clear hb2 hi HB1
  go_wp2_with fail
  go_loopw [9, 10, 11] (fun s j i wr => ∃ k : Nat, k ≤ n ∧ i = .int .i64 k ∧ s = .int .i64 (sumTo f k) ∧ j = .int .i64 (count rate f k) ∧ wr = w2) (fun _ _ i _ => n - (intOf i).toNat)
  case atStart => exact ⟨0, Nat.zero_le _, rfl, rfl, rfl, rfl⟩
  case round =>
    obtain ⟨k, hk, rfl, rfl, rfl, rfl⟩ := hrel
    by_cases hlt : k < n
    · obtain ⟨b, off, rfl, hbs, hcell⟩ := HC2.out.at (by omega)
      have k0 := hcell k hlt
      have fk := HF.out k hlt
      have sb := sumTo_bd (f := f) (n := k) (M := 96000000) (fun i hi => by have := HF.out i (by omega); omega)
      have hkM : (k : Int) * 96000000 ≤ 500 * 96000000 := by omega
      have ck := count_le rate f k
      have cm := count_mono (rate := rate) (f := f) (show k ≤ n by omega)
      have hd := count_div (rate := rate) (f := f) (n := n) (k := k + 1) r1 HF.out (by omega)
      rw [show sumTo f (k + 1) = sumTo f k + f k from rfl] at hd
      clear hcell
      cases hp : pulse rate f k with
      | true =>
        have hct := count_yes hp
        have cm2 := count_mono (rate := rate) (f := f) (show k + 1 ≤ n by omega)
        rw [hct] at hd cm2
        obtain ⟨b2, off2, rfl, hbs2, hcell2⟩ := HI.out.at (by omega)
        have k1 := hcell2 (count rate f k) (by omega)
        rw [place_hit hp hlt] at k1
        have HCT := Lib.hid hct
        have hcl : (count rate f k : Int) < count rate f n := by omega
        have hd2 : (sumTo f k + f k) / (1000 * rate) = (count rate f k : Int) + 1 := by rw [hd]; omega
        clear hcell2 hct hd hp
        go_wp2_with fail
        go_roundw
        case rel => exact ⟨k + 1, by omega, by go_num, rfl, by rw [HCT.out]; go_num, by first | trivial | rfl⟩
        case measure => simp [intOf]; omega
      | false =>
        have hct := count_no hp
        rw [hct] at hd
        have HCT := Lib.hid hct
        by_cases hcl : count rate f k < count rate f n
        · obtain ⟨b2, off2, rfl, hbs2, hcell2⟩ := HI.out.at (by omega)
          have k1 := hcell2 (count rate f k) hcl
          have hm := place_miss hp hlt hcl
          have hne : (place rate f n (count rate f k) == (k : Int)) = false := by simp; omega
          have hcl' : (count rate f k : Int) < count rate f n := by omega
          clear hcell2 hct hp
          go_wp2_with fail
          go_roundw
          case rel => exact ⟨k + 1, by omega, by go_num, rfl, by rw [HCT.out], by first | trivial | rfl⟩
          case measure => simp [intOf]; omega
        · have hcl' : (count rate f n : Int) ≤ count rate f k := by omega
          clear hct hp
          go_wp2_with fail
          go_roundw
          case rel => exact ⟨k + 1, by omega, by go_num, rfl, by rw [HCT.out], by first | trivial | rfl⟩
          case measure => simp [intOf]; omega
    · have hle : n ≤ k := by omega
      obtain rfl : k = n := by omega
      obtain ⟨W2, rfl⟩ : ∃ W2 : World, W2 = wr := ⟨_, rfl⟩
      go_wp2_with fail
      go_loopw [12, 13] (fun v i w' => ∃ j : Nat, j ≤ k ∧ i = .int .i64 j ∧ GrowL w' W2.heap.size v (timesL by' f j) ∧ Below W2.heap.size W2 w') (fun _ i _ => k - (intOf i).toNat)
      case atStart => exact ⟨0, Nat.zero_le _, rfl, GrowL.none _ _, Below.refl _ _⟩
      case round =>
        obtain ⟨j, hj, rfl, hown, hb⟩ := hrel
        have HO := Lib.hid hown
        have HB := Lib.hid hb
        have hsz := hb.size
        clear hb
        by_cases hlt : j < k
        · obtain ⟨b, off, rfl, hbs, hcell⟩ := HC2.out.at (by omega)
          have k0 : wr.cell? ⟨b, off + j, none⟩ = some (.int .i64 (f j)) := by rw [HB.out.cell hbs]; exact hcell j hlt
          have fj := HF.out j hlt
          have mb : 0 ≤ by' * f j ∧ by' * f j ≤ 20 * 96000000 := ⟨Int.mul_nonneg (by omega) fj.1, Int.mul_le_mul h20 (by omega) fj.1 (by omega)⟩
          clear hown hcell
          go_wp2_with (at_builtin; refine append_list Tryd.underlying34 info3 _ rfl _ _ rfl W2.heap.size _ (timesL by' f j) (by' * f j) rfl (HO.out.later (newb _ _)) ⟨wr.heap.size, 0, none⟩ rfl ?c1 ?c2 ?c3 ?c4)
          case c1 => simp
          case c2 => rw [timesL_length]; omega
          case c3 => first | omega | (simp; omega)
          case c4 =>
            intro v' w5 hown5 hgrow
            have HO5 := Lib.hid hown5
            have HB5 := Lib.hid (below_grownL (HB.out.trans ((newb wr _).mono HB.out.size)) (HO.out.later (newb _ _)) hgrow (by simp; omega) (Nat.le_refl _))
            clear hown5 hgrow
            go_wp2_with fail
            go_roundw
            case rel => exact ⟨j + 1, by omega, by go_num, by rw [timesL_succ]; exact HO5.out, HB5.out⟩
            case measure => simp [intOf]; omega
        · have hle2 : k ≤ j := by omega
          obtain rfl : j = k := by omega
          obtain ⟨q3, c3, hv3, hI3⟩ := hown.ints
          rw [timesL_length] at hv3 hI3
          subst hv3
          have HI3 := Lib.hid (hI3.congr (g := fun i => by' * f i) fun i hi => timesL_get hi)
          have HIW := Lib.hid (HI.out.mono HB.out)
          have HBW := Lib.hid (HB2.out.trans (HB.out.mono HB2.out.size))
          clear hown hI3
          by_cases hr : rate * by' ≤ 192000
          · have hq := Pulses_ok (rate * by') (fun i => by' * f i) q3 j c3 wr (voice_times HV.out h1 hr) HI3.out
            rw [count_times h1] at hq
            have HQ := Lib.hid hq
            clear hq
            go_wp2_with fail
            refine HQ.out.mono ?_
            rintro e w6 ⟨q6, cq6, rfl, hi6, hb6⟩
            have HI6 := Lib.hid (hi6.congr (g := place rate f j) fun i _ => place_times h1 j i)
            have HIW6 := Lib.hid (HIW.out.mono hb6)
            have HB6 := Lib.hid (HBW.out.trans (hb6.mono HBW.out.size))
            clear hi6 hb6
            go_wp2_with fail
            refine (same_any (count rate f j) (count rate f j) _ _ q q6 cq cq6 _ HIW6.out HI6.out (by omega) (by omega)).mono ?_
            rintro e w7 ⟨rfl, hb7⟩
            rw [sameB_of fun _ _ => rfl]
            have HB7 := Lib.hid (HB6.out.trans (hb7.mono HB6.out.size))
            clear hb7
            go_wp2_with fail
            refine (known_any _ (HT.out.later HB7.out)).mono ?_
            rintro e wk ⟨rfl, hbk⟩
            have HBK := Lib.hid (HB7.out.trans (hbk.mono HB7.out.size))
            clear hbk
            go_wp2_with fail
            go_ret
            exact ⟨rfl, HBK.out⟩
          · have hr' : 192000 < rate * by' := by omega
            go_wp2_with fail
            refine (known_any _ (HT.out.later HBW.out)).mono ?_
            rintro e wk ⟨rfl, hbk⟩
            have HBK := Lib.hid (HBW.out.trans (hbk.mono HBW.out.size))
            clear hbk
            go_wp2_with fail
            go_ret
            exact ⟨rfl, HBK.out⟩

set_option maxRecDepth 100000 in
set_option maxHeartbeats 4000000 in
theorem phase_law (rate : Int) (f : Nat → Int) (p : Option Addr) (n cap : Nat) (by' : Int) (w : World) (hn : n ≤ 9223372036854775807) (hc : Ints w p n f) (ht : Table w) :
    Calls Tryd.prog 10 #[.int .i64 rate, .slice p n cap, .int .i64 by'] w fun e w' => e = .returned (.bool true) ∧ Below w.heap.size w w' := by
  by_cases h500 : n ≤ 500
  · cases hv : voiceB rate n f with
    | false =>
      have HT := Lib.hid ht
      have HC := Lib.hid hc
      have HV := Lib.hid hv
      have h500' : (n : Int) ≤ 500 := by omega
      clear ht hc hv
      go_enter Tryd.func10, Tryd.ntmps10
      go_wp2_with fail
      refine (voice_any rate f p n cap _ (by omega) HC.out).mono ?_
      rintro e w1 ⟨rfl, hb1⟩
      rw [HV.out]
      have HB1 := Lib.hid hb1
      clear hb1
      go_wp2_with fail
      refine (known_any _ (HT.out.later HB1.out)).mono ?_
      rintro e wk ⟨rfl, hbk⟩
      have HBK := Lib.hid (HB1.out.trans (hbk.mono HB1.out.size))
      clear hbk
      go_wp2_with fail
      go_ret
      exact ⟨rfl, HBK.out⟩
    | true =>
      by_cases h1 : 1 ≤ by'
      · by_cases h20 : by' ≤ 20
        · exact phase_main rate f p n cap by' w h500 hv h1 h20 hc ht
        · have HT := Lib.hid ht
          have HC := Lib.hid hc
          have HV := Lib.hid hv
          have h500' : (n : Int) ≤ 500 := by omega
          have h20' : 20 < by' := by omega
          clear ht hc hv
          go_enter Tryd.func10, Tryd.ntmps10
          go_wp2_with fail
          refine (voice_any rate f p n cap _ (by omega) HC.out).mono ?_
          rintro e w1 ⟨rfl, hb1⟩
          rw [HV.out]
          have HB1 := Lib.hid hb1
          clear hb1
          go_wp2_with fail
          refine (known_any _ (HT.out.later HB1.out)).mono ?_
          rintro e wk ⟨rfl, hbk⟩
          have HBK := Lib.hid (HB1.out.trans (hbk.mono HB1.out.size))
          clear hbk
          go_wp2_with fail
          go_ret
          exact ⟨rfl, HBK.out⟩
      · have HT := Lib.hid ht
        have HC := Lib.hid hc
        have HV := Lib.hid hv
        have h500' : (n : Int) ≤ 500 := by omega
        have h1' : by' < 1 := by omega
        clear ht hc hv
        go_enter Tryd.func10, Tryd.ntmps10
        go_wp2_with fail
        refine (voice_any rate f p n cap _ (by omega) HC.out).mono ?_
        rintro e w1 ⟨rfl, hb1⟩
        rw [HV.out]
        have HB1 := Lib.hid hb1
        clear hb1
        go_wp2_with fail
        refine (known_any _ (HT.out.later HB1.out)).mono ?_
        rintro e wk ⟨rfl, hbk⟩
        have HBK := Lib.hid (HB1.out.trans (hbk.mono HB1.out.size))
        clear hbk
        go_wp2_with fail
        go_ret
        exact ⟨rfl, HBK.out⟩
  · have HT := Lib.hid ht
    have h500' : (500 : Int) < n := by omega
    clear ht
    go_enter Tryd.func10, Tryd.ntmps10
    go_wp2_with fail
    refine (known_any _ HT.out).mono ?_
    rintro e wk ⟨rfl, hbk⟩
    have HBK := Lib.hid hbk
    clear hbk
    go_wp2_with fail
    go_ret
    exact ⟨rfl, HBK.out⟩
end Go.Proofs.YtijonghofghocaaDoor
