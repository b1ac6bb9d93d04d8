/-
  The walks of pitch.frequency, pitch.Frequency, pitch.Cents, declaimref05.Frequency and declaimref05.Cents. Condition: the table of semitones lies where its initialiser lays it.
-/
import Derived.Test.YtijonghofghocaaDoorFreq
import Derived.Test.YtijonghofghocaaDoorArgs
import Derived.Test.YtijonghofghocaaDoorSearch
import Derived.Test.YtijonghofghocaaDoorVal2
namespace Go.Proofs.YtijonghofghocaaDoor
open Go.RowKit

/-- The table of semitones, in block 0. -/
def Table (w : World) : Prop := ∀ i, i < 13 → w.cell? ⟨0, i, none⟩ = some (.int .i64 (semi i))
theorem Table.later {w w' : World} (h : Table w) (hb : Below w.heap.size w w') : Table w' := fun i hi => keepc hb (h i hi)

theorem pow2_eq : ∀ k, (2 : Int) ^ k = pow2 k
  | 0 => rfl
  | k + 1 => by rw [Int.pow_succ, pow2_eq k, Int.mul_comm]; rfl
theorem pow2_wrap (k : Nat) (h : k < 11) : wrap64 ((2 : Int) ^ k) = pow2 k := by
  have := pow2_bd k h
  rw [pow2_eq]
  exact IntWalk.wrap64_in _ ⟨by omega, by omega⟩

set_option maxRecDepth 100000 in
set_option maxHeartbeats 2000000 in
theorem frequency_any (c : Nat) (w : World) (hc : c ≤ 12000) (ht : Table w) :
    Calls Tryd.prog 66 #[.int .i64 c] w fun e w' => e = .returned (.int .i64 (freq c)) ∧ Below w.heap.size w w' := by
  obtain ⟨k, hk⟩ : ∃ k, k = c / 1200 := ⟨_, rfl⟩
  obtain ⟨s, hs⟩ : ∃ s, s = c % 1200 / 100 := ⟨_, rfl⟩
  obtain ⟨f, hf⟩ : ∃ f, f = c % 100 := ⟨_, rfl⟩
  have HF := Lib.hid (show freq c = rnd (mix s f * pow2 k) 104857600 by rw [hk, hs, hf]; rfl)
  have hs12 : s < 12 := by omega
  have hf100 : f < 100 := by omega
  have hk10 : k ≤ 10 := by omega
  have e1 : (c : Int) / 1200 = k := by omega
  have e2 : (c : Int) % 1200 / 100 = s := by omega
  have e3 : (c : Int) % 100 = f := by omega
  have HT := Lib.hid ht
  have t0 : w.cell? ⟨0, s, none⟩ = some (.int .i64 (semi s)) := ht s (by omega)
  have t1 : w.cell? ⟨0, s + 1, none⟩ = some (.int .i64 (semi (s + 1))) := ht (s + 1) (by omega)
  obtain ⟨b1, b2, b3⟩ := mix_bd hs12 hf100
  clear ht hk hs hf
  go_enter Tryd.func66, Tryd.ntmps66
  go_wp2_with fail
  rw [e2, e3]
  clear e1 e2 e3
  have hk0 : (0 : Int) ≤ k := by omega
  have hk64 : (k : Int) < 64 := by omega
  have hp := pow2_bd k (by omega)
  refine wp_region_quiet_lit (by kernel_rfl) (by kernel_rfl) ?_
  repeat (go_big_quiet_step (fail))
  have hm := mixp_bd hs12 hf100 (show k < 11 by omega)
  rw [pow2_wrap k (by omega), show wrap64 (27500 * (semi s * (100 - (f : Int)) + semi (s + 1) * (f : Int)) * pow2 k) = mix s f * pow2 k from IntWalk.wrap64_in _ ⟨by unfold mix at hm; omega, by unfold mix at hm; omega⟩]
  repeat (go_big_quiet_step ((go_at_call 70; exact Calls.quiet_of_same (rounded_q _ _ _ (by omega) (by omega) (by omega) (by omega)))))
  refine wpQuiet_nil ?_
  rintro _ ⟨nq, rfl⟩
  go_wp2_with fail
  go_ret
  exact ⟨ret_int HF.out.symm, drewN_below _ _⟩

set_option maxRecDepth 100000 in
set_option maxHeartbeats 2000000 in
theorem cents1_any (F : Int) (c : Nat) (B : Nat) (w : World) (hc : c ≤ 12000) (ht : Table w) (hB : w.cell? ⟨B, 0, none⟩ = some (.int .i64 F)) :
    Calls Tryd.prog 68 #[.int .i64 c, .pointer (some ⟨B, 0, none⟩)] w fun e w' => e = .returned (.bool (decide (F < freq c))) ∧ Below w.heap.size w w' := by
  have hq := later_cell hB
  go_enter Tryd.func68, Tryd.ntmps68
  go_wp2_with fail
  refine wp_region_later (by kernel_rfl) (by kernel_rfl) ?_
  repeat (go_big_quiet_step ((go_at_call 66; exact Calls.later_of (frequency_any c _ hc (ht.later (Later.below _))))))
  refine wpQuiet_nil ?_
  rintro w1 ⟨x, hx⟩
  have hb : Below w.heap.size w w1 := hx ▸ x.below
  clear hx x hq
  go_wp2_with fail
  go_ret
  exact ⟨ret_bool rfl, hb⟩

def Freq (c : Int) : Ending := if inB c 0 12000 = true then two (freq c.toNat) 0 else two 0 2

set_option maxRecDepth 100000 in
set_option maxHeartbeats 2000000 in
theorem Frequency_any (c : Int) (w : World) (ht : Table w) : Calls Tryd.prog 40 #[.int .i64 c] w fun e w' => e = Freq c ∧ Below w.heap.size w w' := by
  rcases Bool.eq_false_or_eq_true (inB c 0 12000) with h1 | h1
  · have HE := Lib.hid (show Freq c = two (freq c.toNat) 0 by simp [Freq, h1])
    obtain ⟨h2, h3⟩ := inB_iff.1 h1
    obtain ⟨n, hn⟩ : ∃ n : Nat, c = n := ⟨c.toNat, by omega⟩
    subst hn
    have hn' : n ≤ 12000 := by omega
    go_enter Tryd.func40, Tryd.ntmps40
    go_wp2_with (first | (go_at_call 48; refine (within_any _ _ _ _).mono ?_; rintro e w' ⟨rfl, rfl⟩) | (go_at_call 66; refine (frequency_any n _ hn' ht).mono ?_; rintro e w1 ⟨rfl, hb⟩))
    go_ret2
    exact ⟨(two_eq (by simp) rfl).trans HE.out.symm, hb⟩
  · have HE := Lib.hid (show Freq c = two 0 2 by simp [Freq, h1])
    go_enter Tryd.func40, Tryd.ntmps40
    go_wp2_with (go_at_call 48; refine (within_any _ _ _ _).mono ?_; rintro e w' ⟨rfl, rfl⟩)
    go_ret2
    exact ⟨(two_eq rfl rfl).trans HE.out.symm, Below.refl _ _⟩

def CentsE (F : Int) : Ending := if F < 27500 then two 0 5 else two (centsTo F 12001) 0

set_option maxRecDepth 100000 in
set_option maxHeartbeats 2000000 in
theorem Cents_any (F : Int) (w : World) (ht : Table w) : Calls Tryd.prog 42 #[.int .i64 F] w fun e w' => e = CentsE F ∧ Below w.heap.size w w' := by
  go_enter Tryd.func42, Tryd.ntmps42
  go_wp2_with fail
  refine (search_68 (fun i => decide (F < freq i)) 12001 ⟨w.heap.size, 0, none⟩ _ (by omega) (fun i hi w' hw' => cents1_any F i w.heap.size w' (by omega) ((ht.later (newb _ _)).later hw') (keepc hw' (by simp)))).mono ?_
  rintro e w1 ⟨i, hi, rfl, h1, h2, hb⟩
  simp only [decide_eq_false_iff_not, decide_eq_true_eq] at h1 h2
  have HB := Lib.hid ((newb w _).trans (hb.mono (by simp)))
  clear hb
  by_cases h0 : i = 0
  · have HE := Lib.hid (show CentsE F = two 0 5 by
      have := h2 (by omega)
      rw [h0, freq_zero] at this
      simp [CentsE, this])
    subst h0
    clear h1 h2
    go_wp2_with fail
    go_ret2
    exact ⟨(two_eq rfl rfl).trans HE.out.symm, HB.out⟩
  · have HE := Lib.hid (show CentsE F = two ((i : Int) - 1) 0 by
      have h3 := h1 (by omega)
      have h4 := (freq_bd (c := i - 1) (by omega)).1
      rw [CentsE, if_neg (by omega), centsTo_place hi (fun h => by have := h1 h; omega) h2])
    clear h1 h2
    have h5 : ((i : Int) == 0) = false := by simp; omega
    have h6 : (1 : Int) ≤ i := by omega
    go_wp2_with fail
    go_ret2
    exact ⟨(two_eq rfl rfl).trans HE.out.symm, HB.out⟩

set_option maxRecDepth 100000 in
set_option maxHeartbeats 2000000 in
theorem reffreq_any (c : Nat) (w : World) (hc : c ≤ 12000) (ht : Table w) :
    Calls Tryd.prog 41 #[.int .i64 c] w fun e w' => e = .returned (.int .i64 (freq c)) ∧ Below w.heap.size w w' := by
  obtain ⟨k, hk⟩ : ∃ k, k = c / 1200 := ⟨_, rfl⟩
  obtain ⟨s, hs⟩ : ∃ s, s = c % 1200 / 100 := ⟨_, rfl⟩
  obtain ⟨f, hf⟩ : ∃ f, f = c % 100 := ⟨_, rfl⟩
  have HF := Lib.hid (show freq c = rnd (mix s f * pow2 k) 104857600 by rw [hk, hs, hf]; rfl)
  have hs12 : s < 12 := by omega
  have hf100 : f < 100 := by omega
  have hk10 : k ≤ 10 := by omega
  have e1 : (c : Int) / 1200 = k := by omega
  have e2 : ((c : Int) - 1200 * k) / 100 = s := by omega
  have e3 : (c : Int) - 1200 * k - 100 * s = f := by omega
  have hm := mixp_bd hs12 hf100 (show k < 11 by omega)
  have t0 : w.cell? ⟨0, s, none⟩ = some (.int .i64 (semi s)) := ht s (by omega)
  have t1 : w.cell? ⟨0, s + 1, none⟩ = some (.int .i64 (semi (s + 1))) := ht (s + 1) (by omega)
  obtain ⟨b1, b2, b3⟩ := mix_bd hs12 hf100
  clear ht hk hs hf
  go_enter Tryd.func41, Tryd.ntmps41
  go_wp2_with fail
  try rw [e2]
  try rw [e3]
  clear e1 e2 e3
  go_quiet (fail)
  clear t0 t1
  obtain ⟨M, hM⟩ : ∃ M, M = mix s f := ⟨_, rfl⟩
  have hM1 : 27500 * (semi s * (100 - (f : Int)) + semi (s + 1) * (f : Int)) = M := by rw [hM]; rfl
  have hM0 : 0 ≤ M := by omega
  have hM2 : M ≤ 5767168000000 := by omega
  rw [hM1]
  rw [← hM] at hm HF
  clear hM hM1 b1 b2 b3
  go_wp2_with fail
  go_loopw [6, 7] (fun v i wr => ∃ j : Nat, j ≤ k ∧ i = .int .i64 j ∧ v = .int .i64 (M * pow2 j) ∧ Below w.heap.size w wr) (fun _ i _ => k - (intOf i).toNat)
  case atStart => exact ⟨0, Nat.zero_le _, rfl, by simp [pow2], drewN_below _ _⟩
  case round =>
    obtain ⟨j, hj, rfl, rfl, hb⟩ := hrel
    have HB := Lib.hid hb
    clear hb
    by_cases hlt : j < k
    · have hp := pow2_bd j (by omega)
      have hq0 := Int.mul_nonneg hM0 (show 0 ≤ pow2 j by omega)
      have hq1 := Int.mul_le_mul hM2 hp.2 (by omega) (by omega)
      have HP := Lib.hid (show 2 * (M * pow2 j) = M * pow2 (j + 1) by show _ = M * (2 * pow2 j); grind)
      go_wp2_with fail
      go_roundw
      case rel => exact ⟨j + 1, by omega, by go_num, by rw [HP.out], HB.out⟩
      case measure => simp [intOf]; omega
    · have hle : k ≤ j := by omega
      have HJ := Lib.hid (show j = k by omega)
      obtain ⟨x, hx⟩ : ∃ x, x = M * pow2 j := ⟨_, rfl⟩
      have HX := Lib.hid (show x = M * pow2 k by rw [hx, HJ.out])
      have hx0 : 0 ≤ x ∧ x ≤ 5905580032000000 := by rw [HX.out]; exact hm
      rw [← hx]
      clear hx hm
      go_wp2_with (go_at_call 51; refine (divide_any _ _ _ (by omega) (by omega) (by omega) (by omega)).mono ?_; rintro e w' ⟨rfl, rfl⟩)
      go_ret
      exact ⟨ret_int (by rw [HF.out, HX.out]), HB.out⟩

set_option maxRecDepth 100000 in
set_option maxHeartbeats 2000000 in
theorem refcents_any (F : Int) (w : World) (ht : Table w) : Calls Tryd.prog 43 #[.int .i64 F] w fun e w' => e = .returned (.int .i64 (centsTo F 12001)) ∧ Below w.heap.size w w' := by
  go_enter Tryd.func43, Tryd.ntmps43
  go_wp2_with fail
  go_loopw [3, 4] (fun v i wr => ∃ k : Nat, k ≤ 12001 ∧ i = .int .i64 k ∧ v = .int .i64 (centsTo F k) ∧ Below w.heap.size w wr) (fun _ i _ => 12001 - (intOf i).toNat)
  case atStart => exact ⟨0, Nat.zero_le _, rfl, rfl, Below.refl _ _⟩
  case round =>
    obtain ⟨k, hk, rfl, rfl, hb⟩ := hrel
    have HB := Lib.hid hb
    clear hb
    by_cases hlt : k ≤ 12000
    · have htw := ht.later HB.out
      have HT := Lib.hid htw
      clear htw
      by_cases g : freq k ≤ F
      · have HG := Lib.hid (show centsTo F (k + 1) = k by simp [centsTo, g])
        go_wp2_with fail
        refine (reffreq_any k _ hlt HT.out).mono ?_
        rintro e w1 ⟨rfl, hb1⟩
        have HB1 := Lib.hid (HB.out.trans (hb1.mono HB.out.size))
        clear hb1
        go_wp2_with fail
        go_roundw
        case rel => exact ⟨k + 1, by omega, by go_num, by rw [HG.out], HB1.out⟩
        case measure => simp [intOf]; omega
      · have HG := Lib.hid (show centsTo F (k + 1) = centsTo F k by simp [centsTo, g])
        go_wp2_with fail
        refine (reffreq_any k _ hlt HT.out).mono ?_
        rintro e w1 ⟨rfl, hb1⟩
        have HB1 := Lib.hid (HB.out.trans (hb1.mono HB.out.size))
        clear hb1
        go_wp2_with fail
        go_roundw
        case rel => exact ⟨k + 1, by omega, by go_num, by rw [HG.out], HB1.out⟩
        case measure => simp [intOf]; omega
    · have hle : 12000 < k := by omega
      have HJ := Lib.hid (show k = 12001 by omega)
      go_wp2_with fail
      go_ret
      exact ⟨ret_int (by rw [HJ.out]), HB.out⟩
end Go.Proofs.YtijonghofghocaaDoor
