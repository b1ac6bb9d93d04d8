/-
  The walks of pitch.sampled, declaimref05.Voice, declaimref05.Pulses and declaimlaw05.few. Condition: the slice reads as its frequencies.
-/
import Derived.Test.YtijonghofghocaaDoorPulse
import Derived.Test.YtijonghofghocaaDoorOwn
import Derived.Test.YtijonghofghocaaDoorContains
namespace Go.Proofs.YtijonghofghocaaDoor
open Go.RowKit

set_option maxRecDepth 100000 in
set_option maxHeartbeats 2000000 in
theorem sampled_any (rate : Int) (f : Nat → Int) (p : Option Addr) (n cap : Nat) (w : World) (hn : n ≤ 9223372036854775807) (hc : Ints w p n f) :
    Calls Tryd.prog 63 #[.int .i64 rate, .slice p n cap] w fun e w' => e = .returned (.bool (voiceB rate n f)) ∧ Below w.heap.size w w' := by
  have hn' : (n : Int) ≤ 9223372036854775807 := by omega
  rcases Bool.eq_false_or_eq_true (inB rate 1 192000) with h1 | h1
  · by_cases h2 : n ≤ 400000
    · have HE := Lib.hid (show voiceB rate n f = allTo (fun i => inB (f i) 0 (500 * rate)) n by simp [voiceB, h1, h2])
      obtain ⟨h3, h4⟩ := inB_iff.1 h1
      have h5 : (n : Int) ≤ 400000 := by omega
      go_enter Tryd.func63, Tryd.ntmps63
      go_wp2_with (go_at_call 48; refine (within_any _ _ _ _).mono ?_; rintro e w' ⟨rfl, rfl⟩)
      refine (contains_freq f rate w.heap.size p n cap _ hn h3 h4 (by simp) (hc.mono (newb _ _))).mono ?_
      rintro e w1 ⟨rfl, hb⟩
      have HB := Lib.hid ((newb w _).trans (hb.mono (by simp)))
      clear hb
      go_wp2_with fail
      go_ret
      exact ⟨ret_bool (by rw [HE.out]), HB.out⟩
    · have HE := Lib.hid (show voiceB rate n f = false by simp [voiceB, h2])
      have h5 : (400000 : Int) < n := by omega
      go_enter Tryd.func63, Tryd.ntmps63
      go_wp2_with (go_at_call 48; refine (within_any _ _ _ _).mono ?_; rintro e w' ⟨rfl, rfl⟩)
      go_ret
      exact ⟨ret_bool HE.out.symm, newb _ _⟩
  · have HE := Lib.hid (show voiceB rate n f = false by simp [voiceB, h1])
    go_enter Tryd.func63, Tryd.ntmps63
    go_wp2_with (go_at_call 48; refine (within_any _ _ _ _).mono ?_; rintro e w' ⟨rfl, rfl⟩)
    go_ret
    exact ⟨ret_bool HE.out.symm, newb _ _⟩

set_option maxRecDepth 100000 in
set_option maxHeartbeats 2000000 in
theorem voice_any (rate : Int) (f : Nat → Int) (p : Option Addr) (n cap : Nat) (w : World) (hn : n ≤ 9223372036854775807) (hc : Ints w p n f) :
    Calls Tryd.prog 35 #[.int .i64 rate, .slice p n cap] w fun e w' => e = .returned (.bool (voiceB rate n f)) ∧ Below w.heap.size w w' := by
  have hn' : (n : Int) ≤ 9223372036854775807 := by omega
  rcases Bool.eq_false_or_eq_true (inB rate 1 192000) with h1 | h1
  · by_cases h2 : n ≤ 400000
    · have HE := Lib.hid (show voiceB rate n f = allTo (fun i => inB (f i) 0 (500 * rate)) n by simp [voiceB, h1, h2])
      obtain ⟨h3, h4⟩ := inB_iff.1 h1
      have h5 : (n : Int) ≤ 400000 := by omega
      go_enter Tryd.func35, Tryd.ntmps35
      go_wp2_with (go_at_call 50; refine (in_any _ _ _ _).mono ?_; rintro e w' ⟨rfl, rfl⟩)
      go_loopw [5] (fun i wr => ∃ k : Nat, k ≤ n ∧ i = .int .i64 k ∧ allTo (fun i => inB (f i) 0 (500 * rate)) k = true ∧ Below w.heap.size w wr) (fun i _ => n - (intOf i).toNat)
      case atStart => exact ⟨0, Nat.zero_le _, rfl, rfl, Below.refl _ _⟩
      case round =>
        obtain ⟨k, hk, rfl, hall, hb⟩ := hrel
        have HA := Lib.hid hall
        have HB := Lib.hid hb
        clear hall hb
        by_cases hlt : k < n
        · obtain ⟨b, off, rfl, hbs, hcell⟩ := hc.at (by omega)
          have k0 : wr.cell? ⟨b, off + k, none⟩ = some (.int .i64 (f k)) := by rw [HB.out.cell hbs]; exact hcell k hlt
          clear hcell
          rcases Bool.eq_false_or_eq_true (inB (f k) 0 (500 * rate)) with g | g
          · have HG := Lib.hid g
            go_wp2_with (go_at_call 50; refine (in_any _ _ _ _).mono ?_; rintro e w' ⟨rfl, rfl⟩)
            go_roundw
            case rel => exact ⟨k + 1, by omega, by go_num, allTo_succ HA.out HG.out, HB.out⟩
            case measure => simp [intOf]; omega
          · have HG := Lib.hid (show (fun i => inB (f i) 0 (500 * rate)) k = false from g)
            go_wp2_with (go_at_call 50; refine (in_any _ _ _ _).mono ?_; rintro e w' ⟨rfl, rfl⟩)
            go_ret
            exact ⟨ret_bool (by rw [HE.out, allTo_false hlt HG.out]), HB.out⟩
        · have hle : n ≤ k := by omega
          have HJ := Lib.hid (show k = n by omega)
          go_wp2_with fail
          go_ret
          exact ⟨ret_bool (by rw [HE.out, ← HJ.out, HA.out]), HB.out⟩
    · have HE := Lib.hid (show voiceB rate n f = false by simp [voiceB, h2])
      have h5 : (400000 : Int) < n := by omega
      go_enter Tryd.func35, Tryd.ntmps35
      go_wp2_with (go_at_call 50; refine (in_any _ _ _ _).mono ?_; rintro e w' ⟨rfl, rfl⟩)
      go_ret
      exact ⟨ret_bool HE.out.symm, Below.refl _ _⟩
  · have HE := Lib.hid (show voiceB rate n f = false by simp [voiceB, h1])
    go_enter Tryd.func35, Tryd.ntmps35
    go_wp2_with (go_at_call 50; refine (in_any _ _ _ _).mono ?_; rintro e w' ⟨rfl, rfl⟩)
    go_ret
    exact ⟨ret_bool HE.out.symm, Below.refl _ _⟩

theorem voice_iff {rate : Int} {n : Nat} {f : Nat → Int} (h : voiceB rate n f = true) : 1 ≤ rate ∧ rate ≤ 192000 ∧ n ≤ 400000 ∧ ∀ i, i < n → 0 ≤ f i ∧ f i ≤ 500 * rate := by
  simp only [voiceB, Bool.and_eq_true, inB_iff, allTo_iff, decide_eq_true_eq] at h
  exact ⟨h.1.1.1, h.1.1.2, h.1.2, h.2⟩

/-- A slice of pulses and the phase at the end. -/
def PulsesOut (rate : Int) (n : Nat) (f : Nat → Int) (w : World) (e : Ending) (w' : World) : Prop :=
  ∃ p cap, e = .returned (.tuple #[.slice p (count rate f n) cap, .int .i64 (phase rate f n)]) ∧ Ints w' p (count rate f n) (place rate f n) ∧ Below w.heap.size w w'

set_option maxRecDepth 100000 in
set_option maxHeartbeats 2000000 in
theorem refpulses_any (rate : Int) (f : Nat → Int) (p : Option Addr) (n cap : Nat) (w : World) (hv : voiceB rate n f = true) (hc : Ints w p n f) :
    Calls Tryd.prog 46 #[.int .i64 rate, .slice p n cap] w (PulsesOut rate n f w) := by
  obtain ⟨r1, r2, hn, hf⟩ := voice_iff hv
  have hn' : (n : Int) ≤ 400000 := by omega
  have HP := Lib.hid (phase_bd r1 hf)
  have HF := Lib.hid hf
  clear hf hv
  go_enter Tryd.func46, Tryd.ntmps46
  go_wp2_with fail
  go_loopw [6, 7, 8] (fun v ph i wr => ∃ k : Nat, k ≤ n ∧ i = .int .i64 k ∧ ph = .int .i64 (phase rate f k) ∧ Grow wr w.heap.size v (count rate f k) (place rate f k) ∧ Below w.heap.size w wr) (fun _ _ i _ => n - (intOf i).toNat)
  case atStart => exact ⟨0, Nat.zero_le _, rfl, rfl, Grow.none _ _ _, Below.refl _ _⟩
  case round =>
    obtain ⟨k, hk, rfl, rfl, hown, hb⟩ := hrel
    have HK := Lib.hid hown
    have HB := Lib.hid hb
    clear hown hb
    by_cases hlt : k < n
    · obtain ⟨b, off, rfl, hbs, hcell⟩ := hc.at (by omega)
      have k0 : wr.cell? ⟨b, off + k, none⟩ = some (.int .i64 (f k)) := by rw [HB.out.cell hbs]; exact hcell k hlt
      clear hcell
      have p1 := HP.out k hk
      have f1 := HF.out k hlt
      have cl := count_le rate f k
      by_cases g : 1000 * rate ≤ phase rate f k + f k
      · have gp : pulse rate f k = true := by simpa [pulse] using g
        have HG := Lib.hid gp
        clear gp
        have hsz : w.heap.size ≤ wr.heap.size := HB.out.size
        go_wp2_with (at_builtin; refine append_int Tryd.underlying34 info3 _ rfl _ _ rfl w.heap.size _ (count rate f k) (place rate f k) k rfl (HK.out.later (newb _ _)) ⟨wr.heap.size, 0, none⟩ rfl ?c1 ?c2 ?c3 ?c4)
        case c1 => simp
        case c2 => omega
        case c3 => simp; omega
        case c4 =>
          intro v' w' hown' hgrow _
          have HO := Lib.hid hown'
          have HW := Lib.hid (below_grown (HB.out.alloc (by omega) _) (HK.out.later (newb _ _)) hgrow (by simp; omega) (Nat.le_refl _))
          clear hown' hgrow k0
          go_wp2_with fail
          go_roundw
          case rel => exact ⟨k + 1, by omega, by go_num, by rw [phase_yes HG.out], by
            rw [count_yes HG.out]
            exact HO.out.congr (fun i _ => by rw [place_yes HG.out]), HW.out⟩
          case measure => simp [intOf]; omega
      · have gp : pulse rate f k = false := by simpa [pulse] using g
        have HG := Lib.hid gp
        clear gp
        have g' : phase rate f k + f k < 1000 * rate := by omega
        go_wp2_with fail
        go_roundw
        case rel => exact ⟨k + 1, by omega, by go_num, by rw [phase_no HG.out], by
          rw [count_no HG.out]
          exact HK.out.congr (fun i _ => by rw [place_no HG.out]), HB.out⟩
        case measure => simp [intOf]; omega
    · have hle : n ≤ k := by omega
      have HJ := Lib.hid (show k = n by omega)
      go_wp2_with fail
      go_ret2
      obtain ⟨q, c, h1, h2⟩ := HK.out.ints
      rw [HJ.out] at h1 h2
      exact ⟨q, c, by rw [HJ.out, h1]; rfl, h2, HB.out⟩

def fewB (n : Int) : Bool := decide (n ≤ 3000) || (decide (400000 < n) && decide (n < 500000))
theorem few_any (n : Int) (w : World) : Calls Tryd.prog 44 #[.int .i64 n] w fun e w' => e = .returned (.bool (fewB n)) ∧ w = w' := by
  rcases (show n ≤ 3000 ∨ (3000 < n ∧ n ≤ 400000) ∨ (400000 < n ∧ n < 500000) ∨ 500000 ≤ n by omega) with h | ⟨h, h'⟩ | ⟨h, h'⟩ | h
  · have HE := Lib.hid (show fewB n = true by simp [fewB, h])
    go_enter Tryd.func44, Tryd.ntmps44
    go_wp2_with fail
    go_ret
    exact ⟨ret_bool HE.out.symm, rfl⟩
  · have HE := Lib.hid (show fewB n = false by rw [fewB, decide_eq_false (by omega), decide_eq_false (show ¬ 400000 < n by omega)]; rfl)
    go_enter Tryd.func44, Tryd.ntmps44
    go_wp2_with fail
    go_ret
    exact ⟨ret_bool (by rw [HE.out]; simp; omega), rfl⟩
  · have HE := Lib.hid (show fewB n = true by simp [fewB, h, h'])
    go_enter Tryd.func44, Tryd.ntmps44
    go_wp2_with fail
    go_ret
    exact ⟨ret_bool HE.out.symm, rfl⟩
  · have HE := Lib.hid (show fewB n = false by rw [fewB, decide_eq_false (by omega), decide_eq_false (show ¬ n < 500000 by omega)]; simp)
    go_enter Tryd.func44, Tryd.ntmps44
    go_wp2_with fail
    go_ret
    exact ⟨ret_bool (by rw [HE.out]; simp; omega), rfl⟩
end Go.Proofs.YtijonghofghocaaDoor
