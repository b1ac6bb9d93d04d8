/-
  The walk of sort.Search at the two closures that the program hands it: it answers a place where f turns. Condition: the number is at most 1000000000, and the closure's calls answer f and make memory alone.
-/
import Derived.Test.YtijonghofghocaaDoorBase
namespace Go.Proofs.YtijonghofghocaaDoor
open Go.RowKit

/-- What sort.Search answers. -/
def Found (f : Nat → Bool) (n : Nat) (w : World) (e : Ending) (w' : World) : Prop :=
  ∃ i : Nat, i ≤ n ∧ e = .returned (.int .i64 i) ∧ (0 < i → f (i - 1) = false) ∧ (i < n → f i = true) ∧ Below w.heap.size w w'

/-- Where f turns at most once, the place is the one. -/
theorem place_unique {f : Nat → Bool} {n i j : Nat} (hf : ∀ a b, a ≤ b → b < n → f a = true → f b = true) (hi : i ≤ n) (hj : j ≤ n)
    (i1 : 0 < i → f (i - 1) = false) (i2 : i < n → f i = true) (j1 : 0 < j → f (j - 1) = false) (j2 : j < n → f j = true) : i = j := by
  rcases Nat.lt_trichotomy i j with h | h | h
  · have h1 := hf i (j - 1) (by omega) (by omega) (i2 (by omega))
    rw [j1 (by omega)] at h1; cases h1
  · exact h
  · have h1 := hf j (i - 1) (by omega) (by omega) (j2 (by omega))
    rw [i1 (by omega)] at h1; cases h1

set_option maxRecDepth 100000 in
set_option maxHeartbeats 1000000 in
theorem search_69 (f : Nat → Bool) (n : Nat) (a2 a3 : Addr) (w : World) (hn : n ≤ 1000000000)
    (hg : ∀ i : Nat, i < n → ∀ w', Below w.heap.size w w' → Calls Tryd.prog 69 #[.int .i64 i, .pointer (some a2), .pointer (some a3)] w' fun e w'' => e = .returned (.bool (f i)) ∧ Below w'.heap.size w' w'') :
    Calls Tryd.prog 67 #[.int .i64 n, .func (.func 69) #[] #[.pointer (some a2), .pointer (some a3)]] w (Found f n w) := by
  have HG := Lib.hid hg
  clear hg
  go_enter Tryd.func67, Tryd.ntmps67
  go_wp2_with fail
  go_loopw [5, 6] (fun i j wr => ∃ a b : Nat, a ≤ b ∧ b ≤ n ∧ i = .int .i64 a ∧ j = .int .i64 b ∧ (0 < a → f (a - 1) = false) ∧ (b < n → f b = true) ∧ Below w.heap.size w wr) (fun i j _ => (intOf j).toNat - (intOf i).toNat)
  case atStart => exact ⟨0, n, Nat.zero_le _, Nat.le_refl _, rfl, rfl, by omega, by omega, Below.refl _ _⟩
  case round =>
    obtain ⟨a, b, hab, hbn, rfl, rfl, ha, hb, hB⟩ := hrel
    have HA := Lib.hid ha
    have HB := Lib.hid hb
    have HL := Lib.hid hB
    clear ha hb hB
    by_cases hlt : a < b
    · obtain ⟨h, hh⟩ : ∃ h, h = (a + b) / 2 := ⟨_, rfl⟩
      have hha : a ≤ h := by omega
      have hhb : h < b := by omega
      have HH := Lib.hid hh
      have eH : ((a : Int) + b) / 2 = h := by omega
      have HE := Lib.hid eH
      clear hh eH
      cases hf : f h with
      | true =>
        go_wp2_with fail
        rw [HE.out]
        refine (HG.out h (by omega) _ HL.out).mono ?_
        rintro e w1 ⟨rfl, hb1⟩
        have HL1 := Lib.hid (HL.out.trans (hb1.mono HL.out.size))
        rw [hf]
        clear hb1
        have HF := Lib.hid hf
        clear hf
        go_wp2_with fail
        go_roundw
        case rel => exact ⟨a, h, by omega, by omega, rfl, rfl, HA.out, fun _ => HF.out, HL1.out⟩
        case measure => simp [intOf]; omega
      | false =>
        go_wp2_with fail
        rw [HE.out]
        refine (HG.out h (by omega) _ HL.out).mono ?_
        rintro e w1 ⟨rfl, hb1⟩
        have HL1 := Lib.hid (HL.out.trans (hb1.mono HL.out.size))
        rw [hf]
        clear hb1
        have HF := Lib.hid hf
        clear hf
        go_wp2_with fail
        go_roundw
        case rel => exact ⟨h + 1, b, by omega, by omega, by go_num, rfl, fun _ => HF.out, HB.out, HL1.out⟩
        case measure => simp [intOf]; omega
    · have heq : a = b := by omega
      have HQ := Lib.hid heq
      clear heq
      have hle : b ≤ a := by omega
      go_wp2_with fail
      go_ret
      exact ⟨a, by omega, rfl, HA.out, by rw [HQ.out]; exact HB.out, HL.out⟩

set_option maxRecDepth 100000 in
set_option maxHeartbeats 1000000 in
theorem search_68 (f : Nat → Bool) (n : Nat) (a1 : Addr) (w : World) (hn : n ≤ 1000000000)
    (hg : ∀ i : Nat, i < n → ∀ w', Below w.heap.size w w' → Calls Tryd.prog 68 #[.int .i64 i, .pointer (some a1)] w' fun e w'' => e = .returned (.bool (f i)) ∧ Below w'.heap.size w' w'') :
    Calls Tryd.prog 67 #[.int .i64 n, .func (.func 68) #[] #[.pointer (some a1)]] w (Found f n w) := by
  have HG := Lib.hid hg
  clear hg
  go_enter Tryd.func67, Tryd.ntmps67
  go_wp2_with fail
  go_loopw [5, 6] (fun i j wr => ∃ a b : Nat, a ≤ b ∧ b ≤ n ∧ i = .int .i64 a ∧ j = .int .i64 b ∧ (0 < a → f (a - 1) = false) ∧ (b < n → f b = true) ∧ Below w.heap.size w wr) (fun i j _ => (intOf j).toNat - (intOf i).toNat)
  case atStart => exact ⟨0, n, Nat.zero_le _, Nat.le_refl _, rfl, rfl, by omega, by omega, Below.refl _ _⟩
  case round =>
    obtain ⟨a, b, hab, hbn, rfl, rfl, ha, hb, hB⟩ := hrel
    have HA := Lib.hid ha
    have HB := Lib.hid hb
    have HL := Lib.hid hB
    clear ha hb hB
    by_cases hlt : a < b
    · obtain ⟨h, hh⟩ : ∃ h, h = (a + b) / 2 := ⟨_, rfl⟩
      have hha : a ≤ h := by omega
      have hhb : h < b := by omega
      have HH := Lib.hid hh
      have eH : ((a : Int) + b) / 2 = h := by omega
      have HE := Lib.hid eH
      clear hh eH
      cases hf : f h with
      | true =>
        go_wp2_with fail
        rw [HE.out]
        refine (HG.out h (by omega) _ HL.out).mono ?_
        rintro e w1 ⟨rfl, hb1⟩
        have HL1 := Lib.hid (HL.out.trans (hb1.mono HL.out.size))
        rw [hf]
        clear hb1
        have HF := Lib.hid hf
        clear hf
        go_wp2_with fail
        go_roundw
        case rel => exact ⟨a, h, by omega, by omega, rfl, rfl, HA.out, fun _ => HF.out, HL1.out⟩
        case measure => simp [intOf]; omega
      | false =>
        go_wp2_with fail
        rw [HE.out]
        refine (HG.out h (by omega) _ HL.out).mono ?_
        rintro e w1 ⟨rfl, hb1⟩
        have HL1 := Lib.hid (HL.out.trans (hb1.mono HL.out.size))
        rw [hf]
        clear hb1
        have HF := Lib.hid hf
        clear hf
        go_wp2_with fail
        go_roundw
        case rel => exact ⟨h + 1, b, by omega, by omega, by go_num, rfl, fun _ => HF.out, HB.out, HL1.out⟩
        case measure => simp [intOf]; omega
    · have heq : a = b := by omega
      have HQ := Lib.hid heq
      clear heq
      have hle : b ≤ a := by omega
      go_wp2_with fail
      go_ret
      exact ⟨a, by omega, rfl, HA.out, by rw [HQ.out]; exact HB.out, HL.out⟩
end Go.Proofs.YtijonghofghocaaDoor
