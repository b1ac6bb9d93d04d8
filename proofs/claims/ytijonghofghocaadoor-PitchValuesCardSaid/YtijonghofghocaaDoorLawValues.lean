/-
  The walk of PitchValues: it answers true. Conditions: the table of semitones lies as the program's text lays it; the shape reads as its knots.
-/
import Derived.Test.YtijonghofghocaaDoorKnown
namespace Go.Proofs.YtijonghofghocaaDoor
open Go.RowKit

set_option maxRecDepth 100000 in
set_option maxHeartbeats 4000000 in
theorem values_law (c : Cmd) (t : Int) (p : Option Addr) (cap : Nat) (w : World) (hn : c.n ≤ 9223372036854775807) (hp : Row w p c.n 2 (knotCell c.kt c.kv)) (ht : Table w) :
    Calls Tryd.prog 3 #[.agg #[.int .i64 c.ca, .int .i64 c.ch, .slice p c.n cap], .int .i64 t] w fun e w' => e = .returned (.bool true) ∧ Below w.heap.size w w' := by
  have HT := Lib.hid ht
  have HP := Lib.hid hp
  have hn' : (c.n : Int) ≤ 9223372036854775807 := by omega
  have HN := Lib.hid hn
  clear ht hp hn
  by_cases h40 : 40 < c.n
  · have h40' : (40 : Int) < c.n := by omega
    go_enter Tryd.func3, Tryd.ntmps3
    go_wp2_with fail
    refine (known_any _ (HT.out.later (newb _ _))).mono ?_
    rintro e w2 ⟨rfl, hb2⟩
    have HB2 := Lib.hid ((newb w _).trans (hb2.mono (by simp)))
    clear hb2
    go_wp2_with fail
    go_ret
    exact ⟨rfl, HB2.out⟩
  · have h40' : (c.n : Int) ≤ 40 := by omega
    cases g1 : (c.valid && inB t (-4000) 8000) with
    | false =>
      have HE := Lib.hid (show c.Value t = two 0 2 by simp [Cmd.Value, g1])
      have hcase : c.valid = false ∨ (c.valid = true ∧ t < -4000) ∨ (c.valid = true ∧ -4000 ≤ t ∧ 8000 < t) := by
        cases q : c.valid with
        | false => exact .inl rfl
        | true =>
          rw [q, Bool.true_and] at g1
          have : ¬ (-4000 ≤ t ∧ t ≤ 8000) := fun h => by rw [inB_iff.2 h] at g1; cases g1
          by_cases h : t < -4000
          · exact .inr (.inl ⟨rfl, h⟩)
          · exact .inr (.inr ⟨rfl, by omega, by omega⟩)
      clear g1
      go_enter Tryd.func3, Tryd.ntmps3
      go_wp2_with fail
      refine (Value_any c t p cap _ HN.out (HP.out.mono (newb _ _))).mono ?_
      rintro e w1 ⟨rfl, hb1⟩
      rw [HE.out]
      unfold two
      have HB1 := Lib.hid ((newb w _).trans (hb1.mono (by simp)))
      obtain ⟨a0, a1, a2⟩ : w1.cell? ⟨w.heap.size, 0, none⟩ = some (.int .i64 c.ca) ∧ w1.cell? ⟨w.heap.size, 1, none⟩ = some (.int .i64 c.ch) ∧ w1.cell? ⟨w.heap.size, 2, none⟩ = some (.slice p c.n cap) := by
        have h := block_later (heap_alloc_new w (.cells #[.int .i64 c.ca, .int .i64 c.ch, .slice p c.n cap] 24)) hb1
        simp [World.cell?, h]
      clear hb1
      go_wp2_with fail
      refine (command_any c p cap _ HN.out (HP.out.mono HB1.out)).mono ?_
      rintro e w2 ⟨rfl, hb2⟩
      have HB2 := Lib.hid (HB1.out.trans (hb2.mono HB1.out.size))
      clear hb2 a0 a1 a2
      rcases hcase with q | ⟨q, q1⟩ | ⟨q, q1, q2⟩
      all_goals
        rw [q]
        clear q
        go_wp2_with fail
        refine (known_any _ (HT.out.later HB2.out)).mono ?_
        rintro e w3 ⟨rfl, hb3⟩
        have HB3 := Lib.hid (HB2.out.trans (hb3.mono HB2.out.size))
        clear hb3
        go_wp2_with fail
        go_ret
        exact ⟨rfl, HB3.out⟩
    | true =>
      have HE := Lib.hid (show c.Value t = two (c.val t) 0 by simp [Cmd.Value, g1])
      have hv : c.valid = true := by
        cases q : c.valid with
        | true => rfl
        | false => rw [q] at g1; cases g1
      have htb : -4000 ≤ t ∧ t ≤ 8000 := by rw [hv, Bool.true_and] at g1; exact inB_iff.1 g1
      obtain ⟨t1, t2⟩ := htb
      have HV := Lib.hid hv
      clear g1 hv
      go_enter Tryd.func3, Tryd.ntmps3
      go_wp2_with fail
      refine (Value_any c t p cap _ HN.out (HP.out.mono (newb _ _))).mono ?_
      rintro e w1 ⟨rfl, hb1⟩
      rw [HE.out]
      unfold two
      have HB1 := Lib.hid ((newb w _).trans (hb1.mono (by simp)))
      have hblk := block_later (heap_alloc_new w (.cells #[.int .i64 c.ca, .int .i64 c.ch, .slice p c.n cap] 24)) hb1
      have HK1 := Lib.hid hblk
      obtain ⟨a0, a1, a2⟩ : w1.cell? ⟨w.heap.size, 0, none⟩ = some (.int .i64 c.ca) ∧ w1.cell? ⟨w.heap.size, 1, none⟩ = some (.int .i64 c.ch) ∧ w1.cell? ⟨w.heap.size, 2, none⟩ = some (.slice p c.n cap) := by
        simp [World.cell?, hblk]
      clear hb1 hblk
      go_wp2_with fail
      refine (command_any c p cap _ HN.out (HP.out.mono HB1.out)).mono ?_
      rintro e w2 ⟨rfl, hb2⟩
      have HB2 := Lib.hid (HB1.out.trans (hb2.mono HB1.out.size))
      have hblk := block_later HK1.out hb2
      clear hb2 a0 a1 a2
      obtain ⟨a0, a1, a2⟩ : w2.cell? ⟨w.heap.size, 0, none⟩ = some (.int .i64 c.ca) ∧ w2.cell? ⟨w.heap.size, 1, none⟩ = some (.int .i64 c.ch) ∧ w2.cell? ⟨w.heap.size, 2, none⟩ = some (.slice p c.n cap) := by
        simp [World.cell?, hblk]
      clear hblk
      rw [HV.out]
      go_wp2_with fail
      refine (refvalue_any c t p cap _ HV.out (by omega) (by omega) (HP.out.mono HB2.out)).mono ?_
      rintro e w3 ⟨rfl, hb3⟩
      have HB3 := Lib.hid (HB2.out.trans (hb3.mono HB2.out.size))
      clear hb3 a0 a1 a2
      go_wp2_with fail
      refine (known_any _ (HT.out.later HB3.out)).mono ?_
      rintro e w4 ⟨rfl, hb4⟩
      have HB4 := Lib.hid (HB3.out.trans (hb4.mono HB3.out.size))
      clear hb4
      go_wp2_with fail
      go_ret
      exact ⟨rfl, HB4.out⟩
end Go.Proofs.YtijonghofghocaaDoor
