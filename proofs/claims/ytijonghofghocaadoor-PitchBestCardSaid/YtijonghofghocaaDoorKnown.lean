/-
  The walk of known: the rows of the chapter's examples. Condition: the table of semitones lies as the program's text lays it.
-/
import Derived.Test.YtijonghofghocaaDoorKnownP
namespace Go.Proofs.YtijonghofghocaaDoor
open Go.RowKit

theorem row_block {w : World} {N n s : Nat} {cs : Array Value} {t : TypeId} {f : Nat → Nat → Value} (h : w.heap[N]? = some (.cells cs t (0, 0))) (hc : ∀ i, i < n → ∀ j, j < s → cs[i * s + j]? = some (f i j)) : Row w (some ⟨N, 0, none⟩) n s f :=
  .inr ⟨N, 0, rfl, lt_of_block h, fun i hi j hj => by simp only [World.cell?, h, Nat.zero_add]; exact hc i hi j hj⟩
theorem ints_block {w : World} {N n : Nat} {cs : Array Value} {t : TypeId} {f : Nat → Int} (h : w.heap[N]? = some (.cells cs t (0, 0))) (hc : ∀ i, i < n → cs[i]? = some (.int .i64 (f i))) : Ints w (some ⟨N, 0, none⟩) n f :=
  .inr ⟨N, 0, rfl, lt_of_block h, fun i hi => by simp only [World.cell?, h, Nat.zero_add]; exact hc i hi⟩
theorem lt2 {P : Nat → Prop} (h0 : P 0) (h1 : P 1) : ∀ i, i < 2 → P i := fun i hi => by
  have : i = 0 ∨ i = 1 := by omega
  rcases this with rfl | rfl
  · exact h0
  · exact h1
theorem lt3 {P : Nat → Prop} (h0 : P 0) (h1 : P 1) (h2 : P 2) : ∀ i, i < 3 → P i := fun i hi => by
  have : i = 0 ∨ i = 1 ∨ i = 2 := by omega
  rcases this with rfl | rfl | rfl
  · exact h0
  · exact h1
  · exact h2
theorem lt4 {P : Nat → Prop} (h0 : P 0) (h1 : P 1) (h2 : P 2) (h3 : P 3) : ∀ i, i < 4 → P i := fun i hi => by
  by_cases e : i = 3
  · rw [e]; exact h3
  · exact lt3 h0 h1 h2 i (by omega)
theorem lt5 {P : Nat → Prop} (h0 : P 0) (h1 : P 1) (h2 : P 2) (h3 : P 3) (h4 : P 4) : ∀ i, i < 5 → P i := fun i hi => by
  by_cases e : i = 4
  · rw [e]; exact h4
  · exact lt4 h0 h1 h2 h3 i (by omega)
theorem lt6 {P : Nat → Prop} (h0 : P 0) (h1 : P 1) (h2 : P 2) (h3 : P 3) (h4 : P 4) (h5 : P 5) : ∀ i, i < 6 → P i := fun i hi => by
  have : i = 0 ∨ i = 1 ∨ i = 2 ∨ i = 3 ∨ i = 4 ∨ i = 5 := by omega
  rcases this with rfl | rfl | rfl | rfl | rfl | rfl
  · exact h0
  · exact h1
  · exact h2
  · exact h3
  · exact h4
  · exact h5

theorem new2 (w : World) (a b : Obj) : ((w.alloc a).alloc b).heap[w.heap.size]? = some a ∧ ((w.alloc a).alloc b).heap[w.heap.size + 1]? = some b ∧ Below w.heap.size w ((w.alloc a).alloc b) := by
  refine ⟨block_later (heap_alloc_new w a) (newb _ _), ?_, (newb _ _).trans ((newb _ _).mono (by simp))⟩
  have := heap_alloc_new (w.alloc a) b
  simpa using this

/-! ### The calls of known -/
theorem known_value (w : World) (N : Nat) (h : w.heap[N]? = some (.cells #[.int .i64 0, .int .i64 0, .int .i64 4, .int .i64 1000, .int .i64 8, .int .i64 0] 73 (0, 0))) :
    Calls Tryd.prog 17 #[.agg #[.int .i64 10, .int .i64 100, .slice (some ⟨N, 0, none⟩) 3 3], .int .i64 17] w fun e w' => e = two 25 0 ∧ Below w.heap.size w w' := by
  have hr : Row w (some ⟨N, 0, none⟩) kC1.n 2 (knotCell kC1.kt kC1.kv) := row_block h (lt3 (lt2 rfl rfl) (lt2 rfl rfl) (lt2 rfl rfl))
  exact (Value_any kC1 17 (some ⟨N, 0, none⟩) 3 w (by decide) hr).mono fun e w' ⟨h1, h2⟩ => ⟨h1.trans kC1_value, h2⟩
theorem known_curve (w : World) (N M : Nat) (h : w.heap[N]? = some (.cells #[.int .i64 0, .int .i64 1000, .int .i64 3, .int .i64 0] 73 (0, 0))) (h2 : w.heap[M]? = some (.cells #[.int .i64 0, .int .i64 10, .slice (some ⟨N, 0, none⟩) 2 2] 24 (0, 0))) :
    Calls Tryd.prog 21 #[.int .i64 4, .int .i64 50, .slice (some ⟨M, 0, none⟩) 1 1] w (SliceErr 4 (fun i => [60, 57, 53, 50].getD i 0) 0 w) := by
  have hr : Row w (some ⟨N, 0, none⟩) kC2.n 2 (knotCell kC2.kt kC2.kv) := row_block h (lt2 (lt2 rfl rfl) (lt2 rfl rfl))
  have hc : Cmds w (some ⟨M, 0, none⟩) 1 (fun _ => kC2) (fun _ => some ⟨N, 0, none⟩) (fun _ => 2) :=
    ⟨row_block h2 fun i hi => by
      obtain rfl : i = 0 := by omega
      exact lt3 rfl rfl rfl, fun i _ => ⟨by show 2 ≤ 9223372036854775807; omega, hr⟩⟩
  refine (curve_ok 4 50 (fun _ => kC2) (fun _ => some ⟨N, 0, none⟩) (fun _ => 2) (some ⟨M, 0, none⟩) 1 1 w hc (by omega) (by omega) (by omega) (by omega) kC2_valid).mono ?_
  rintro e w' ⟨q, cq, h3, h4, h5⟩
  exact ⟨q, cq, h3, h4.congr kC2_curve, h5⟩
theorem known_best (w : World) (N : Nat) (h : w.heap[N]? = some (.cells #[.int .i64 0, .int .i64 0, .int .i64 1, .int .i64 2, .int .i64 10, .int .i64 1] 54 (0, 0))) :
    Calls Tryd.prog 32 #[.agg #[.int .i64 3, .int .i64 0, .int .i64 10, .int .i64 2, .int .i64 0, .slice (some ⟨N, 0, none⟩) 2 2]] w fun e w' =>
      ∃ q cq, e = .returned (.tuple #[.slice q 3 cq, .int .i64 18, .int .i64 0]) ∧ Ints w' q 3 (fun i => [3, 5, 7].getD i 0) ∧ Below w.heap.size w w' := by
  have hr : Row w (some ⟨N, 0, none⟩) kP.m 3 (tgtCell kP.tg) := row_block h (lt2 (lt3 rfl rfl rfl) (lt3 rfl rfl rfl))
  refine (Best_any kP (some ⟨N, 0, none⟩) 2 w (by decide) hr).mono ?_
  rintro e w' ⟨h1, _, h3⟩
  obtain ⟨q, cq, h4, h5⟩ := h1 kP_ok
  have hf : framesN kP = 3 := rfl
  rw [hf] at h4 h5
  rw [kP_cost] at h4
  exact ⟨q, cq, h4, h5.congr kP_path, h3⟩
theorem known_pulses (w : World) (N : Nat) (h : w.heap[N]? = some (.cells #[.int .i64 3000, .int .i64 3000, .int .i64 3000, .int .i64 3000, .int .i64 3000, .int .i64 3000, .int .i64 3000] 3 (0, 0))) :
    Calls Tryd.prog 36 #[.int .i64 10, .slice (some ⟨N, 0, none⟩) 7 7] w (SliceErr 2 (fun i => [3, 6].getD i 0) 0 w) := by
  have hr : Ints w (some ⟨N, 0, none⟩) 7 kF := ints_block h fun i hi => by
    have : i = 0 ∨ i = 1 ∨ i = 2 ∨ i = 3 ∨ i = 4 ∨ i = 5 ∨ i = 6 := by omega
    rcases this with rfl | rfl | rfl | rfl | rfl | rfl | rfl <;> rfl
  refine (Pulses_ok 10 kF (some ⟨N, 0, none⟩) 7 7 w k_voice hr).mono ?_
  rw [k_count]
  rintro e w' ⟨q, cq, h3, h4, h5⟩
  exact ⟨q, cq, h3, h4.congr k_place, h5⟩
theorem known_sing (w : World) (N : Nat) (h : w.heap[N]? = some (.cells #[.int .i64 1, .int .i64 2, .int .i64 0, .int .i64 0, .int .i64 0, .int .i64 4, .int .i64 3, .int .i64 3, .int .i64 2, .int .i64 0, .int .i64 0, .int .i64 4] 61 (0, 0))) :
    Calls Tryd.prog 37 #[.slice (some ⟨N, 0, none⟩) 2 2] w (SliceErr 5 (fun i => [100, 100, 100, 200, 300].getD i 0) 0 w) := by
  have hr : Row w (some ⟨N, 0, none⟩) 2 6 (noteCell kN) := row_block h (lt2 (lt6 rfl rfl rfl rfl rfl rfl) (lt6 rfl rfl rfl rfl rfl rfl))
  refine (Sing_ok kN (some ⟨N, 0, none⟩) 2 2 w hr k_notes).mono ?_
  rintro e w' ⟨q, cq, h3, h4, h5⟩
  rw [k_song] at h3 h4
  exact ⟨q, cq, h3, h4, h5⟩
theorem known_freq (w : World) (ht : Table w) : Calls Tryd.prog 40 #[.int .i64 50] w fun e w' => e = two 28318 0 ∧ Below w.heap.size w w' :=
  (Frequency_any 50 w ht).mono fun _ _ ⟨h1, h2⟩ => ⟨h1.trans k_freq, h2⟩
theorem known_same (n : Nat) (f : Nat → Int) (q r : Option Addr) (cq cr : Nat) (w : World) (hn : n ≤ 100) (h1 : Ints w q n f) (h2 : Ints w r n f) :
    Calls Tryd.prog 23 #[.slice q n cq, .slice r n cr] w fun e w' => e = .returned (.bool true) ∧ Below w.heap.size w w' :=
  (same_any n n f f q r cq cr w h1 h2 (by omega) (by omega)).mono fun _ _ ⟨h1, h2⟩ => ⟨by rw [h1, sameB_of fun _ _ => rfl], h2⟩

set_option maxRecDepth 100000 in
set_option maxHeartbeats 4000000 in
theorem known_any (w : World) (ht : Table w) : Calls Tryd.prog 16 #[] w fun e w' => e = .returned (.bool true) ∧ Below w.heap.size w w' := by
  have HT := Lib.hid ht
  clear ht
  go_enter Tryd.func16, Tryd.ntmps16
  go_wp2_with fail
  refine calls_gen (fun w1 => w1.heap[w.heap.size]? = some (.cells #[.int .i64 0, .int .i64 0, .int .i64 4, .int .i64 1000, .int .i64 8, .int .i64 0] 73 (0, 0)) ∧ Below w.heap.size w w1) ⟨block_later (heap_alloc_new w _) (newb _ _), (newb _ _).trans ((newb _ _).mono (by simp))⟩ ?_
  rintro w1 ⟨h1, hb1⟩
  refine (known_value w1 _ h1).mono ?_
  rintro e w2 ⟨rfl, hb2⟩
  have HB2 := Lib.hid (hb1.trans (hb2.mono hb1.size))
  unfold two
  clear h1 hb1 hb2 w1
  go_wp2_with fail
  obtain ⟨n1, n2, n3⟩ := new2 w2 (.cells #[.int .i64 0, .int .i64 1000, .int .i64 3, .int .i64 0] 73) (.cells #[.int .i64 0, .int .i64 10, .slice (some ⟨w2.heap.size, 0, none⟩) 2 2] 24)
  refine (known_curve _ _ _ n1 n2).mono ?_
  rintro e w3 ⟨q1, k1, rfl, hi1, hb3⟩
  have HB3 := Lib.hid (HB2.out.trans ((n3.trans (hb3.mono n3.size)).mono HB2.out.size))
  have HI1 := Lib.hid hi1
  clear n1 n2 n3 hb3 hi1 HB2
  go_wp2_with fail
  refine (known_best _ _ (heap_alloc_new w3 _)).mono ?_
  rintro e w4 ⟨q2, k2, rfl, hi2, hb4⟩
  have hb := (newb w3 (.cells #[.int .i64 0, .int .i64 0, .int .i64 1, .int .i64 2, .int .i64 10, .int .i64 1] 54)).trans (hb4.mono (by simp))
  have HB4 := Lib.hid (HB3.out.trans (hb.mono HB3.out.size))
  have HI14 := Lib.hid (HI1.out.mono hb)
  have HI2 := Lib.hid hi2
  clear hb hi2 hb4 HB3 HI1
  go_wp2_with fail
  refine (known_freq _ (HT.out.later HB4.out)).mono ?_
  rintro e w5 ⟨rfl, hb5⟩
  have HB5 := Lib.hid (HB4.out.trans (hb5.mono HB4.out.size))
  have HI15 := Lib.hid (HI14.out.mono hb5)
  have HI25 := Lib.hid (HI2.out.mono hb5)
  unfold two
  clear hb5 HB4 HI14 HI2
  go_wp2_with fail
  refine (known_pulses _ _ (heap_alloc_new w5 _)).mono ?_
  rintro e w6 ⟨q3, k3, rfl, hi3, hb6⟩
  have hb := (newb w5 (.cells #[.int .i64 3000, .int .i64 3000, .int .i64 3000, .int .i64 3000, .int .i64 3000, .int .i64 3000, .int .i64 3000] 3)).trans (hb6.mono (by simp))
  have HB6 := Lib.hid (HB5.out.trans (hb.mono HB5.out.size))
  have HI16 := Lib.hid (HI15.out.mono hb)
  have HI26 := Lib.hid (HI25.out.mono hb)
  have HI36 := Lib.hid hi3
  clear hb hi3 hb6 HB5 HI15 HI25
  go_wp2_with fail
  refine (known_sing _ _ (heap_alloc_new w6 _)).mono ?_
  rintro e w7 ⟨q4, k4, rfl, hi4, hb7⟩
  have hb := (newb w6 (.cells #[.int .i64 1, .int .i64 2, .int .i64 0, .int .i64 0, .int .i64 0, .int .i64 4, .int .i64 3, .int .i64 3, .int .i64 2, .int .i64 0, .int .i64 0, .int .i64 4] 61)).trans (hb7.mono (by simp))
  have HB7 := Lib.hid (HB6.out.trans (hb.mono HB6.out.size))
  have HI17 := Lib.hid (HI16.out.mono hb)
  have HI27 := Lib.hid (HI26.out.mono hb)
  have HI37 := Lib.hid (HI36.out.mono hb)
  have HI47 := Lib.hid hi4
  clear hb hi4 hb7 HB6 HI16 HI26 HI36
  go_wp2_with fail
  refine (known_same 4 (fun i => [60, 57, 53, 50].getD i 0) _ _ _ _ _ (by omega) (HI17.out.mono (newb _ _)) (ints_block (heap_alloc_new w7 _) (lt4 rfl rfl rfl rfl))).mono ?_
  rintro e w8 ⟨rfl, hb⟩
  have hb2 := (newb w7 (.cells #[.int .i64 60, .int .i64 57, .int .i64 53, .int .i64 50] 3)).trans (hb.mono (by simp))
  have HB8 := Lib.hid (HB7.out.trans (hb2.mono HB7.out.size))
  have HI28 := Lib.hid (HI27.out.mono hb2)
  have HI38 := Lib.hid (HI37.out.mono hb2)
  have HI48 := Lib.hid (HI47.out.mono hb2)
  clear hb hb2 HB7 HI17 HI27 HI37 HI47
  go_wp2_with fail
  refine (known_same 3 (fun i => [3, 5, 7].getD i 0) _ _ _ _ _ (by omega) (HI28.out.mono (newb _ _)) (ints_block (heap_alloc_new w8 _) (lt3 rfl rfl rfl))).mono ?_
  rintro e w9 ⟨rfl, hb⟩
  have hb2 := (newb w8 (.cells #[.int .i64 3, .int .i64 5, .int .i64 7] 3)).trans (hb.mono (by simp))
  have HB9 := Lib.hid (HB8.out.trans (hb2.mono HB8.out.size))
  have HI39 := Lib.hid (HI38.out.mono hb2)
  have HI49 := Lib.hid (HI48.out.mono hb2)
  clear hb hb2 HB8 HI28 HI38 HI48
  go_wp2_with fail
  refine (known_same 2 (fun i => [3, 6].getD i 0) _ _ _ _ _ (by omega) (HI39.out.mono (newb _ _)) (ints_block (heap_alloc_new w9 _) (lt2 rfl rfl))).mono ?_
  rintro e w10 ⟨rfl, hb⟩
  have hb2 := (newb w9 (.cells #[.int .i64 3, .int .i64 6] 3)).trans (hb.mono (by simp))
  have HB10 := Lib.hid (HB9.out.trans (hb2.mono HB9.out.size))
  have HI410 := Lib.hid (HI49.out.mono hb2)
  clear hb hb2 HB9 HI39 HI49
  go_wp2_with fail
  refine (known_same 5 (fun i => [100, 100, 100, 200, 300].getD i 0) _ _ _ _ _ (by omega) (HI410.out.mono (newb _ _)) (ints_block (heap_alloc_new w10 _) (lt5 rfl rfl rfl rfl rfl))).mono ?_
  rintro e w11 ⟨rfl, hb⟩
  have hb2 := (newb w10 (.cells #[.int .i64 100, .int .i64 100, .int .i64 100, .int .i64 200, .int .i64 300] 3)).trans (hb.mono (by simp))
  have HB11 := Lib.hid (HB10.out.trans (hb2.mono HB10.out.size))
  clear hb hb2 HB10 HI410
  go_wp2_with fail
  go_ret
  exact ⟨rfl, HB11.out⟩
end Go.Proofs.YtijonghofghocaaDoor
