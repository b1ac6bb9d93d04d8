/-
  The walks of declaimref05.Notes and declaimref05.Sing. Conditions: the slice reads as its notes; of Sing, they are as defined.
-/
import Derived.Test.YtijonghofghocaaDoorOwnL
import Derived.Test.YtijonghofghocaaDoorSongW
import Derived.Test.YtijonghofghocaaDoorSame
namespace Go.Proofs.YtijonghofghocaaDoor
open Go.RowKit

/-- The six cells of note k, in a later world. -/
theorem note_at {w wr : World} {b off n k : Nat} {l : Nat → Note} (hb : Below w.heap.size w wr) (hbs : b < w.heap.size) (hc : ∀ i, i < n → ∀ j, j < 6 → w.cell? ⟨b, off + i * 6 + j, none⟩ = some (noteCell l i j)) (hk : k < n) :
    wr.cell? ⟨b, off + k * 6, none⟩ = some (.int .i64 (l k).key) ∧ wr.cell? ⟨b, off + k * 6 + 1, none⟩ = some (.int .i64 (l k).len) ∧ wr.cell? ⟨b, off + k * 6 + 2, none⟩ = some (.int .i64 (l k).glide) ∧
    wr.cell? ⟨b, off + k * 6 + 3, none⟩ = some (.int .i64 (l k).delay) ∧ wr.cell? ⟨b, off + k * 6 + 4, none⟩ = some (.int .i64 (l k).depth) ∧ wr.cell? ⟨b, off + k * 6 + 5, none⟩ = some (.int .i64 (l k).period) := by
  refine ⟨?_, ?_, ?_, ?_, ?_, ?_⟩
  all_goals rw [hb.cell hbs]
  · exact hc k hk 0 (by omega)
  · exact hc k hk 1 (by omega)
  · exact hc k hk 2 (by omega)
  · exact hc k hk 3 (by omega)
  · exact hc k hk 4 (by omega)
  · exact hc k hk 5 (by omega)

/-- Block N holds a note. -/
def NoteBlk (w : World) (N : Nat) (x : Note) : Prop := w.heap[N]? = some (.cells #[.int .i64 x.key, .int .i64 x.len, .int .i64 x.glide, .int .i64 x.delay, .int .i64 x.depth, .int .i64 x.period] 61 (0, 0))
theorem NoteBlk.cells {w : World} {N : Nat} {x : Note} (h : NoteBlk w N x) : w.cell? ⟨N, 0, none⟩ = some (.int .i64 x.key) ∧ w.cell? ⟨N, 1, none⟩ = some (.int .i64 x.len) ∧ w.cell? ⟨N, 2, none⟩ = some (.int .i64 x.glide) ∧
    w.cell? ⟨N, 3, none⟩ = some (.int .i64 x.delay) ∧ w.cell? ⟨N, 4, none⟩ = some (.int .i64 x.depth) ∧ w.cell? ⟨N, 5, none⟩ = some (.int .i64 x.period) := by
  simp [World.cell?, show w.heap[N]? = _ from h]

theorem notes_f1 {l : Nat → Note} {m k : Nat} (hk : k < m) (h : noteOk (l k) = false) : notesB l m = false := by
  simp [notesB, allTo_false (f := fun i => noteOk (l i)) hk h]
theorem notes_f2 {l : Nat → Note} {m : Nat} (h : 100 < m) : notesB l m = false := by simp [notesB, show ¬ m ≤ 100 by omega]
theorem notes_eq {l : Nat → Note} {m : Nat} (h : m ≤ 100) (h1 : allTo (fun i => noteOk (l i)) m = true) : notesB l m = decide (total l m ≤ 4000) := by simp [notesB, h, h1]

set_option maxRecDepth 100000 in
set_option maxHeartbeats 4000000 in
theorem notes_any (l : Nat → Note) (p : Option Addr) (m cap : Nat) (w : World) (hc : Row w p m 6 (noteCell l)) (hm : m ≤ 9223372036854775807) :
    Calls Tryd.prog 38 #[.slice p m cap] w fun e w' => e = .returned (.bool (notesB l m)) ∧ Below w.heap.size w w' := by
  have hm' : (m : Int) ≤ 9223372036854775807 := by omega
  by_cases h1 : m ≤ 100
  · have h1' : (m : Int) ≤ 100 := by omega
    go_enter Tryd.func38, Tryd.ntmps38
    go_wp2_with fail
    go_loopw [3, 4] (fun n i wr => ∃ k : Nat, k ≤ m ∧ i = .int .i64 k ∧ n = .int .i64 (total l k) ∧ allTo (fun i => noteOk (l i)) k = true ∧ Below w.heap.size w wr) (fun _ i _ => m - (intOf i).toNat)
    case atStart => exact ⟨0, Nat.zero_le _, rfl, rfl, rfl, Below.refl _ _⟩
    case round =>
      obtain ⟨k, hk, rfl, rfl, hall, hb⟩ := hrel
      have HA := Lib.hid hall
      have HB := Lib.hid hb
      have htot := total_bd hall
      clear hall hb
      by_cases hlt : k < m
      · obtain ⟨b, off, rfl, hbs, hcell⟩ := hc.at (by omega)
        obtain ⟨k0, k1, k2, k3, k4, k5⟩ := note_at HB.out hbs hcell hlt
        clear hcell
        rcases note_cases (l k) with ⟨a0, a1, a2, a3, a4, a5, hok⟩ | ⟨hno, hcase⟩
        · have HO := Lib.hid hok
          obtain ⟨_, n2, _⟩ := noteOk_iff hok
          clear hok
          go_wp2_with (go_at_call 50; refine (in_any _ _ _ _).mono ?_; rintro e w' ⟨rfl, rfl⟩)
          go_roundw
          case rel => exact ⟨k + 1, by omega, by go_num, by rw [total_succ], allTo_succ HA.out HO.out, HB.out.trans ((newb _ _).mono HB.out.size)⟩
          case measure => simp [intOf]; omega
        · have HO := Lib.hid (notes_f1 hlt hno)
          clear hno
          rcases hcase with a0 | ⟨a0, a1⟩ | ⟨a0, a1, a2⟩ | ⟨a0, a1, a2, a3⟩ | ⟨a0, a1, a2, a3, a4⟩ | ⟨a0, a1, a2, a3, a4, a5⟩
          all_goals
            go_wp2_with (go_at_call 50; refine (in_any _ _ _ _).mono ?_; rintro e w' ⟨rfl, rfl⟩)
            go_ret
            exact ⟨ret_bool HO.out.symm, HB.out.trans ((newb _ _).mono HB.out.size)⟩
      · have hle : m ≤ k := by omega
        have HJ := Lib.hid (show k = m by omega)
        have HE := Lib.hid (notes_eq h1 (by rw [← HJ.out]; exact HA.out))
        go_wp2_with fail
        go_ret
        exact ⟨ret_bool (by rw [HE.out, HJ.out]), HB.out⟩
  · have HE := Lib.hid (notes_f2 (l := l) (show 100 < m by omega))
    have h1' : (100 : Int) < m := by omega
    go_enter Tryd.func38, Tryd.ntmps38
    go_wp2_with fail
    go_ret
    exact ⟨ret_bool HE.out.symm, Below.refl _ _⟩

theorem notes_iff {l : Nat → Note} {m : Nat} (h : notesB l m = true) : m ≤ 100 ∧ allTo (fun i => noteOk (l i)) m = true ∧ total l m ≤ 4000 := by
  simp only [notesB, Bool.and_eq_true, decide_eq_true_eq] at h
  exact ⟨h.1.1, h.1.2, h.2⟩
theorem total_mono {l : Nat → Note} {m : Nat} (h : allTo (fun i => noteOk (l i)) m = true) : ∀ k, k ≤ m → total l k ≤ total l m := by
  intro k hk
  induction m with
  | zero => have : k = 0 := by omega
            subst this; exact Int.le_refl _
  | succ m ih =>
    simp only [allTo, Bool.and_eq_true] at h
    by_cases e : k = m + 1
    · rw [e]; exact Int.le_refl _
    · have h1 := ih h.1 (by omega)
      have h2 := noteOk_iff h.2
      rw [total_succ]; omega
theorem song_le {l : Nat → Note} {m k : Nat} (h : notesB l m = true) (hk : k ≤ m) : (song l k).length ≤ 4000 := by
  obtain ⟨_, h2, h3⟩ := notes_iff h
  have h4 := total_mono h2 k hk
  have h5 := song_length (l := l) (m := k) (allTo_iff.2 fun i hi => allTo_iff.1 h2 i (by omega))
  omega
/-- A slice told by a list. -/
def ListOnly (xs : List Int) (w : World) (e : Ending) (w' : World) : Prop :=
  ∃ p cap, e = .returned (.slice p xs.length cap) ∧ Ints w' p xs.length (fun i => xs.getD i 0) ∧ Below w.heap.size w w'

theorem frm_first {l : Nat → Note} (i : Int) : frm l 0 i = 100 * (l 0).key + vib (l 0) i := by simp [frm]
theorem frm_glide {l : Nat → Note} {k : Nat} (hk : 0 < k) {i : Int} (hi : i < (l k).glide) : frm l k i = 100 * (l k).key + vib (l k) i + rnd (100 * ((l (k - 1)).key - (l k).key) * ((l k).glide - i)) (l k).glide := by
  simp [frm, hk, gld, hi]
theorem frm_over {l : Nat → Note} {k : Nat} {i : Int} (hi : (l k).glide ≤ i) : frm l k i = 100 * (l k).key + vib (l k) i := by
  unfold frm
  split
  · rw [gld_over hi]; omega
  · omega

set_option maxRecDepth 100000 in
set_option maxHeartbeats 4000000 in
theorem refsing_any (l : Nat → Note) (p : Option Addr) (m cap : Nat) (w : World) (hc : Row w p m 6 (noteCell l)) (hv : notesB l m = true) :
    Calls Tryd.prog 39 #[.slice p m cap] w (ListOnly (song l m) w) := by
  obtain ⟨h1, h2, h3⟩ := notes_iff hv
  have h1' : (m : Int) ≤ 100 := by omega
  have HN := Lib.hid (allTo_iff.1 h2)
  have HL := Lib.hid (fun k hk => song_le (k := k) hv hk)
  clear h2 hv
  go_enter Tryd.func39, Tryd.ntmps39
  go_wp2_with fail
  go_loopw [3, 4] (fun v i wr => ∃ k : Nat, k ≤ m ∧ i = .int .i64 k ∧ GrowL wr w.heap.size v (song l k) ∧ Below w.heap.size w wr) (fun _ i _ => m - (intOf i).toNat)
  case atStart => exact ⟨0, Nat.zero_le _, rfl, GrowL.none _ _, Below.refl _ _⟩
  case round =>
    obtain ⟨k, hk, rfl, hown, hb⟩ := hrel
    have HK := Lib.hid hown
    have HB := Lib.hid hb
    clear hown hb
    by_cases hlt : k < m
    · obtain ⟨b, off, rfl, hbs, hcell⟩ := hc.at (by omega)
      obtain ⟨k0, k1, k2, k3, k4, k5⟩ := note_at HB.out hbs hcell hlt
      have hbr : b < wr.heap.size := Nat.lt_of_lt_of_le hbs HB.out.size
      have hpre : 0 < k → w.cell? ⟨b, off + (k - 1) * 6, none⟩ = some (.int .i64 (l (k - 1)).key) := fun _ => hcell (k - 1) (by omega) 0 (by omega)
      have HP := Lib.hid hpre
      clear hcell hpre
      have hok := HN.out k hlt
      have HO := Lib.hid hok
      obtain ⟨n1, n2, n3, n4, n5, n6⟩ := noteOk_iff hok
      clear hok
      go_wp2_with fail
      clear k0 k1 k2 k3 k4 k5
      refine wp_gen (fun w2 => GrowL w2 w.heap.size u3 (song l k) ∧ Below w.heap.size w w2 ∧ NoteBlk w2 wr.heap.size (l k))
        ⟨HK.out.later (newb _ _), HB.out.alloc HB.out.size _, heap_alloc_new _ _⟩ ?_
      obtain ⟨N, hN⟩ : ∃ N, N = wr.heap.size := ⟨_, rfl⟩
      rw [← hN]
      rintro w2 ⟨hG, hB2, hNB⟩
      have HG2 := Lib.hid hG
      have HB2 := Lib.hid hB2
      have HNB := Lib.hid hNB
      clear hG hB2 hNB hN hbr HK HB
      go_loopw [3, 6] (fun v i wi => ∃ j : Nat, (j : Int) ≤ (l k).len ∧ i = .int .i64 j ∧ GrowL wi w.heap.size v (song l k ++ frames l k j) ∧ NoteBlk wi N (l k) ∧ Below w.heap.size w wi) (fun _ i _ => (l k).len.toNat - (intOf i).toNat)
      case atStart => exact ⟨0, by omega, rfl, by simpa [frames] using HG2.out, HNB.out, HB2.out⟩
      case round =>
        obtain ⟨j, hj, rfl, hown, hNb, hb⟩ := hrel
        have HK := Lib.hid hown
        have HB := Lib.hid hb
        have HNb := Lib.hid hNb
        obtain ⟨a0, a1, a2, a3, a4, a5⟩ := hNb.cells
        clear hown hb hNb
        by_cases hji : (j : Int) < (l k).len
        · have hvb := vib_bd HO.out (j : Int)
          have hln : (song l k ++ frames l k j).length ≤ 5000 := by have := HL.out k (by omega); simp [frames]; omega
          have HLN := Lib.hid hln
          clear hln
          have q0 := later_cell a0
          have q1 := later_cell a1
          have q2 := later_cell a2
          have q3 := later_cell a3
          have q4 := later_cell a4
          have q5 := later_cell a5
          go_wp2_with fail
          refine wp_region_later (by kernel_rfl) (by kernel_rfl) ?_
          repeat (go_big_quiet_step ((go_at_call 65; exact Calls.later_of (refvib_any (l k) j _ HO.out (by omega) (by omega)))))
          refine wpQuiet_nil ?_
          rintro w3 ⟨x, hx⟩
          have hb3 : Below wr.heap.size wr w3 := hx ▸ x.below
          clear hx x q0 q1 q2 q3 q4 q5
          have HK3 := Lib.hid (HK.out.later hb3)
          have HN3 := Lib.hid (show NoteBlk _ N (l k) from block_later HNb.out hb3)
          have HB3 := Lib.hid (HB.out.trans (hb3.mono HB.out.size))
          have a0' := keepc hb3 a0
          have a1' := keepc hb3 a1
          have a2' := keepc hb3 a2
          clear a0 a1 a2 a3 a4 a5 hb3
          by_cases hgl : (j : Int) < (l k).glide ∧ 0 < k
          · obtain ⟨hg1, hk0⟩ := hgl
            have HE := Lib.hid (frm_glide (l := l) hk0 hg1)
            have hb4 : w3.cell? ⟨b, off + (k - 1) * 6, none⟩ = some (.int .i64 (l (k - 1)).key) := by rw [HB3.out.cell hbs]; exact HP.out hk0
            have hok' := HN.out (k - 1) (by omega)
            obtain ⟨m1, _⟩ := noteOk_iff hok'
            have hbd := gld_num HO.out hok' (i := (j : Int)) (by omega) hg1
            have hrb := rnd_bd (100 * ((l (k - 1)).key - (l k).key) * ((l k).glide - (j : Int))) (l k).glide (by omega) 11900000 (by omega) (by omega)
            have q0 := later_cell a0'
            have q2 := later_cell a2'
            have q4 := later_cell hb4
            have e3 : (k : Int) - 1 < m := by omega
            have e0 : IntKind.i64.wrap (↑k - 1) = ↑k - 1 := IntWalk.i64_in _ (by omega)
            have e1 : (0 : Int) ≤ ↑k - 1 := by omega
            have e2 : ((k : Int) - 1).toNat = k - 1 := by omega
            clear hok'
            go_wp2_with fail
            refine wp_region_later (by kernel_rfl) (by kernel_rfl) ?_
            repeat (go_big_quiet_step ((go_at_call 51; exact Calls.later_same (divide_q _ _ _ (by omega) (by omega) (by omega) (by omega)))))
            refine wpQuiet_nil ?_
            rintro w4 ⟨x, hx⟩
            have hb5 : Below w3.heap.size w3 w4 := hx ▸ x.below
            clear hx x q0 q2 q4 e0 e2 a0' a1' a2' hb4
            have HK4 := Lib.hid (HK3.out.later hb5)
            have HN4 := Lib.hid (show NoteBlk _ N (l k) from block_later HN3.out hb5)
            have HB4 := Lib.hid (HB3.out.trans (hb5.mono HB3.out.size))
            have hsz : w.heap.size ≤ w4.heap.size := HB4.out.size
            clear hb5
            go_wp2_with (at_builtin; refine append_list Tryd.underlying34 info3 _ rfl _ _ rfl w.heap.size _ (song l k ++ frames l k j) (frm l k j) rfl (HK4.out.later (newb _ _)) ⟨w4.heap.size, 0, none⟩ rfl ?c1 ?c2 ?c3 ?c4)
            case c1 => simp [HE.out]
            case c2 => have := HLN.out; rw [List.length_append] at this; first | omega | (rw [List.length_append]; omega)
            case c3 => first | omega | (simp; omega)
            case c4 =>
              intro v' w5 hown5 hgrow
              have HO5 := Lib.hid hown5
              have HG5 := Lib.hid (below_grownL (HB4.out.trans ((newb w4 _).mono HB4.out.size)) (HK4.out.later (newb _ _)) hgrow (by simp; omega) (Nat.le_refl _))
              have HN5 := Lib.hid (show NoteBlk _ N (l k) from block_grown (block_later HN4.out (newb w4 _)) (by decide) (HK4.out.later (newb _ _)) hgrow)
              clear hown5 hgrow
              go_wp2_with fail
              go_roundw
              case rel => exact ⟨j + 1, by omega, by go_num, by rw [frames_succ]; exact HO5.out, HN5.out, HG5.out⟩
              case measure => simp [intOf]; omega
          · have HE := Lib.hid (show frm l k j = 100 * (l k).key + vib (l k) j by
              by_cases h : (j : Int) < (l k).glide
              · have : k = 0 := by omega
                subst this; exact frm_first _
              · exact frm_over (by omega))
            have hsz : w.heap.size ≤ w3.heap.size := HB3.out.size
            have hcase : (l k).glide ≤ j ∨ ((j : Int) < (l k).glide ∧ (k : Int) ≤ 0) := by omega
            clear a0' a1' hgl
            rcases hcase with hg1 | ⟨hg1, hk0⟩
            · go_wp2_with (at_builtin; refine append_list Tryd.underlying34 info3 _ rfl _ _ rfl w.heap.size _ (song l k ++ frames l k j) (frm l k j) rfl (HK3.out.later (newb _ _)) ⟨w3.heap.size, 0, none⟩ rfl ?c1c ?c2c ?c3c ?c4c)
              case c1c => simp [HE.out]
              case c2c => have := HLN.out; rw [List.length_append] at this; first | omega | (rw [List.length_append]; omega)
              case c3c => first | omega | (simp; omega)
              case c4c =>
                intro v' w5 hown5 hgrow
                have HO5 := Lib.hid hown5
                have HG5 := Lib.hid (below_grownL (HB3.out.trans ((newb w3 _).mono HB3.out.size)) (HK3.out.later (newb _ _)) hgrow (by simp; omega) (Nat.le_refl _))
                have HN5 := Lib.hid (show NoteBlk _ N (l k) from block_grown (block_later HN3.out (newb w3 _)) (by decide) (HK3.out.later (newb _ _)) hgrow)
                clear hown5 hgrow
                go_wp2_with fail
                go_roundw
                case rel => exact ⟨j + 1, by omega, by go_num, by rw [frames_succ]; exact HO5.out, HN5.out, HG5.out⟩
                case measure => simp [intOf]; omega
            · go_wp2_with (at_builtin; refine append_list Tryd.underlying34 info3 _ rfl _ _ rfl w.heap.size _ (song l k ++ frames l k j) (frm l k j) rfl (HK3.out.later (newb _ _)) ⟨w3.heap.size, 0, none⟩ rfl ?c1d ?c2d ?c3d ?c4d)
              case c1d => simp [HE.out]
              case c2d => have := HLN.out; rw [List.length_append] at this; first | omega | (rw [List.length_append]; omega)
              case c3d => first | omega | (simp; omega)
              case c4d =>
                intro v' w5 hown5 hgrow
                have HO5 := Lib.hid hown5
                have HG5 := Lib.hid (below_grownL (HB3.out.trans ((newb w3 _).mono HB3.out.size)) (HK3.out.later (newb _ _)) hgrow (by simp; omega) (Nat.le_refl _))
                have HN5 := Lib.hid (show NoteBlk _ N (l k) from block_grown (block_later HN3.out (newb w3 _)) (by decide) (HK3.out.later (newb _ _)) hgrow)
                clear hown5 hgrow
                go_wp2_with fail
                go_roundw
                case rel => exact ⟨j + 1, by omega, by go_num, by rw [frames_succ]; exact HO5.out, HN5.out, HG5.out⟩
                case measure => simp [intOf]; omega
        · have HJ := Lib.hid (show j = (l k).len.toNat by omega)
          have hle : (l k).len ≤ j := by omega
          go_wp2_with fail
          go_roundw
          case rel => exact ⟨k + 1, by omega, by go_num, by show GrowL _ _ _ (song l k ++ frames l k (l k).len.toNat); rw [← HJ.out]; exact HK.out, HB.out⟩
          case measure => simp [intOf]; omega
    · have hle : m ≤ k := by omega
      have HJ := Lib.hid (show k = m by omega)
      go_wp2_with fail
      go_ret
      obtain ⟨q, c, h1, h2⟩ := HK.out.ints
      exact ⟨q, c, by rw [← HJ.out]; exact congrArg _ h1, by rw [← HJ.out]; exact h2, HB.out⟩
end Go.Proofs.YtijonghofghocaaDoor
