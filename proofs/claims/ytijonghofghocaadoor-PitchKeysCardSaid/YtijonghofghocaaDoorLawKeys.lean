/-
  The walk of PitchKeys: it answers true. Conditions: the table of semitones lies as the program's text lays it; the slice reads as its notes.
-/
import Derived.Test.YtijonghofghocaaDoorKnown
namespace Go.Proofs.YtijonghofghocaaDoor
open Go.RowKit

theorem song_len_succ (l : Nat → Note) (k : Nat) : (song l (k + 1)).length = (song l k).length + (l k).len.toNat := by simp [song, frames]
theorem song_len_le (l : Nat → Note) {k : Nat} : ∀ {m : Nat}, k ≤ m → (song l k).length ≤ (song l m).length
  | 0, h => by
    have : k = 0 := by omega
    rw [this]; exact Nat.le_refl _
  | m + 1, h => by
    by_cases e : k = m + 1
    · rw [e]; exact Nat.le_refl _
    · have := song_len_le l (show k ≤ m by omega)
      rw [song_len_succ]
      omega
theorem song_in (l : Nat → Note) {k i m : Nat} (hk : k < m) (hi : i < (l k).len.toNat) : (song l k).length + i < (song l m).length := by
  have := song_len_le l (show k + 1 ≤ m by omega)
  rw [song_len_succ] at this
  omega
theorem song_get (l : Nat → Note) {k i : Nat} (hi : i < (l k).len.toNat) : ∀ {m : Nat}, k < m → (song l m).getD ((song l k).length + i) 0 = frm l k (i : Int)
  | 0, h => by omega
  | m + 1, h => by
    show (song l m ++ frames l m (l m).len.toNat).getD _ 0 = _
    by_cases e : k = m
    · subst e
      simp [List.getD_eq_getElem?_getD, frames, hi]
    · have h1 := song_in l (show k < m by omega) hi
      rw [List.getD_eq_getElem?_getD, List.getElem?_append_left h1, ← List.getD_eq_getElem?_getD]
      exact song_get l hi (by omega)
/-- A frame of a note that does not glide from another. -/
theorem frm_near {l : Nat → Note} {k : Nat} (hx : noteOk (l k) = true) {i : Int} (h : k = 0 ∨ (l k).glide ≤ 0) (h0 : 0 ≤ i) : 100 * (l k).key - (l k).depth ≤ frm l k i ∧ frm l k i ≤ 100 * (l k).key + (l k).depth := by
  have hv := vib_bd hx i
  have e : frm l k i = 100 * (l k).key + vib (l k) i := by
    rcases h with rfl | h
    · exact frm_first i
    · exact frm_over (by omega)
  omega
theorem frm_between {l : Nat → Note} {k : Nat} (hx : noteOk (l k) = true) {i : Int} (hk : 0 < k) (h0 : 0 ≤ i) :
    min (100 * (l k).key) (100 * (l (k - 1)).key) - (l k).depth ≤ frm l k i ∧ frm l k i ≤ max (100 * (l k).key) (100 * (l (k - 1)).key) + (l k).depth := by
  have hv := vib_bd hx i
  have hg := gld_bd (k := (l (k - 1)).key) hx h0
  have e : frm l k i = 100 * (l k).key + vib (l k) i + gld (l (k - 1)).key (l k) i := by simp [frm, hk]
  rcases Int.le_total (l k).key (l (k - 1)).key with h | h
  · have := hg.1 h
    omega
  · have := hg.2 h
    omega
theorem frm_start {l : Nat → Note} {k : Nat} (hx : noteOk (l k) = true) (hk : 0 < k) (hg : 0 < (l k).glide) : frm l k 0 = 100 * (l (k - 1)).key := by
  have e : frm l k 0 = 100 * (l k).key + vib (l k) 0 + gld (l (k - 1)).key (l k) 0 := by simp [frm, hk]
  have hn := noteOk_iff hx
  rw [e, gld_first hg, vib_flat hx (.inr (by omega))]
  omega
theorem frm_flat {l : Nat → Note} {k : Nat} (hx : noteOk (l k) = true) {i : Int} (hg : (l k).glide ≤ i) (h : (l k).depth = 0 ∨ i ≤ (l k).delay) : frm l k i = 100 * (l k).key := by
  rw [frm_over hg, vib_flat hx h]
  omega

set_option maxRecDepth 100000 in
set_option maxHeartbeats 16000000 in
theorem keys_main (l : Nat → Note) (p : Option Addr) (m cap : Nat) (w : World) (hm : m ≤ 20) (hv : notesB l m = true) (hc : Row w p m 6 (noteCell l)) (ht : Table w) :
    Calls Tryd.prog 12 #[.slice p m cap] w fun e w' => e = .returned (.bool true) ∧ Below w.heap.size w w' := by
  have HT := Lib.hid ht
  have HC := Lib.hid hc
  have HV := Lib.hid hv
  have hm' : (m : Int) ≤ 20 := by omega
  have HA := Lib.hid (allTo_iff.1 (notes_iff hv).2.1)
  have hln := song_le hv (Nat.le_refl m)
  have HLN := Lib.hid hln
  clear ht hv hc hln
  go_enter Tryd.func12, Tryd.ntmps12
  go_wp2_with fail
  refine (notes_any l p m cap _ HC.out (by omega)).mono ?_
  rintro e w1 ⟨rfl, hb1⟩
  rw [HV.out]
  have HB1 := Lib.hid hb1
  clear hb1
  go_wp2_with fail
  refine (Sing_ok l p m cap _ (HC.out.mono HB1.out) HV.out).mono ?_
  rintro e w2 ⟨q, cq, rfl, hi, hb2⟩
  have HB2 := Lib.hid (HB1.out.trans (hb2.mono HB1.out.size))
  obtain ⟨L, hL⟩ : ∃ L, L = (song l m).length := ⟨_, rfl⟩
  rw [← hL] at hi HLN
  rw [← hL]
  have HL := Lib.hid hL
  have HI2 := Lib.hid hi
  clear hL
  have HC2 := Lib.hid (HC.out.mono HB2.out)
  clear hb2 hi HB1
  go_wp2_with fail
  go_loopw [5, 6] (fun at' n wr => ∃ k : Nat, k ≤ m ∧ n = .int .i64 k ∧ at' = .int .i64 ((song l k).length : Int) ∧ Below w2.heap.size w2 wr) (fun _ n _ => m - (intOf n).toNat)
  case atStart => exact ⟨0, Nat.zero_le _, rfl, rfl, Below.refl _ _⟩
  case round =>
    obtain ⟨k, hk, rfl, rfl, hb⟩ := hrel
    have HB := Lib.hid hb
    clear hb
    by_cases hlt : k < m
    · obtain ⟨b, off, rfl, hbs, hcell⟩ := HC2.out.at (by omega)
      obtain ⟨k0, k1, k2, k3, k4, k5⟩ := note_at HB.out hbs hcell hlt
      have HP := Lib.hid (show 0 < k → w2.cell? ⟨b, off + (k - 1) * 6, none⟩ = some (.int .i64 (l (k - 1)).key) from fun _ => hcell (k - 1) (by omega) 0 (by omega))
      clear hcell
      have hok := HA.out k hlt
      have HO := Lib.hid hok
      obtain ⟨n1, n2, n3, n4, n5, n6⟩ := noteOk_iff hok
      clear hok
      go_wp2_with fail
      clear k0 k1 k2 k3 k4 k5
      refine wp_gen (fun w3 => Below w2.heap.size w2 w3 ∧ NoteBlk w3 wr.heap.size (l k)) ⟨HB.out.alloc HB.out.size _, heap_alloc_new _ _⟩ ?_
      obtain ⟨N, hN⟩ : ∃ N, N = wr.heap.size := ⟨_, rfl⟩
      rw [← hN]
      rintro w3 ⟨hB3, hNB⟩
      have HB3 := Lib.hid hB3
      have HNB := Lib.hid hNB
      obtain ⟨a0, a1, a2, a3, a4, a5⟩ := hNB.cells
      clear hB3 hNB hN HB
      go_quiet (fail)
      by_cases hgl : 0 < k ∧ 0 < (l k).glide
      · obtain ⟨hk0, hg0⟩ := hgl
        have hk0' : (0 : Int) < k := by omega
        have k1 : w3.cell? ⟨b, off + (k - 1) * 6, none⟩ = some (.int .i64 (l (k - 1)).key) := by rw [HB3.out.cell hbs]; exact HP.out hk0
        obtain ⟨m1, _⟩ := noteOk_iff (HA.out (k - 1) (by omega))
        have e3 : (k : Int) - 1 < m := by omega
        have e0 : IntKind.i64.wrap (↑k - 1) = ↑k - 1 := IntWalk.i64_in _ (by omega)
        have e1 : (0 : Int) ≤ ↑k - 1 := by omega
        have e2 : ((k : Int) - 1).toNat = k - 1 := by omega
        go_wp2_with fail
        go_quiet (fail)
        obtain ⟨lo, hlo⟩ : ∃ lo, lo = (if (l (k - 1)).key < (l k).key then 100 * (l (k - 1)).key else 100 * (l k).key) := ⟨_, rfl⟩
        obtain ⟨hi, hhi⟩ : ∃ hi, hi = (if (l k).key < (l (k - 1)).key then 100 * (l (k - 1)).key else 100 * (l k).key) := ⟨_, rfl⟩
        rw [← hlo, ← hhi]
        have HLO := Lib.hid (show ∀ j : Nat, lo - (l k).depth ≤ frm l k j ∧ frm l k j ≤ hi + (l k).depth from fun j => by
          have h := frm_between (l := l) HO.out (i := (j : Int)) hk0 (by omega)
          have e1 : lo = min (100 * (l k).key) (100 * (l (k - 1)).key) := by rw [hlo]; split <;> omega
          have e2 : hi = max (100 * (l k).key) (100 * (l (k - 1)).key) := by rw [hhi]; split <;> omega
          rw [e1, e2]; exact h)
        have hlb : 0 ≤ lo ∧ lo ≤ 11900 := by rw [hlo]; split <;> omega
        have hhb : 0 ≤ hi ∧ hi ≤ 11900 := by rw [hhi]; split <;> omega
        clear hlo hhi k1
        go_wp2_with fail
        go_loopw [5, 10] (fun at' i wi => ∃ j : Nat, (j : Int) ≤ (l k).len ∧ i = .int .i64 j ∧ at' = .int .i64 (((song l k).length + j : Nat) : Int) ∧ NoteBlk wi N (l k) ∧ Below w2.heap.size w2 wi) (fun _ i _ => (l k).len.toNat - (intOf i).toNat)
        case atStart => exact ⟨0, by omega, rfl, by simp, block_later HNB.out (by repeat first | exact Below.refl _ _ | refine below_drewN ?_ _), (by repeat first | exact HB3.out | refine below_drewN ?_ _)⟩
        case round =>
          obtain ⟨j, hj, rfl, rfl, hNb, hb⟩ := hrel
          have HB := Lib.hid hb
          have HNb := Lib.hid hNb
          obtain ⟨a0, a1, a2, a3, a4, a5⟩ := hNb.cells
          clear hb hNb
          by_cases hji : (j : Int) < (l k).len
          · have hpos := song_in l hlt (show j < (l k).len.toNat by omega)
            have hln := HLN.out
            rw [← HL.out] at hpos
            obtain ⟨z, hz⟩ : ∃ z, z = (song l k).length + j := ⟨_, rfl⟩
            rw [← hz] at hpos
            rw [← hz]
            have HZ := Lib.hid hz
            clear hz
            have hpl : (z : Int) < L := by omega
            have hdz : decide ((L : Int) ≤ (z : Int)) = false := by simp; omega
            have hdn : decide (L ≤ z) = false := by simp; omega
            obtain ⟨b2, off2, rfl, hbs2, hcell2⟩ := HI2.out.at (by omega)
            have kv : wr.cell? ⟨b2, off2 + z, none⟩ = some (.int .i64 (frm l k j)) := by
              rw [HB.out.cell hbs2, hcell2 _ hpos, HZ.out, song_get l (by omega) hlt]
            clear hcell2
            obtain ⟨hy1, hy2⟩ := HLO.out j
            have HF := Lib.hid (fun h1 h2 => frm_flat (l := l) (k := k) HO.out (i := (j : Int)) h1 h2)
            obtain ⟨y, hy⟩ : ∃ y, y = frm l k j := ⟨_, rfl⟩
            rw [← hy] at kv hy1 hy2 HF
            have HY := Lib.hid hy
            clear hy
            have hdl : decide (y < lo - (l k).depth) = false := by simp; omega
            have hdh : decide (hi + (l k).depth < y) = false := by simp; omega
            have hgl2 : decide ((l k).glide ≤ (j : Int)) = false ∨ (decide ((l k).glide ≤ (j : Int)) = true ∧ ((l k).depth == 0) = false ∧ decide ((j : Int) ≤ (l k).delay) = false) ∨ (decide ((l k).glide ≤ (j : Int)) = true ∧ ((l k).depth == 0) = true) ∨
                (decide ((l k).glide ≤ (j : Int)) = true ∧ ((l k).depth == 0) = false ∧ decide ((j : Int) ≤ (l k).delay) = true) := by
              by_cases q : (l k).depth = 0
              · have q2 : ((l k).depth == 0) = true := by simp [q]
                rcases Int.lt_or_le (j : Int) (l k).glide with q3 | q3
                · exact .inl (by simp; omega)
                · exact .inr (.inr (.inl ⟨by simp; omega, q2⟩))
              · have q2 : ((l k).depth == 0) = false := by simp [q]
                rcases Int.lt_or_le (j : Int) (l k).glide with q3 | q3
                · exact .inl (by simp; omega)
                · rcases Int.lt_or_le (l k).delay (j : Int) with q4 | q4
                  · exact .inr (.inl ⟨by simp; omega, q2, by simp; omega⟩)
                  · exact .inr (.inr (.inr ⟨by simp; omega, q2, by simp; omega⟩))
            have ej : ((j : Int) == 0) = true ∨ ((j : Int) == 0) = false := by cases (j : Int) == 0 <;> simp
            go_wp2_with fail
            go_quiet (fail)
            go_wp2_with fail
            rcases ej with ej | ej
            · have hj0 : (j : Int) = 0 := by simpa using ej
              have hj0' : j = 0 := by omega
              have k1' : wr.cell? ⟨b, off + (k - 1) * 6, none⟩ = some (.int .i64 (l (k - 1)).key) := by rw [HB.out.cell hbs]; exact HP.out hk0
              have HY0 := HY.out
              rw [hj0, frm_start HO.out hk0 hg0] at HY0
              rw [HY0] at kv
              have g1 : decide ((l k).glide ≤ (j : Int)) = false := by simp; omega
              have hdg : decide (0 < (l k).glide) = true := by simp; omega
              have hdg2 : decide ((l k).glide ≤ 0) = false := by simp; omega
              have hdk : decide ((0 : Int) < (k : Int)) = true := by simp; omega
              have hdk2 : decide (0 < k) = true := by simp; omega
              clear hgl2 HY0
              go_quiet (fail)
              go_wp2_with fail
              go_quiet (fail)
              go_wp2_with fail
              go_roundw
              case rel => exact ⟨j + 1, by omega, by go_num, by have := HZ.out; go_num, block_later HNb.out (by repeat first | exact Below.refl _ _ | refine below_drewN ?_ _), (by repeat first | exact HB.out | refine below_drewN ?_ _)⟩
              case measure => simp [intOf]; omega
            · rcases hgl2 with g1 | ⟨g1, d0, d1⟩ | ⟨g1, d0⟩ | ⟨g1, d0, d1⟩
              rotate_left 2
              · have hf := HF.out (of_decide_eq_true g1) (.inl (by simpa using d0))
                rw [hf] at kv
                clear hf
                go_quiet (fail)
                go_wp2_with fail
                go_quiet (fail)
                go_wp2_with fail
                go_roundw
                case rel => exact ⟨j + 1, by omega, by go_num, by have := HZ.out; go_num, block_later HNb.out (by repeat first | exact Below.refl _ _ | refine below_drewN ?_ _), (by repeat first | exact HB.out | refine below_drewN ?_ _)⟩
                case measure => simp [intOf]; omega
              · have hf := HF.out (of_decide_eq_true g1) (.inr (of_decide_eq_true d1))
                rw [hf] at kv
                clear hf
                go_quiet (fail)
                go_wp2_with fail
                go_quiet (fail)
                go_wp2_with fail
                go_roundw
                case rel => exact ⟨j + 1, by omega, by go_num, by have := HZ.out; go_num, block_later HNb.out (by repeat first | exact Below.refl _ _ | refine below_drewN ?_ _), (by repeat first | exact HB.out | refine below_drewN ?_ _)⟩
                case measure => simp [intOf]; omega
              all_goals
                go_quiet (fail)
                go_wp2_with fail
                go_quiet (fail)
                go_wp2_with fail
                go_roundw
                case rel => exact ⟨j + 1, by omega, by go_num, by have := HZ.out; go_num, block_later HNb.out (by repeat first | exact Below.refl _ _ | refine below_drewN ?_ _), (by repeat first | exact HB.out | refine below_drewN ?_ _)⟩
                case measure => simp [intOf]; omega
          · have hle : (l k).len ≤ j := by omega
            have HJ := Lib.hid (show j = (l k).len.toNat by omega)
            go_wp2_with fail
            go_roundw
            case rel => exact ⟨k + 1, by omega, by go_num, by rw [song_len_succ, HJ.out], HB.out⟩
            case measure => simp [intOf]; omega
      · have hcase : (k : Int) ≤ 0 ∨ ((0 : Int) < k ∧ (l k).glide ≤ 0) := by omega
        have HLO := Lib.hid (show ∀ j : Nat, 100 * (l k).key - (l k).depth ≤ frm l k j ∧ frm l k j ≤ 100 * (l k).key + (l k).depth from fun j =>
          frm_near HO.out (i := (j : Int)) (by omega) (by omega))
        have hA : (decide ((0 : Int) < (k : Int)) = false ∧ decide (0 < k) = false) ∨ (decide ((0 : Int) < (k : Int)) = true ∧ decide (0 < k) = true ∧ decide (0 < (l k).glide) = false) := by
          rcases hcase with q | ⟨q, q2⟩
          · exact .inl ⟨by simp; omega, by simp; omega⟩
          · exact .inr ⟨by simp; omega, by simp; omega, by simp; omega⟩
        clear hgl hcase
        rcases hA with ⟨hk0, hk1⟩ | ⟨hk0, hk1, hg0⟩
        all_goals
          go_wp2_with fail
          go_loopw [5, 10] (fun at' i wi => ∃ j : Nat, (j : Int) ≤ (l k).len ∧ i = .int .i64 j ∧ at' = .int .i64 (((song l k).length + j : Nat) : Int) ∧ NoteBlk wi N (l k) ∧ Below w2.heap.size w2 wi) (fun _ i _ => (l k).len.toNat - (intOf i).toNat)
          case atStart => exact ⟨0, by omega, rfl, by simp, block_later HNB.out (by repeat first | exact Below.refl _ _ | refine below_drewN ?_ _), (by repeat first | exact HB3.out | refine below_drewN ?_ _)⟩
          case round =>
            obtain ⟨j, hj, rfl, rfl, hNb, hb⟩ := hrel
            have HB := Lib.hid hb
            have HNb := Lib.hid hNb
            obtain ⟨a0, a1, a2, a3, a4, a5⟩ := hNb.cells
            clear hb hNb
            by_cases hji : (j : Int) < (l k).len
            · have hpos := song_in l hlt (show j < (l k).len.toNat by omega)
              have hln := HLN.out
              rw [← HL.out] at hpos
              obtain ⟨z, hz⟩ : ∃ z, z = (song l k).length + j := ⟨_, rfl⟩
              rw [← hz] at hpos
              rw [← hz]
              have HZ := Lib.hid hz
              clear hz
              have hpl : (z : Int) < L := by omega
              have hdz : decide ((L : Int) ≤ (z : Int)) = false := by simp; omega
              have hdn : decide (L ≤ z) = false := by simp; omega
              obtain ⟨b2, off2, rfl, hbs2, hcell2⟩ := HI2.out.at (by omega)
              have kv : wr.cell? ⟨b2, off2 + z, none⟩ = some (.int .i64 (frm l k j)) := by
                rw [HB.out.cell hbs2, hcell2 _ hpos, HZ.out, song_get l (by omega) hlt]
              clear hcell2
              obtain ⟨hy1, hy2⟩ := HLO.out j
              have HF := Lib.hid (fun h1 h2 => frm_flat (l := l) (k := k) HO.out (i := (j : Int)) h1 h2)
              obtain ⟨y, hy⟩ : ∃ y, y = frm l k j := ⟨_, rfl⟩
              rw [← hy] at kv hy1 hy2 HF
              have HY := Lib.hid hy
              clear hy
              have hdl : decide (y < (100 * (l k).key) - (l k).depth) = false := by simp; omega
              have hdh : decide ((100 * (l k).key) + (l k).depth < y) = false := by simp; omega
              have hgl2 : decide ((l k).glide ≤ (j : Int)) = false ∨ (decide ((l k).glide ≤ (j : Int)) = true ∧ ((l k).depth == 0) = false ∧ decide ((j : Int) ≤ (l k).delay) = false) ∨ (decide ((l k).glide ≤ (j : Int)) = true ∧ ((l k).depth == 0) = true) ∨
                  (decide ((l k).glide ≤ (j : Int)) = true ∧ ((l k).depth == 0) = false ∧ decide ((j : Int) ≤ (l k).delay) = true) := by
                by_cases q : (l k).depth = 0
                · have q2 : ((l k).depth == 0) = true := by simp [q]
                  rcases Int.lt_or_le (j : Int) (l k).glide with q3 | q3
                  · exact .inl (by simp; omega)
                  · exact .inr (.inr (.inl ⟨by simp; omega, q2⟩))
                · have q2 : ((l k).depth == 0) = false := by simp [q]
                  rcases Int.lt_or_le (j : Int) (l k).glide with q3 | q3
                  · exact .inl (by simp; omega)
                  · rcases Int.lt_or_le (l k).delay (j : Int) with q4 | q4
                    · exact .inr (.inl ⟨by simp; omega, q2, by simp; omega⟩)
                    · exact .inr (.inr (.inr ⟨by simp; omega, q2, by simp; omega⟩))
              have ej : ((j : Int) == 0) = true ∨ ((j : Int) == 0) = false := by cases (j : Int) == 0 <;> simp
              go_wp2_with fail
              go_quiet (fail)
              go_wp2_with fail
              rcases hgl2 with g1 | ⟨g1, d0, d1⟩ | ⟨g1, d0⟩ | ⟨g1, d0, d1⟩
              rotate_left 2
              · have hf := HF.out (of_decide_eq_true g1) (.inl (by simpa using d0))
                rw [hf] at kv
                clear hf
                rcases ej with ej | ej
                all_goals
                  go_quiet (fail)
                  go_wp2_with fail
                  go_quiet (fail)
                  go_wp2_with fail
                  go_roundw
                  case rel => exact ⟨j + 1, by omega, by go_num, by have := HZ.out; go_num, block_later HNb.out (by repeat first | exact Below.refl _ _ | refine below_drewN ?_ _), (by repeat first | exact HB.out | refine below_drewN ?_ _)⟩
                  case measure => simp [intOf]; omega
              · have hf := HF.out (of_decide_eq_true g1) (.inr (of_decide_eq_true d1))
                rw [hf] at kv
                clear hf
                rcases ej with ej | ej
                all_goals
                  go_quiet (fail)
                  go_wp2_with fail
                  go_quiet (fail)
                  go_wp2_with fail
                  go_roundw
                  case rel => exact ⟨j + 1, by omega, by go_num, by have := HZ.out; go_num, block_later HNb.out (by repeat first | exact Below.refl _ _ | refine below_drewN ?_ _), (by repeat first | exact HB.out | refine below_drewN ?_ _)⟩
                  case measure => simp [intOf]; omega
              all_goals
                rcases ej with ej | ej
                all_goals
                  go_quiet (fail)
                  go_wp2_with fail
                  go_quiet (fail)
                  go_wp2_with fail
                  go_roundw
                  case rel => exact ⟨j + 1, by omega, by go_num, by have := HZ.out; go_num, block_later HNb.out (by repeat first | exact Below.refl _ _ | refine below_drewN ?_ _), (by repeat first | exact HB.out | refine below_drewN ?_ _)⟩
                  case measure => simp [intOf]; omega
            · have hle : (l k).len ≤ j := by omega
              have HJ := Lib.hid (show j = (l k).len.toNat by omega)
              go_wp2_with fail
              go_roundw
              case rel => exact ⟨k + 1, by omega, by go_num, by rw [song_len_succ, HJ.out], HB.out⟩
              case measure => simp [intOf]; omega
    · have hle : m ≤ k := by omega
      have HJ := Lib.hid (show k = m by omega)
      have hb3 := HB.out
      have HBW := Lib.hid (HB2.out.trans (hb3.mono HB2.out.size))
      clear hb3
      rw [show (song l k).length = L by rw [HL.out, HJ.out]]
      go_wp2_with fail
      refine (known_any _ (HT.out.later HBW.out)).mono ?_
      rintro e wk ⟨rfl, hbk⟩
      have HBK := Lib.hid (HBW.out.trans (hbk.mono HBW.out.size))
      clear hbk
      go_wp2_with fail
      go_ret
      exact ⟨rfl, HBK.out⟩

set_option maxRecDepth 100000 in
set_option maxHeartbeats 4000000 in
theorem keys_law (l : Nat → Note) (p : Option Addr) (m cap : Nat) (w : World) (hm : m ≤ 9223372036854775807) (hc : Row w p m 6 (noteCell l)) (ht : Table w) :
    Calls Tryd.prog 12 #[.slice p m cap] w fun e w' => e = .returned (.bool true) ∧ Below w.heap.size w w' := by
  by_cases h20 : m ≤ 20
  · cases hv : notesB l m with
    | false =>
      have HT := Lib.hid ht
      have HC := Lib.hid hc
      have HV := Lib.hid hv
      have h20' : (m : Int) ≤ 20 := by omega
      clear ht hc hv
      go_enter Tryd.func12, Tryd.ntmps12
      go_wp2_with fail
      refine (notes_any l p m cap _ HC.out (by omega)).mono ?_
      rintro e w1 ⟨rfl, hb1⟩
      rw [HV.out]
      have HB1 := Lib.hid hb1
      clear hb1
      go_wp2_with fail
      refine (known_any _ (HT.out.later HB1.out)).mono ?_
      rintro e wk ⟨rfl, hbk⟩
      have HBK := Lib.hid (HB1.out.trans (hbk.mono HB1.out.size))
      clear hbk
      go_wp2_with fail
      go_ret
      exact ⟨rfl, HBK.out⟩
    | true => exact keys_main l p m cap w h20 hv hc ht
  · have HT := Lib.hid ht
    have h20' : (20 : Int) < m := by omega
    clear ht hc
    go_enter Tryd.func12, Tryd.ntmps12
    go_wp2_with fail
    refine (known_any _ HT.out).mono ?_
    rintro e wk ⟨rfl, hbk⟩
    have HBK := Lib.hid hbk
    clear hbk
    go_wp2_with fail
    go_ret
    exact ⟨rfl, HBK.out⟩
end Go.Proofs.YtijonghofghocaaDoor
