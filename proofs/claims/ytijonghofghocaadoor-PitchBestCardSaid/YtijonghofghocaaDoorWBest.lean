/-
  The walk of the window's best. Condition: the window is the call's own and holds a candidate.
-/
import Derived.Test.YtijonghofghocaaDoorPush
namespace Go.Proofs.YtijonghofghocaaDoor
open Go.RowKit

theorem fb_take {o : Int × Int} {l : List (Int × Int)} {k : Nat} (h : k < l.length) : fb o (l.take (k + 1)) = if (l[k]).2 < (fb o (l.take k)).2 then l[k] else fb o (l.take k) := by
  rw [List.take_succ_eq_append_getElem h]
  unfold fb
  rw [List.foldl_append]
  rfl

/-- The box of a way. -/
def WayBox (w : World) (N : Nat) (x : Int × Int) : Prop := w.heap[N]? = some (.cells #[.int .i64 x.1, .int .i64 x.2] 104 (0, 0))
theorem WayBox.cells {w : World} {N : Nat} {x : Int × Int} (h : WayBox w N x) : w.cell? ⟨N, 0, none⟩ = some (.int .i64 x.1) ∧ w.cell? ⟨N, 1, none⟩ = some (.int .i64 x.2) ∧ w.frozen? ⟨N, 0, none⟩ = false ∧ w.frozen? ⟨N, 1, none⟩ = false := by
  simp [World.cell?, World.frozen?, show w.heap[N]? = _ from h]
theorem WayBox.later {w w' : World} {N : Nat} {x : Int × Int} (h : WayBox w N x) (hb : Below w.heap.size w w') : WayBox w' N x := block_later h hb
theorem WayBox.lt {w : World} {N : Nat} {x : Int × Int} (h : WayBox w N x) : N < w.heap.size := lt_of_block h

theorem Win.later {w w' : World} {B : Nat} {v : Value} {L : List (Int × Int)} (h : Win w B v L) (hb : Below w.heap.size w w') : Win w' B v L := ⟨block_later h.blk hb, ownsRow_later h.row hb⟩
theorem wcells_get : ∀ (L : List (Int × Int)) (i : Nat) (h : i < L.length), (wcells L)[i * 2]? = some (.int .i64 (L[i]).1) ∧ (wcells L)[i * 2 + 1]? = some (.int .i64 (L[i]).2)
  | [], i, h => by simp at h
  | x :: L, 0, h => by simp [wcells]
  | x :: L, i + 1, h => by
    have ih := wcells_get L i (by simpa using h)
    have e : (i + 1) * 2 = i * 2 + 2 := by omega
    rw [e]
    simp only [wcells, List.getElem?_cons_succ, List.getElem_cons_succ]
    exact ih

theorem Win.keep {w w' : World} {B K : Nat} {v : Value} {L : List (Int × Int)} (h : Win w B v L) (hb : Below K w w') (hB : B < K) (hg : ∀ k, v.ownBlock = some k → k < K) : Win w' B v L := by
  refine ⟨(hb.block B hB).trans h.blk, h.row.1, ?_⟩
  rcases h.row.2 with hn | ⟨g, c, cur, hv, hb', hgb, rest⟩
  · exact .inl hn
  · exact .inr ⟨g, c, cur, hv, hb', by rw [hb.block g (hg g (by rw [hv]; rfl))]; exact hgb, rest⟩
theorem WEff.below {B : Nat} {v v' : Value} {w w1 w2 : World} (h : WEff B v v' w w1) (hb : Below w.heap.size w1 w2) : WEff B v v' w w2 :=
  ⟨hb.os.trans h.os, hb.tape.trans h.tape, hb.output.trans h.output, Nat.le_trans h.size hb.size, fun k hk h1 h2 => (hb.block k hk).trans (h.block k hk h1 h2), h.own⟩
/-- The window made empty. -/
theorem Win.cut {w wr : World} {B g n cc : Nat} {L : List (Int × Int)} (h : Win w B (.slice (some ⟨g, 0, none⟩) (n + 1) cc) L) (hb : Below w.heap.size w wr) :
    Win (wr.setCell ⟨B, 0, none⟩ (.slice (some ⟨g, 0, none⟩) 0 cc)) B (.slice (some ⟨g, 0, none⟩) 0 cc) [] ∧
      WEff B (.slice (some ⟨g, 0, none⟩) (n + 1) cc) (.slice (some ⟨g, 0, none⟩) 0 cc) w (wr.setCell ⟨B, 0, none⟩ (.slice (some ⟨g, 0, none⟩) 0 cc)) := by
  have h1 := h.later hb
  refine ⟨⟨?_, rfl, ?_⟩, ?_⟩
  · rw [heap_setCell_same wr B 0 _ 108 _ h1.blk]; rfl
  · rcases h1.row.2 with ⟨hn, _⟩ | ⟨g', c, cur, hv, hb', hgb, _, hc, hs, _⟩
    · cases hn
    · simp only [Value.slice.injEq, Option.some.injEq, Addr.mk.injEq] at hv
      obtain ⟨⟨rfl, _⟩, _, rfl⟩ := hv
      exact .inr ⟨g, cc, cur, rfl, hb', by rw [Below.heap_setCell wr _ _ g (by show g ≠ B; omega)]; exact hgb, Nat.zero_le _, hc, hs, by simp [wcells]⟩
  · refine ⟨hb.os, hb.tape, hb.output, by simpa [World.setCell] using hb.size, fun k hk hkB _ => ?_, .inl rfl⟩
    rw [Below.heap_setCell wr _ _ k hkB, hb.block k hk]

/-- The best candidate, taken out. -/
def Took (B : Nat) (v : Value) (r : Int × Int) (w : World) (e : Ending) (w' : World) : Prop :=
  ∃ v', e = .returned (.agg #[.int .i64 r.1, .int .i64 r.2]) ∧ Win w' B v' [] ∧ WEff B v v' w w'

theorem less_t {x c y d : Int} (h : c < d) (w : World) : Calls Tryd.prog 75 #[.agg #[.int .i64 x, .int .i64 c], .agg #[.int .i64 y, .int .i64 d]] w fun e w' => e = .returned (.bool true) ∧ Below w.heap.size w w' :=
  (less_any x c y d w).mono fun _ _ ⟨h1, h2⟩ => ⟨by rw [h1]; simp [h], h2⟩
theorem less_f {x c y d : Int} (h : ¬ c < d) (w : World) : Calls Tryd.prog 75 #[.agg #[.int .i64 x, .int .i64 c], .agg #[.int .i64 y, .int .i64 d]] w fun e w' => e = .returned (.bool false) ∧ Below w.heap.size w w' :=
  (less_any x c y d w).mono fun _ _ ⟨h1, h2⟩ => ⟨by rw [h1]; simp [h], h2⟩
theorem WayBox.set {w : World} {N : Nat} {o : Int × Int} (h : WayBox w N o) (y : Int × Int) : WayBox ((w.setCell ⟨N, 0, none⟩ (.int .i64 y.1)).setCell ⟨N, 1, none⟩ (.int .i64 y.2)) N y := by
  unfold WayBox at *
  rw [heap_setCell_same _ N 1 _ 104 _ (heap_setCell_same w N 0 _ 104 _ h)]
  rfl
theorem WayBox.other {w : World} {N : Nat} {o : Int × Int} (h : WayBox w N o) {a : Addr} (ha : N ≠ a.block) (u : Value) : WayBox (w.setCell a u) N o := by
  unfold WayBox at *
  rw [Below.heap_setCell w a u N ha]; exact h
theorem wayBox_new (w : World) (x : Int × Int) : WayBox (w.alloc (.cells #[.int .i64 x.1, .int .i64 x.2] 104)) w.heap.size x := heap_alloc_new _ _

set_option maxRecDepth 100000 in
set_option maxHeartbeats 4000000 in
theorem wbest_any (B : Nat) (v : Value) (x : Int × Int) (L : List (Int × Int)) (w : World) (h : Win w B v (x :: L)) (hL : L.length ≤ 100000) :
    Calls Tryd.prog 78 #[.pointer (some ⟨B, 0, none⟩)] w (Took B v (fb x L) w) := by
  obtain ⟨g, cc, hv⟩ := row_form (n := L.length) h.row
  obtain ⟨a0, a1, a2⟩ := h.cells
  have hBl := h.lt
  have hgl := (World.ownsRow.lt h.row g (by rw [hv]; rfl)).2
  have hgB := (World.ownsRow.lt h.row g (by rw [hv]; rfl)).1
  subst hv
  have hcap : L.length + 1 ≤ cc ∧ cc ≤ maxLen := by
    rcases h.row.2 with ⟨hn, _⟩ | ⟨g', c', cur, hv, _, _, h1, h2, _⟩
    · cases hn
    · cases hv; exact ⟨h1, h2⟩
  have hcell : ∀ i (hi : i < (x :: L).length), w.cell? ⟨g, i * 2, none⟩ = some (.int .i64 ((x :: L)[i]).1) ∧ w.cell? ⟨g, i * 2 + 1, none⟩ = some (.int .i64 ((x :: L)[i]).2) := fun i hi => by
    have q := wcells_get (x :: L) i hi
    have q2 : (x :: L).length = L.length + 1 := rfl
    exact ⟨by rw [World.ownsRow.cellAt h.row (i * 2) (by omega), q.1], by rw [World.ownsRow.cellAt h.row (i * 2 + 1) (by omega), q.2]⟩
  have c0 := (hcell 0 (by simp)).1
  have c1 := (hcell 0 (by simp)).2
  simp only [Nat.zero_mul, Nat.zero_add, List.getElem_cons_zero] at c0 c1
  unfold maxLen at hcap
  have HC := Lib.hid hcell
  have HW := Lib.hid h
  clear h hcell
  have hc1 := hcap.1
  have hc2 := hcap.2
  clear hcap
  have r1 := later_cell a1
  by_cases q : cc = 1
  · have hL0 : L = [] := List.eq_nil_of_length_eq_zero (by omega)
    subst hL0
    subst q
    go_enter Tryd.func78, Tryd.ntmps78
    go_wp2_with fail
    have hNB : ¬ w.heap.size = B := by omega
    have hNB1 : ¬ w.heap.size + 1 = B := by omega
    refine wp_gen (fun wr => WayBox wr (w.heap.size + 1) x ∧ WayBox wr w.heap.size (0, 0) ∧ Below w.heap.size w wr) ⟨?_, ?_, (newb _ _).trans ((newb _ _).mono (by simp))⟩ ?_
    · simpa using wayBox_new (w.alloc (.cells #[.int .i64 0, .int .i64 0] 104)) x
    · exact (wayBox_new w (0, 0)).later (newb _ _)
    rintro wr ⟨h1, h2, hb⟩
    have HB := Lib.hid hb
    have H1 := Lib.hid h1
    have H2 := Lib.hid h2
    clear h1 h2 hb
    have b0 := keepc HB.out a0
    have b2 : wr.frozen? ⟨B, 0, none⟩ = false := by rw [HB.out.frozen (p := ⟨B, 0, none⟩) hBl]; exact a2
    obtain ⟨m0, m1, m2, m3⟩ := H1.out.cells
    obtain ⟨o0, o1, o2, o3⟩ := H2.out.cells
    go_loopw [18] (fun i w' => i = .int .i64 0 ∧ w' = wr) (fun i _ => 0)
    case atStart => exact ⟨rfl, rfl⟩
    case round =>
      obtain ⟨rfl, rfl⟩ := hrel
      go_wp2_with fail
      obtain ⟨p1, p2⟩ := HW.out.cut HB.out
      have hbb : Below w.heap.size (wr.setCell ⟨B, 0, none⟩ (.slice (some ⟨g, 0, none⟩) 0 1)) (((wr.setCell ⟨B, 0, none⟩ (.slice (some ⟨g, 0, none⟩) 0 1)).setCell ⟨w.heap.size, 0, none⟩ (.int .i64 x.1)).setCell ⟨w.heap.size, 1, none⟩ (.int .i64 x.2)) :=
        ((Below.refl _ _).setCell (by simp) _).setCell (by simp) _
      refine bodyPost_ret (v := .agg #[.int .i64 x.1, .int .i64 x.2]) (by simp [results, Tryd.results78, go_sem, o0, o1]) rfl ⟨_, rfl, p1.keep hbb hBl ?_, p2.below hbb⟩
      intro k hk
      have : g = k := by simpa [Value.ownBlock] using hk
      omega
  · have q' : ¬ cc - 1 = 0 := by omega
    go_enter Tryd.func78, Tryd.ntmps78
    go_wp2_with fail
    go_loopw [18] (fun i wr => ∃ k : Nat, k ≤ L.length ∧ i = .int .i64 k ∧ WayBox wr (w.heap.size + 1) (fb x (L.take k)) ∧ WayBox wr w.heap.size (0, 0) ∧ Below w.heap.size w wr) (fun i _ => L.length - (intOf i).toNat)
    case atStart =>
      refine ⟨0, Nat.zero_le _, rfl, ?_, ?_, (newb _ _).trans ((newb _ _).mono (by simp))⟩
      · simpa [fb] using wayBox_new (w.alloc (.cells #[.int .i64 0, .int .i64 0] 104)) x
      · exact (wayBox_new w (0, 0)).later (newb _ _)
    case round =>
      obtain ⟨k, hk, rfl, h1, h2, hb⟩ := hrel
      have HB := Lib.hid hb
      have H1 := Lib.hid h1
      have H2 := Lib.hid h2
      clear h1 h2 hb
      have hws := HB.out.size
      by_cases hlt : k < L.length
      · have k0 : wr.cell? ⟨g, 2 + k * 2, none⟩ = some (.int .i64 (L[k]).1) := by
          rw [HB.out.cell (p := ⟨g, 2 + k * 2, none⟩) hgl]
          have := (HC.out (k + 1) (by simp; omega)).1
          rw [show 2 + k * 2 = (k + 1) * 2 by omega]
          simpa using this
        have k1 : wr.cell? ⟨g, 2 + k * 2 + 1, none⟩ = some (.int .i64 (L[k]).2) := by
          rw [HB.out.cell (p := ⟨g, 2 + k * 2 + 1, none⟩) hgl]
          have := (HC.out (k + 1) (by simp; omega)).2
          rw [show 2 + k * 2 + 1 = (k + 1) * 2 + 1 by omega]
          simpa using this
        go_wp2_with fail
        clear k0 k1
        obtain ⟨y, hy⟩ : ∃ y, y = L[k] := ⟨_, rfl⟩
        have HF := Lib.hid (fb_take (o := x) hlt)
        rw [← hy] at HF
        rw [← hy]
        clear hy
        obtain ⟨o, ho⟩ : ∃ o, o = fb x (L.take k) := ⟨_, rfl⟩
        rw [← ho] at HF H1
        clear ho
        refine wp_gen (fun w2 => WayBox w2 wr.heap.size y ∧ WayBox w2 (w.heap.size + 1) o ∧ WayBox w2 w.heap.size (0, 0) ∧ Below w.heap.size w w2) ⟨wayBox_new _ _, H1.out.later (newb _ _), H2.out.later (newb _ _), HB.out.trans ((newb _ _).mono HB.out.size)⟩ ?_
        obtain ⟨M, hM⟩ : ∃ M, M = wr.heap.size := ⟨_, rfl⟩
        rw [← hM]
        rw [← hM] at hws
        clear hM H1 H2 HB wr
        rintro w2 ⟨h0, h1, h2, hb⟩
        have HB := Lib.hid hb
        have H0 := Lib.hid h0
        have H1 := Lib.hid h1
        have H2 := Lib.hid h2
        obtain ⟨m0, m1, _, _⟩ := h0.cells
        obtain ⟨o0, o1, _, _⟩ := h1.cells
        have q0 := later_cell m0
        have q1 := later_cell m1
        have q2 := later_cell o0
        have q3 := later_cell o1
        have q4 := later_cell (keepc hb a1)
        clear h0 h1 h2 hb m0 m1 o0 o1
        by_cases hlt2 : y.2 < o.2
        · rw [if_pos hlt2] at HF
          refine wp_region_later (by kernel_rfl) (by kernel_rfl) ?_
          repeat (go_big_quiet_step ((go_at_call 75; exact Calls.later_of (less_t hlt2 _))))
          refine wpQuiet_nil ?_
          rintro w3 ⟨x3, hx⟩
          have hb3 : Below w2.heap.size w2 w3 := hx ▸ x3.below
          clear hx x3 q0 q1 q2 q3 q4
          have H03 := Lib.hid (H0.out.later hb3)
          have H13 := Lib.hid (H1.out.later hb3)
          have H23 := Lib.hid (H2.out.later hb3)
          have HB3 := Lib.hid (HB.out.trans (hb3.mono HB.out.size))
          clear hb3 H0 H1 H2
          obtain ⟨m0, m1, _, _⟩ := H03.out.cells
          obtain ⟨o0, o1, o2, o3⟩ := H13.out.cells
          go_wp2_with fail
          go_roundw
          case rel => exact ⟨k + 1, by omega, by go_num, by rw [HF.out]; exact H13.out.set y, (H23.out.other (by simp) _).other (by simp) _, (HB3.out.setCell (by simp) _).setCell (by simp) _⟩
          case measure => simp [intOf]; omega
        · rw [if_neg hlt2] at HF
          refine wp_region_later (by kernel_rfl) (by kernel_rfl) ?_
          repeat (go_big_quiet_step ((go_at_call 75; exact Calls.later_of (less_f hlt2 _))))
          refine wpQuiet_nil ?_
          rintro w3 ⟨x3, hx⟩
          have hb3 : Below w2.heap.size w2 w3 := hx ▸ x3.below
          clear hx x3 q0 q1 q2 q3 q4
          have H13 := Lib.hid (H1.out.later hb3)
          have H23 := Lib.hid (H2.out.later hb3)
          have HB3 := Lib.hid (HB.out.trans (hb3.mono HB.out.size))
          clear hb3 H0 H1 H2
          go_wp2_with fail
          go_roundw
          case rel => exact ⟨k + 1, by omega, by go_num, by rw [HF.out]; exact H13.out, H23.out, HB3.out⟩
          case measure => simp [intOf]; omega
      · have hle : L.length ≤ k := by omega
        have HJ := Lib.hid (show k = L.length by omega)
        have b0 := keepc HB.out a0
        have b2 : wr.frozen? ⟨B, 0, none⟩ = false := by rw [HB.out.frozen (p := ⟨B, 0, none⟩) hBl]; exact a2
        obtain ⟨m0, m1, m2, m3⟩ := H1.out.cells
        obtain ⟨o0, o1, o2, o3⟩ := H2.out.cells
        have hNB : ¬ w.heap.size = B := by omega
        have hNB1 : ¬ w.heap.size + 1 = B := by omega
        go_wp2_with fail
        obtain ⟨p1, p2⟩ := HW.out.cut HB.out
        have hbb : Below w.heap.size (wr.setCell ⟨B, 0, none⟩ (.slice (some ⟨g, 0, none⟩) 0 cc)) (((wr.setCell ⟨B, 0, none⟩ (.slice (some ⟨g, 0, none⟩) 0 cc)).setCell ⟨w.heap.size, 0, none⟩ (.int .i64 (fb x (L.take k)).1)).setCell ⟨w.heap.size, 1, none⟩ (.int .i64 (fb x (L.take k)).2)) :=
          ((Below.refl _ _).setCell (by simp) _).setCell (by simp) _
        refine bodyPost_ret (v := .agg #[.int .i64 (fb x (L.take k)).1, .int .i64 (fb x (L.take k)).2]) (by simp [results, Tryd.results78, go_sem, o0, o1]) rfl ⟨_, ?_, p1.keep hbb hBl ?_, p2.below hbb⟩
        · rw [HJ.out, List.take_length]
        · intro k hk
          have : g = k := by simpa [Value.ownBlock] using hk
          omega
end Go.Proofs.YtijonghofghocaaDoor
