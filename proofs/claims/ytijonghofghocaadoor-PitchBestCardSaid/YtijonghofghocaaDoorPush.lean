/-
  The walk of the window's push. Condition: the window is the call's own.
-/
import Derived.Test.YtijonghofghocaaDoorWin
import Derived.Test.YtijonghofghocaaDoorTargets
namespace Go.Proofs.YtijonghofghocaaDoor
open Go.RowKit

theorem Win.cells {w : World} {B : Nat} {v : Value} {L : List (Int × Int)} (h : Win w B v L) : w.cell? ⟨B, 0, none⟩ = some v ∧ w.cell? ⟨B, 1, none⟩ = some (.func (.func 75) #[] #[]) ∧ w.frozen? ⟨B, 0, none⟩ = false := by
  refine ⟨?_, ?_, ?_⟩ <;> simp [World.cell?, World.frozen?, h.blk]
theorem Win.lt {w : World} {B : Nat} {v : Value} {L : List (Int × Int)} (h : Win w B v L) : B < w.heap.size := lt_of_block h.blk
/-- The window's block behind an append to its items. -/
theorem Win.after {wr w1 w' : World} {B : Nat} {v : Value} {L : List (Int × Int)} (h : Win wr B v L) (hb : Below wr.heap.size wr w1) (hg : w1.grownBy w' v.ownBlock) :
    w'.heap[B]? = some (.cells #[v, .func (.func 75) #[] #[]] 108 (0, 0)) ∧ w'.cell? ⟨B, 0, none⟩ = some v ∧ w'.frozen? ⟨B, 0, none⟩ = false := by
  have hblk : w'.heap[B]? = some (.cells #[v, .func (.func 75) #[] #[]] 108 (0, 0)) := by
    rw [hg.block B (Nat.lt_of_lt_of_le h.lt hb.size) fun e => ?_, hb.block B h.lt]
    · exact h.blk
    · have := (World.ownsRow.lt h.row B e.symm).1
      omega
  exact ⟨hblk, by simp [World.cell?, hblk], by simp [World.frozen?, hblk]⟩
/-- The window with one more candidate. -/
theorem Win.push {wr w1 w' : World} {B : Nat} {v : Value} {L : List (Int × Int)} {x : Int × Int} {g cap : Nat} (h : Win wr B v L) (hb : Below wr.heap.size wr w1) (hg : w1.grownBy w' v.ownBlock)
    (hown : w'.ownsRow (B + 1) 104 2 (.slice (some ⟨g, 0, none⟩) (L.length + 1) cap) (L.length + 1) (wcells L ++ [.int .i64 x.1, .int .i64 x.2])) (hlies : v.ownBlock = some g ∨ w1.heap.size ≤ g) :
    Win (w'.setCell ⟨B, 0, none⟩ (.slice (some ⟨g, 0, none⟩) (L.length + 1) cap)) B (.slice (some ⟨g, 0, none⟩) (L.length + 1) cap) (L ++ [x]) ∧
      WEff B v (.slice (some ⟨g, 0, none⟩) (L.length + 1) cap) wr (w'.setCell ⟨B, 0, none⟩ (.slice (some ⟨g, 0, none⟩) (L.length + 1) cap)) := by
  obtain ⟨hblk, _, _⟩ := h.after hb hg
  have hBg : B < g := (World.ownsRow.lt hown g rfl).1
  refine ⟨⟨?_, ?_⟩, ?_⟩
  · rw [heap_setCell_same w' B 0 _ 108 _ hblk]; rfl
  · rw [List.length_append, List.length_singleton, wcells_snoc]
    refine ⟨hown.1, ?_⟩
    rcases hown.2 with hn | ⟨b, c, cur, hv, hb', hgb, rest⟩
    · exact .inl hn
    · exact .inr ⟨b, c, cur, hv, hb', by rw [Below.heap_setCell w' _ _ b (by show b ≠ B; omega)]; exact hgb, rest⟩
  · have h2 : Below B wr (w'.setCell ⟨B, 0, none⟩ (.slice (some ⟨g, 0, none⟩) (L.length + 1) cap)) := by
      have h3 : Below B wr w1 := hb.mono (Nat.le_of_lt h.lt)
      have h4 : Below B wr w' := h3.grown hg (Nat.le_trans (Nat.le_of_lt h.lt) hb.size) fun k hk => by have := (World.ownsRow.lt h.row k hk).1; omega
      exact h4.setCell (p := ⟨B, 0, none⟩) (Nat.le_refl _) _
    refine ⟨h2.os, h2.tape, h2.output, h2.size, fun k hk hkB hv => ?_, ?_⟩
    · rw [Below.heap_setCell w' _ _ k (by show k ≠ B; omega), hg.block k (Nat.lt_of_lt_of_le hk hb.size) (fun e => hv e.symm), hb.block k hk]
    · rcases hlies with hl | hl
      · exact .inl hl.symm
      · refine .inr fun k hk => ?_
        have : g = k := by simpa [Value.ownBlock] using hk
        have := hb.size
        omega
theorem two_at (w : World) (x y : Value) (e : TypeId) (N : Nat) (hN : N = w.heap.size) : ∀ (j : Nat) (u : Value), [x, y][j]? = some u → (w.alloc (.cells #[x, y] e)).cell? ((⟨N, 0, none⟩ : Addr).add j) = some u := by
  subst hN
  intro j u hu
  have hj : j < 2 := by
    have := (List.getElem?_eq_some_iff.1 hu).1
    simpa using this
  have h : j = 0 ∨ j = 1 := by omega
  have hb := heap_alloc_new w (.cells #[x, y] e)
  rcases h with rfl | rfl
  all_goals
    rw [show ∀ j, (⟨w.heap.size, 0, none⟩ : Addr).add j = ⟨w.heap.size, j, none⟩ from fun j => by unfold Addr.add; split <;> simp_all]
    unfold World.cell?
    simp only
    rw [hb]
    exact hu
theorem two_one {a b : Int} : ∀ u ∈ [Value.int .i64 a, .int .i64 b], u.oneCell' = true := by
  intro u hu
  simp at hu
  rcases hu with rfl | rfl <;> rfl
theorem win_form {w : World} {base : Nat} {v : Value} {L : List (Int × Int)} (h : w.ownsRow base 104 2 v L.length (wcells L)) : ∃ a c, v = .slice a L.length c := by
  rcases h.2 with ⟨hv, hn⟩ | ⟨g, cap, cur, hv, _⟩
  · exact ⟨none, 0, by rw [hv, hn]⟩
  · exact ⟨_, cap, hv⟩

/-- What push leaves. -/
def Pushed (B : Nat) (v : Value) (L : List (Int × Int)) (w : World) (e : Ending) (w' : World) : Prop :=
  ∃ v', e = .returned (.tuple #[]) ∧ Win w' B v' L ∧ WEff B v v' w w'

set_option maxRecDepth 100000 in
set_option maxHeartbeats 4000000 in
theorem push_any (B : Nat) (v : Value) (L : List (Int × Int)) (x : Int × Int) (w : World) (h : Win w B v L) (hL : L.length ≤ 100000) :
    Calls Tryd.prog 77 #[.pointer (some ⟨B, 0, none⟩), .agg #[.int .i64 x.1, .int .i64 x.2]] w (Pushed B v (L ++ [x]) w) := by
  obtain ⟨aa, cc, hv⟩ := win_form h.row
  obtain ⟨a0, a1, a2⟩ := h.cells
  have hBl := h.lt
  obtain ⟨i0, hi, hz0, hz1, hz2⟩ := info_parts info104
  have HW := Lib.hid h
  clear h
  subst hv
  go_enter Tryd.func77, Tryd.ntmps77
  go_wp2_with fail
  have KB : ∀ o1 o2, Below w.heap.size w (((w.alloc o1).drew).alloc o2) := fun o1 o2 => by
    have h1 : Below w.heap.size w (w.alloc o1).drew := (newb w o1).trans ⟨rfl, rfl, rfl, Nat.le_refl _, fun _ _ => rfl⟩
    exact h1.alloc (by simp) _
  have HKB := Lib.hid KB
  clear KB
  go_region_law (
    refine step_row rfl (.tmp 8) (.tmp 10) 106 rfl (B + 1) 104 i0 _ 2 16 Tryd.underlying106 hi hz0 hz1 hz2 rfl (by decide) (.slice aa L.length cc) L.length (wcells L) rfl (ownsRow_later HW.out.row (HKB.out _ _))
      ⟨w.heap.size + 1, 0, none⟩ 1 [.int .i64 x.1, .int .i64 x.2] rfl rfl (two_at _ _ _ _ _ (by simp)) two_one (by unfold maxLen; omega) (by omega) (by simp; omega) ?_
    intro g cap w' r1 r2 r3
    obtain ⟨_, r4, r5⟩ := HW.out.after (HKB.out _ _) r2)
  all_goals
    obtain ⟨p1, p2⟩ := HW.out.push (x := x) (HKB.out _ _) r2 r1 r3
    exact bodyPost_end (results_none rfl _ _ _) rfl ⟨_, rfl, p1, p2⟩
end Go.Proofs.YtijonghofghocaaDoor
