/-
  The walk of pitch.targets. Condition: the problem is as defined.
-/
import Derived.Test.YtijonghofghocaaDoorLists
namespace Go.Proofs.YtijonghofghocaaDoor
open Go.RowKit

/-- The targets of each frame, in new memory. -/
def ListsOut (n : Nat) (p : Prob) (w : World) (e : Ending) (w' : World) : Prop :=
  ∃ T cap, e = .returned (.slice (some ⟨T, 0, none⟩) n cap) ∧ Lists w' T n p ∧ Below w.heap.size w w'

theorem grown_eq {w1 w' : World} {v v' : Value} (e : v' = v) (h : w1.grownBy w' v.ownBlock) : w1.grownBy w' v'.ownBlock := e ▸ h
theorem three_at (w : World) (x y z : Value) (e : TypeId) (N : Nat) (hN : N = w.heap.size) : ∀ (j : Nat) (u : Value), [x, y, z][j]? = some u → (w.alloc (.cells #[x, y, z] e)).cell? ((⟨N, 0, none⟩ : Addr).add j) = some u := by
  subst hN
  intro j u hu
  have hj : j < 3 := by
    have := (List.getElem?_eq_some_iff.1 hu).1
    simpa using this
  have h : j = 0 ∨ j = 1 ∨ j = 2 := by omega
  have hb := heap_alloc_new w (.cells #[x, y, z] e)
  rcases h with rfl | rfl | rfl
  all_goals
    rw [show ∀ j, (⟨w.heap.size, 0, none⟩ : Addr).add j = ⟨w.heap.size, j, none⟩ from fun j => by unfold Addr.add; split <;> simp_all]
    unfold World.cell?
    simp only
    rw [hb]
    exact hu
theorem three_one {a b c : Int} : ∀ u ∈ [Value.int .i64 a, .int .i64 b, .int .i64 c], u.oneCell' = true := by
  intro u hu
  simp at hu
  rcases hu with rfl | rfl | rfl <;> rfl
theorem sel_next {w : World} {T n k tm : Nat} {vs : Nat → Value} {p : Prob} (h : (p.tg k).time = (tm : Int)) (hl : LsAt w T n vs (fun s => if s = tm then selL p s k ++ [p.tg k] else selL p s k)) : LsAt w T n vs (fun t => selL p t (k + 1)) := by
  have e : (fun s => if s = tm then selL p s k ++ [p.tg k] else selL p s k) = fun t => selL p t (k + 1) := by
    funext t
    simp only [selL, h]
    by_cases q : t = tm
    · rw [if_pos q, if_pos (by omega)]
    · rw [if_neg q, if_neg (by omega)]
  rw [← e]; exact hl
theorem info54 : (Tryd.prog.info? 54).map (fun i => (i.zero, i.size, i.bytes)) = some (some (.agg #[.int .i64 0, .int .i64 0, .int .i64 0]), 3, 24) := by kernel_rfl

set_option maxRecDepth 100000 in
set_option maxHeartbeats 4000000 in
theorem targets_any (p : Prob) (n : Nat) (a : Option Addr) (c : Nat) (w : World) (hp : PB p) (hn : (n : Int) = p.frames) (hc : Row w a p.m 3 (tgtCell p.tg)) :
    Calls Tryd.prog 57 #[.agg #[.int .i64 p.frames, .int .i64 p.low, .int .i64 p.high, .int .i64 p.slope, .int .i64 p.smooth, .slice a p.m c]] w (ListsOut n p w) := by
  have hn' : (n : Int) ≤ 200 := by have := hp.f2; omega
  have hm' : (p.m : Int) ≤ 200 := by have := hp.m1; omega
  have HP := Lib.hid hp
  have HF := Lib.hid hn
  obtain ⟨i0, hi, hz0, hz1, hz2⟩ := info_parts info54
  clear hp
  have mk : ∀ w, (Instr.makeSlice 77 (.int .i64 p.frames) (.int .i64 p.frames)).run Tryd.prog w = .ok (.slice (some ⟨w.heap.size, 0, none⟩) n n) (w.alloc (.cells (slots n (fun _ => .slice none 0 0)) 41)) := by
    rw [← hn]; exact make_lists n (by omega)
  clear hn
  go_enter Tryd.func57, Tryd.ntmps57
  go_wp2_with fail
  refine wp_gen (fun w2 => LsAt w2 (w.heap.size + 1) n (fun _ => .slice none 0 0) (fun t => selL p t 0) ∧ Below w.heap.size w w2) ⟨?_, ?_⟩ ?_
  · have h := lsAt_new (w.alloc (.cells #[.int .i64 p.frames, .int .i64 p.low, .int .i64 p.high, .int .i64 p.slope, .int .i64 p.smooth, .slice a p.m c] 43)) n p
    simpa using h
  · exact (newb _ _).trans ((newb _ _).mono (by simp))
  obtain ⟨T, hT⟩ : ∃ T, T = w.heap.size + 1 := ⟨_, rfl⟩
  have hTw : w.heap.size ≤ T := by omega
  rw [← hT]
  rintro w2 ⟨hL, hb2⟩
  have HL2 := Lib.hid hL
  have HB2 := Lib.hid hb2
  clear hL hb2 hT mk
  go_loopw [12] (fun i wr => ∃ k : Nat, k ≤ p.m ∧ i = .int .i64 k ∧ (∃ vs, LsAt wr T n vs (fun t => selL p t k)) ∧ Below w.heap.size w wr) (fun i _ => p.m - (intOf i).toNat)
  case atStart => exact ⟨0, Nat.zero_le _, rfl, ⟨_, HL2.out⟩, HB2.out⟩
  case round =>
    obtain ⟨k, hk, rfl, ⟨vs, hL⟩, hb⟩ := hrel
    have HB := Lib.hid hb
    have HL := Lib.hid hL
    clear hb hL HL2 HB2
    by_cases hlt : k < p.m
    · obtain ⟨b, off, rfl, hbs, hcell⟩ := hc.at (by omega)
      obtain ⟨k0, k1, k2⟩ := tgt_at HB.out hbs hcell hlt
      have hbr : b < wr.heap.size := Nat.lt_of_lt_of_le hbs HB.out.size
      clear hcell
      have htg := HP.out.tg k hlt
      obtain ⟨tm, htm⟩ : ∃ tm : Nat, (p.tg k).time = (tm : Int) := ⟨(p.tg k).time.toNat, by omega⟩
      have htn : tm < n := by have := HF.out; omega
      have htn' : (tm : Int) < n := by omega
      rw [htm] at k0
      have hTc := HL.out.cell htn
      have hTf := HL.out.free tm
      have hTl := HL.out.lt
      go_wp2_with fail
      obtain ⟨aa, cc, hvs, _⟩ := own_row (HL.out.row tm htn)
      have hlen := selL_length p tm k
      have HO := Lib.hid (hvs ▸ HL.out.row tm htn : wr.ownsRow (T + 1) 54 3 (.slice aa (selL p tm k).length cc) (selL p tm k).length (tcells (selL p tm k)))
      have HS := Lib.hid hvs
      clear hvs
      rw [HS.out] at hTc
      have KB : ∀ o1 o2, Below wr.heap.size wr (((wr.alloc o1).drew).alloc o2) := fun o1 o2 => by
        have h1 : Below wr.heap.size wr (wr.alloc o1).drew := (newb wr o1).trans ⟨rfl, rfl, rfl, Nat.le_refl _, fun _ _ => rfl⟩
        exact h1.alloc (by simp) _
      have HKB := Lib.hid KB
      clear KB
      go_region_law (
        refine step_row rfl (.tmp 23) (.tmp 25) 41 rfl (T + 1) 54 i0 _ 3 24 Tryd.underlying41 hi hz0 hz1 hz2 rfl (by decide) (.slice aa (selL p tm k).length cc) (selL p tm k).length (tcells (selL p tm k)) rfl (ownsRow_later HO.out (HKB.out _ _))
          ⟨wr.heap.size + 1, 0, none⟩ 1 [.int .i64 tm, .int .i64 (p.tg k).value, .int .i64 (p.tg k).weight] rfl rfl (three_at _ _ _ _ _ _ (by simp)) three_one (by unfold maxLen; omega) (by omega) (by simp; omega) ?_
        intro g cap w' r1 r2 r3
        have r2' := grown_eq HS.out r2
        obtain ⟨r4, r5⟩ := HL.out.after (HKB.out _ _) htn r2'
        have r6 := HL.out.newer htn r2' (Nat.le_refl _) (by simp; omega) 0
        simp at r6)
      all_goals
        have HN := Lib.hid (HL.out.push (HKB.out _ _) htn (x := p.tg k) (g := g) (cap := cap) (by rw [htm]; exact r1) r2' (by rw [HS.out]; exact r3))
        have HM := Lib.hid (HL.out.below (HKB.out _ _) htn (HB.out.trans ((HKB.out _ _).mono HB.out.size)) hTw r2' (.slice (some ⟨g, 0, none⟩) ((selL p tm k).length + 1) cap))
        clear r1 r2 r3 r2' r4 r5 r6
        go_wp2_with fail
        go_roundw
        case rel => exact ⟨k + 1, by omega, by go_num, ⟨_, sel_next htm HN.out⟩, HM.out⟩
        case measure => simp [intOf]; omega
    · have hle : p.m ≤ k := by omega
      have HJ := Lib.hid (show k = p.m by omega)
      go_wp2_with fail
      go_ret
      exact ⟨T, n, rfl, (HJ.out ▸ HL.out).lists, HB.out⟩
end Go.Proofs.YtijonghofghocaaDoor
