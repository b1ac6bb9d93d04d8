/-
  The laws' arguments, opened: integers, commands, targets, notes, contours, as the walks want them. No condition beyond the reading itself.
-/
import Derived.Test.YtijonghofghocaaDoorFrame
namespace Go.Proofs.YtijonghofghocaaDoor
open Go.ChangeShapes Go.WideShapes Go.ChangeAt Go.RowKit Go.Deep
set_option maxRecDepth 100000

section
variable {H : Type} {enc : TypeId × Value → H} {W : World} {sp : Nat → Bool} {hd : Bool}
theorem addr_add {b off : Nat} (j : Nat) : (⟨b, off, none⟩ : Addr).add j = ⟨b, off + j, none⟩ := by
  unfold Addr.add
  split
  · simp_all
  · rfl
/-- A slice that came in: its elements' cells. -/
theorem slice_cells {t e : TypeId} {s fuel : Nat} {cs : List Value} {x : DataW H × List MemPlace} (ht : Tryd.prog.underlying t = some (.slice e)) (hs : Tryd.prog.cellsOf e = s) (h0 : 0 < s) (h : DataW.trod enc Tryd.prog W 0 sp hd fuel t cs = some x) :
    ∃ p n cap, cs = [.slice p n cap] ∧ n ≤ maxLen ∧ (n = 0 ∨ ∃ b off, p = some ⟨b, off, none⟩ ∧ b < W.heap.size ∧
      ∀ i, i < n → ∃ (cs' : List Value) (y : DataW H × List MemPlace) (m : Nat), cs'.length = s ∧ (∀ j, j < s → W.cell? ⟨b, off + i * s + j, none⟩ = cs'[j]?) ∧ DataW.trod enc Tryd.prog W 0 sp hd m e cs' = some y) := by
  rcases open_slice ht h with ⟨hcs, _⟩ | ⟨a, len, cap, m, n, D, Pl, hcs, _, hl, hm, hmm, _, hi⟩
  · exact ⟨none, 0, 0, hcs, Nat.zero_le _, .inl rfl⟩
  · refine ⟨some a, len, cap, hcs, Nat.le_trans hl hm, ?_⟩
    by_cases hz : len = 0
    · exact .inl hz
    · have hlm : len ≤ m := by rw [hmm]; split <;> omega
      obtain ⟨c0, hc0, _⟩ := hi 0 (by omega)
      obtain ⟨_, hl0, hat0⟩ := World.cells?_some hc0
      rw [hs] at hl0 hat0
      have h1 := hat0 0 h0
      rw [Nat.zero_mul, add_add, Nat.zero_add] at h1
      have h2 : c0[0]? = some (c0[0]'(by omega)) := List.getElem?_eq_getElem (by omega)
      rw [h2] at h1
      have hspot := World.cell?_spot h1
      have ha0 : a.add 0 = a := rfl
      rw [ha0] at h1 hspot
      obtain ⟨b, off, spot⟩ := a
      simp only at hspot
      subst hspot
      refine .inr ⟨b, off, rfl, World.block_lt_of_cell? W _ h1, fun i him => ?_⟩
      obtain ⟨cs', hc, hy⟩ := hi i (by omega)
      obtain ⟨_, hl', hat⟩ := World.cells?_some hc
      rw [hs] at hl' hat
      refine ⟨cs', _, n, hl', fun j hj => ?_, hy⟩
      have := hat j hj
      rw [add_add, addr_add] at this
      rw [← this]
      congr 2
      omega
/-- A field of a struct that came in. -/
theorem field_trod {e : TypeId} {fs : Array Field} {fuel : Nat} {cs : List Value} {y : DataW H × List MemPlace} (hu : Tryd.prog.underlying e = some (.struct fs)) (h : DataW.trod enc Tryd.prog W 0 sp hd fuel e cs = some y)
    {j : Nat} {f : Field} (hj : fs[j]? = some f) (ho : f.offset = j) (hc : Tryd.prog.cellsOf f.type = 1) (hjl : j < cs.length) : ∃ (u : Value) (z : DataW H × List MemPlace) (m : Nat), cs[j]? = some u ∧ DataW.trod enc Tryd.prog W 0 sp hd m f.type [u] = some z := by
  obtain ⟨xs, n, _, _, _, hxl, hf⟩ := DataW.trod_struct hu h
  have h1 := hf j f hj
  have hjf : j < fs.size := (Array.getElem?_eq_some_iff.1 hj).1
  rw [ho, hc, List.getElem?_eq_getElem (show j < xs.length by omega)] at h1
  have h2 : (cs.drop j).take 1 = [cs[j]] := by
    rw [List.drop_eq_getElem_cons hjl]
    rfl
  rw [h2] at h1
  exact ⟨cs[j], _, n, List.getElem?_eq_getElem hjl, h1⟩
theorem field_int {e : TypeId} {fs : Array Field} {fuel : Nat} {cs : List Value} {y : DataW H × List MemPlace} (hu : Tryd.prog.underlying e = some (.struct fs)) (h : DataW.trod enc Tryd.prog W 0 sp hd fuel e cs = some y)
    {j : Nat} {f : Field} (hj : fs[j]? = some f) (ho : f.offset = j) (h3 : f.type = 3) (hjl : j < cs.length) : ∃ z : Int, cs[j]? = some (.int .i64 z) := by
  obtain ⟨u, z, m, h1, h2⟩ := field_trod hu h hj ho (by rw [h3]; exact cells3) hjl
  rw [h3] at h2
  obtain ⟨n, h4, _⟩ := DataW.trod_int Tryd.underlying3 h2
  simp only [List.cons.injEq, and_true] at h4
  exact ⟨n, by rw [h1, h4]⟩
/-- A slice of structs of integers. -/
theorem slice_ints {t e : TypeId} {fs : Array Field} {s fuel : Nat} {cs : List Value} {x : DataW H × List MemPlace} (ht : Tryd.prog.underlying t = some (.slice e)) (hu : Tryd.prog.underlying e = some (.struct fs)) (hs : Tryd.prog.cellsOf e = s) (h0 : 0 < s)
    (hf : ∀ j, j < s → ∃ f, fs[j]? = some f ∧ f.offset = j ∧ f.type = 3) (h : DataW.trod enc Tryd.prog W 0 sp hd fuel t cs = some x) :
    ∃ p n cap, ∃ g : Nat → Nat → Int, cs = [.slice p n cap] ∧ n ≤ maxLen ∧ Row W p n s (fun i j => .int .i64 (g i j)) := by
  obtain ⟨p, n, cap, hcs, hn, h1⟩ := slice_cells ht hs h0 h
  rcases h1 with h1 | ⟨b, off, rfl, hb, hi⟩
  · exact ⟨p, n, cap, fun _ _ => 0, hcs, hn, .inl h1⟩
  · have key : ∀ ij : Nat × Nat, ∃ z : Int, ij.1 < n → ij.2 < s → W.cell? ⟨b, off + ij.1 * s + ij.2, none⟩ = some (.int .i64 z) := by
      rintro ⟨i, j⟩
      by_cases hin : i < n
      · by_cases hjs : j < s
        · obtain ⟨cs', y, m, hl, hc, hy⟩ := hi i hin
          obtain ⟨f, hf1, hf2, hf3⟩ := hf j hjs
          obtain ⟨z, hz⟩ := field_int hu hy hf1 hf2 hf3 (by omega)
          exact ⟨z, fun _ _ => by rw [hc j hjs, hz]⟩
        · exact ⟨0, fun _ h => absurd h hjs⟩
      · exact ⟨0, fun h => absurd h hin⟩
    obtain ⟨g, hg⟩ := Classical.axiomOfChoice key
    exact ⟨_, n, cap, fun i j => g (i, j), hcs, hn, .inr ⟨b, off, rfl, hb, fun i hi' j hj => hg (i, j) hi' hj⟩⟩

theorem cells73 : Tryd.prog.cellsOf 73 = 2 := by kernel_rfl
theorem cells54 : Tryd.prog.cellsOf 54 = 3 := by kernel_rfl
theorem cells61 : Tryd.prog.cellsOf 61 = 6 := by kernel_rfl
theorem cells24 : Tryd.prog.cellsOf 24 = 3 := by kernel_rfl
theorem cells43 : Tryd.prog.cellsOf 43 = 6 := by kernel_rfl
theorem cells22 : Tryd.prog.cellsOf 22 = 1 := by kernel_rfl
theorem cells41 : Tryd.prog.cellsOf 41 = 1 := by kernel_rfl

/-- A slice of integers. -/
theorem ints_of {fuel : Nat} {cs : List Value} {x : DataW H × List MemPlace} (h : DataW.trod enc Tryd.prog W 0 sp hd fuel 34 cs = some x) : ∃ p n cap f, cs = [.slice p n cap] ∧ n ≤ maxLen ∧ Ints W p n f := by
  obtain ⟨p, n, cap, hcs, hn, h1⟩ := slice_cells Tryd.underlying34 cells3 (by omega) h
  rcases h1 with h1 | ⟨b, off, rfl, hb, hi⟩
  · exact ⟨p, n, cap, fun _ => 0, hcs, hn, .inl h1⟩
  · have key : ∀ i : Nat, ∃ z : Int, i < n → W.cell? ⟨b, off + i, none⟩ = some (.int .i64 z) := by
      intro i
      by_cases hin : i < n
      · obtain ⟨cs', y, m, hl, hc, hy⟩ := hi i hin
        obtain ⟨z, rfl, _⟩ := DataW.trod_int Tryd.underlying3 hy
        refine ⟨z, fun _ => ?_⟩
        have := hc 0 (by omega)
        rw [Nat.mul_one, Nat.add_zero] at this
        rw [this]; rfl
      · exact ⟨0, fun h => absurd h hin⟩
    obtain ⟨f, hf⟩ := Classical.axiomOfChoice key
    exact ⟨_, n, cap, f, hcs, hn, .inr ⟨b, off, rfl, hb, hf⟩⟩
theorem row_congr {w : World} {p : Option Addr} {n s : Nat} {f g : Nat → Nat → Value} (h : Row w p n s f) (e : ∀ i, i < n → ∀ j, j < s → f i j = g i j) : Row w p n s g := by
  rcases h with h | ⟨b, off, hp, hlt, hc⟩
  · exact .inl h
  · exact .inr ⟨b, off, hp, hlt, fun i hi j hj => by rw [← e i hi j hj]; exact hc i hi j hj⟩
theorem knots_of {fuel : Nat} {cs : List Value} {x : DataW H × List MemPlace} (h : DataW.trod enc Tryd.prog W 0 sp hd fuel 22 cs = some x) : ∃ p n cap kt kv, cs = [.slice p n cap] ∧ n ≤ maxLen ∧ Row W p n 2 (knotCell kt kv) := by
  obtain ⟨p, n, cap, g, hcs, hn, hr⟩ := slice_ints Tryd.underlying22 Tryd.underlying73 cells73 (by omega) (lt2 ⟨_, rfl, rfl, rfl⟩ ⟨_, rfl, rfl, rfl⟩) h
  refine ⟨p, n, cap, fun i => g i 0, fun i => g i 1, hcs, hn, row_congr hr fun i _ => lt2 ?_ ?_⟩
  · rfl
  · rfl
theorem targets_of {fuel : Nat} {cs : List Value} {x : DataW H × List MemPlace} (h : DataW.trod enc Tryd.prog W 0 sp hd fuel 41 cs = some x) : ∃ p n cap tg, cs = [.slice p n cap] ∧ n ≤ maxLen ∧ Row W p n 3 (tgtCell tg) := by
  obtain ⟨p, n, cap, g, hcs, hn, hr⟩ := slice_ints Tryd.underlying41 Tryd.underlying54 cells54 (by omega) (lt3 ⟨_, rfl, rfl, rfl⟩ ⟨_, rfl, rfl, rfl⟩ ⟨_, rfl, rfl, rfl⟩) h
  refine ⟨p, n, cap, fun i => ⟨g i 0, g i 1, g i 2⟩, hcs, hn, row_congr hr fun i _ => lt3 ?_ ?_ ?_⟩
  · rfl
  · rfl
  · rfl
theorem notes_of {fuel : Nat} {cs : List Value} {x : DataW H × List MemPlace} (h : DataW.trod enc Tryd.prog W 0 sp hd fuel 59 cs = some x) : ∃ p n cap l, cs = [.slice p n cap] ∧ n ≤ maxLen ∧ Row W p n 6 (noteCell l) := by
  obtain ⟨p, n, cap, g, hcs, hn, hr⟩ := slice_ints Tryd.underlying59 Tryd.underlying61 cells61 (by omega) (lt6 ⟨_, rfl, rfl, rfl⟩ ⟨_, rfl, rfl, rfl⟩ ⟨_, rfl, rfl, rfl⟩ ⟨_, rfl, rfl, rfl⟩ ⟨_, rfl, rfl, rfl⟩ ⟨_, rfl, rfl, rfl⟩) h
  refine ⟨p, n, cap, fun i => ⟨g i 0, g i 1, g i 2, g i 3, g i 4, g i 5⟩, hcs, hn, row_congr hr fun i _ => lt6 ?_ ?_ ?_ ?_ ?_ ?_⟩ <;> rfl

/-- A command. -/
theorem cmd_of {fuel : Nat} {cs : List Value} {y : DataW H × List MemPlace} (h : DataW.trod enc Tryd.prog W 0 sp hd fuel 24 cs = some y) :
    ∃ (c : Cmd) (p : Option Addr) (cap : Nat), cs = [.int .i64 c.ca, .int .i64 c.ch, .slice p c.n cap] ∧ c.n ≤ maxLen ∧ Row W p c.n 2 (knotCell c.kt c.kv) := by
  obtain ⟨_, _, _, _, hl, _, _⟩ := DataW.trod_struct Tryd.underlying24 h
  have hl3 : cs.length = 3 := hl.trans cells24
  obtain ⟨a, ha⟩ := field_int Tryd.underlying24 h (j := 0) rfl rfl rfl (by omega)
  obtain ⟨b, hb⟩ := field_int Tryd.underlying24 h (j := 1) rfl rfl rfl (by omega)
  obtain ⟨u, z, m, hu, hz⟩ := field_trod Tryd.underlying24 h (j := 2) rfl rfl cells22 (by omega)
  obtain ⟨p, n, cap, kt, kv, hcs, hn, hr⟩ := knots_of hz
  simp only [List.cons.injEq, and_true] at hcs
  subst hcs
  match cs, hl3 with
  | [c0, c1, c2], _ =>
    simp only [List.getElem?_cons_zero, List.getElem?_cons_succ, Option.some.injEq] at ha hb hu
    subst ha hb hu
    exact ⟨⟨a, b, n, kt, kv⟩, p, cap, rfl, hn, hr⟩
/-- A slice of commands. -/
theorem cmds_of {fuel : Nat} {cs : List Value} {x : DataW H × List MemPlace} (h : DataW.trod enc Tryd.prog W 0 sp hd fuel 32 cs = some x) : ∃ p n cap l ps pc, cs = [.slice p n cap] ∧ n ≤ maxLen ∧ Cmds W p n l ps pc := by
  obtain ⟨p, n, cap, hcs, hn, h1⟩ := slice_cells Tryd.underlying32 cells24 (by omega) h
  rcases h1 with h1 | ⟨b, off, rfl, hb, hi⟩
  · exact ⟨p, n, cap, fun _ => ⟨0, 0, 0, fun _ => 0, fun _ => 0⟩, fun _ => none, fun _ => 0, hcs, hn, .inl h1, fun i hi => absurd hi (by omega)⟩
  · have key : ∀ i : Nat, ∃ q : Cmd × Option Addr × Nat, i < n → (∀ j, j < 3 → W.cell? ⟨b, off + i * 3 + j, none⟩ = some (if j = 0 then .int .i64 q.1.ca else if j = 1 then .int .i64 q.1.ch else .slice q.2.1 q.1.n q.2.2)) ∧ q.1.n ≤ maxLen ∧ Row W q.2.1 q.1.n 2 (knotCell q.1.kt q.1.kv) := by
      intro i
      by_cases hin : i < n
      · obtain ⟨cs', y, m, hl, hc, hy⟩ := hi i hin
        obtain ⟨c, p, cap', rfl, hcn, hr⟩ := cmd_of hy
        refine ⟨(c, p, cap'), fun _ => ⟨fun j hj => ?_, hcn, hr⟩⟩
        rw [hc j hj]
        revert j
        exact lt3 rfl rfl rfl
      · exact ⟨(⟨0, 0, 0, fun _ => 0, fun _ => 0⟩, none, 0), fun h => absurd h hin⟩
    obtain ⟨g, hg⟩ := Classical.axiomOfChoice key
    exact ⟨_, n, cap, fun i => (g i).1, fun i => (g i).2.1, fun i => (g i).2.2, hcs, hn, .inr ⟨b, off, rfl, hb, fun i hi' j hj => (hg i hi').1 j hj⟩, fun i hi' => ⟨(hg i hi').2.1, (hg i hi').2.2⟩⟩
/-- A contour. -/
theorem prob_of {fuel : Nat} {cs : List Value} {y : DataW H × List MemPlace} (h : DataW.trod enc Tryd.prog W 0 sp hd fuel 43 cs = some y) :
    ∃ (p : Prob) (a : Option Addr) (c : Nat), cs = [.int .i64 p.frames, .int .i64 p.low, .int .i64 p.high, .int .i64 p.slope, .int .i64 p.smooth, .slice a p.m c] ∧ p.m ≤ maxLen ∧ Row W a p.m 3 (tgtCell p.tg) := by
  obtain ⟨_, _, _, _, hl, _, _⟩ := DataW.trod_struct Tryd.underlying43 h
  have hl6 : cs.length = 6 := hl.trans cells43
  obtain ⟨z0, h0⟩ := field_int Tryd.underlying43 h (j := 0) rfl rfl rfl (by omega)
  obtain ⟨z1, h1⟩ := field_int Tryd.underlying43 h (j := 1) rfl rfl rfl (by omega)
  obtain ⟨z2, h2⟩ := field_int Tryd.underlying43 h (j := 2) rfl rfl rfl (by omega)
  obtain ⟨z3, h3⟩ := field_int Tryd.underlying43 h (j := 3) rfl rfl rfl (by omega)
  obtain ⟨z4, h4⟩ := field_int Tryd.underlying43 h (j := 4) rfl rfl rfl (by omega)
  obtain ⟨u, z, m, hu, hz⟩ := field_trod Tryd.underlying43 h (j := 5) rfl rfl cells41 (by omega)
  obtain ⟨p, n, cap, tg, hcs, hn, hr⟩ := targets_of hz
  simp only [List.cons.injEq, and_true] at hcs
  subst hcs
  match cs, hl6 with
  | [c0, c1, c2, c3, c4, c5], _ =>
    simp only [List.getElem?_cons_zero, List.getElem?_cons_succ, Option.some.injEq] at h0 h1 h2 h3 h4 hu
    subst h0 h1 h2 h3 h4 hu
    exact ⟨⟨z0, z1, z2, z3, z4, n, tg⟩, p, cap, rfl, hn, hr⟩

/-! ### As the rows hand them over -/
theorem max_le {n : Nat} (h : n ≤ maxLen) : n ≤ 9223372036854775807 := by
  unfold maxLen at h
  omega
theorem open_ints' {r : Reach} {b0 : Nat} {v : Value} {d : DataW H} {ps : List MemPlace} (hval : Value.okWide Tryd.prog W r b0 34 v) (h : DataW.Trod enc Tryd.prog W 0 sp hd 34 v d ps) : ∃ p n cap f, v = .slice p n cap ∧ n ≤ 9223372036854775807 ∧ Ints W p n f := by
  obtain ⟨a, len, cap, rfl⟩ := okWide_slice Tryd.underlying34 hval
  obtain ⟨fuel, hf⟩ := h
  obtain ⟨p, n, c, f, hcs, hn, hi⟩ := ints_of hf
  simp only [Value.cells, List.cons.injEq, and_true] at hcs
  exact ⟨p, n, c, f, hcs, max_le hn, hi⟩
theorem open_notes {r : Reach} {b0 : Nat} {v : Value} {d : DataW H} {ps : List MemPlace} (hval : Value.okWide Tryd.prog W r b0 59 v) (h : DataW.Trod enc Tryd.prog W 0 sp hd 59 v d ps) : ∃ p n cap l, v = .slice p n cap ∧ n ≤ 9223372036854775807 ∧ Row W p n 6 (noteCell l) := by
  obtain ⟨a, len, cap, rfl⟩ := okWide_slice Tryd.underlying59 hval
  obtain ⟨fuel, hf⟩ := h
  obtain ⟨p, n, c, f, hcs, hn, hi⟩ := notes_of hf
  simp only [Value.cells, List.cons.injEq, and_true] at hcs
  exact ⟨p, n, c, f, hcs, max_le hn, hi⟩
theorem open_cmds {r : Reach} {b0 : Nat} {v : Value} {d : DataW H} {ps : List MemPlace} (hval : Value.okWide Tryd.prog W r b0 32 v) (h : DataW.Trod enc Tryd.prog W 0 sp hd 32 v d ps) : ∃ p n cap l pp pc, v = .slice p n cap ∧ n ≤ 9223372036854775807 ∧ Cmds W p n l pp pc := by
  obtain ⟨a, len, cap, rfl⟩ := okWide_slice Tryd.underlying32 hval
  obtain ⟨fuel, hf⟩ := h
  obtain ⟨p, n, c, l, pp, pc, hcs, hn, hi⟩ := cmds_of hf
  simp only [Value.cells, List.cons.injEq, and_true] at hcs
  exact ⟨p, n, c, l, pp, pc, hcs, max_le hn, hi⟩
theorem open_cmd {r : Reach} {b0 : Nat} {v : Value} {d : DataW H} {ps : List MemPlace} (hval : Value.okWide Tryd.prog W r b0 24 v) (h : DataW.Trod enc Tryd.prog W 0 sp hd 24 v d ps) :
    ∃ (c : Cmd) (p : Option Addr) (cap : Nat), v = .agg #[.int .i64 c.ca, .int .i64 c.ch, .slice p c.n cap] ∧ c.n ≤ 9223372036854775807 ∧ Row W p c.n 2 (knotCell c.kt c.kv) := by
  obtain ⟨cs, rfl, _⟩ := okWide_struct Tryd.underlying24 hval
  obtain ⟨fuel, hf⟩ := h
  obtain ⟨c, p, cap, hcs, hn, hr⟩ := cmd_of hf
  refine ⟨c, p, cap, ?_, max_le hn, hr⟩
  congr 1
  exact Array.toList_inj.1 hcs
theorem open_prob {r : Reach} {b0 : Nat} {v : Value} {d : DataW H} {ps : List MemPlace} (hval : Value.okWide Tryd.prog W r b0 43 v) (h : DataW.Trod enc Tryd.prog W 0 sp hd 43 v d ps) :
    ∃ (p : Prob) (a : Option Addr) (c : Nat), v = .agg #[.int .i64 p.frames, .int .i64 p.low, .int .i64 p.high, .int .i64 p.slope, .int .i64 p.smooth, .slice a p.m c] ∧ p.m ≤ 9223372036854775807 ∧ Row W a p.m 3 (tgtCell p.tg) := by
  obtain ⟨cs, rfl, _⟩ := okWide_struct Tryd.underlying43 hval
  obtain ⟨fuel, hf⟩ := h
  obtain ⟨p, a, c, hcs, hn, hr⟩ := prob_of hf
  refine ⟨p, a, c, ?_, max_le hn, hr⟩
  congr 1
  exact Array.toList_inj.1 hcs
end
end Go.Proofs.YtijonghofghocaaDoor
