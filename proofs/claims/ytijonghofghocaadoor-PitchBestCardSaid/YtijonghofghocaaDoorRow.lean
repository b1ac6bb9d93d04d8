/-
  append to a row of the call's own, and where the row lies behind it: in its own block, or in a new one. No condition beyond the row's own.
-/
import Derived.Test.YtijonghofghocaaDoorOwnL
import Derived.Deep.RegionLawGrows
import Derived.RangeFuncBox
namespace Go.Proofs.YtijonghofghocaaDoor
open Go.RowKit

/-- A row that lies in block g. -/
theorem row_form {w : World} {base n : Nat} {e : TypeId} {size : Nat} {v : Value} {xs : List Value} (h : w.ownsRow base e size v (n + 1) xs) : ∃ g cap, v = .slice (some ⟨g, 0, none⟩) (n + 1) cap := ownsRow_succ h

theorem run_append_row {P : Program} (w : World) (base : Nat) (t ty e : TypeId) (i : TypeInfo) (z : Value) (size bytes : Nat) (ht : P.underlying t = some (.slice e)) (hi : P.info? e = some i) (hz : i.zero = some z)
    (hsize : i.size = size) (hby : i.bytes = bytes) (hzs : z.cells.size = size) (hsz : 0 < size)
    (v : Value) (n : Nat) (xs : List Value) (hown : w.ownsRow base e size v n xs)
    (a : Addr) (c : Nat) (news : List Value) (hl : news.length = 1 * size) (hnews : ∀ j u, news[j]? = some u → w.cell? (a.add j) = some u) (h1 : ∀ u ∈ news, u.oneCell' = true)
    (h63 : n + 1 ≤ maxLen) (hbytes : (n + 1) * bytes ≤ 140737488355328) (hbase : base ≤ w.heap.size) :
    ∃ g cap w', (Builtin.append_ #[t, t] ty #[v, .slice (some a) 1 c]).run P w = .ok (.slice (some ⟨g, 0, none⟩) (n + 1) cap) w' ∧ w'.ownsRow base e size (.slice (some ⟨g, 0, none⟩) (n + 1) cap) (n + 1) (xs ++ news) ∧ w.grownBy w' v.ownBlock ∧
      (v.ownBlock = some g ∨ w.heap.size ≤ g) := by
  obtain ⟨v', w', hrun, ho, hg, _⟩ := run_append_own (P := P) w base t ty e i z size bytes ht hi hz hsize hby hzs hsz v n xs hown a 1 c news hl hnews h1 h63 hbytes hbase
  obtain ⟨g, cap, rfl⟩ := row_form ho
  refine ⟨g, cap, w', hrun, ho, hg, ?_⟩
  rcases hown.2 with ⟨rfl, rfl⟩ | ⟨g0, cap0, cur, rfl, hb, hgb, hn, hcap, hcs, htake⟩
  · have hown2 : w.ownsRow w.heap.size e size (.slice none 0 0) 0 [] := World.ownsRow_nil _ _ _ _
    obtain ⟨v2, w2, hrun2, ho2, _⟩ := run_append_own (P := P) w w.heap.size t ty e i z size bytes ht hi hz hsize hby hzs hsz _ 0 [] hown2 a 1 c news hl hnews h1 h63 hbytes (Nat.le_refl _)
    rw [hrun] at hrun2
    simp only [Result.ok.injEq] at hrun2
    obtain ⟨rfl, rfl⟩ := hrun2
    rcases ho2.2 with ⟨h, _⟩ | ⟨g2, cap2, _, h, hb2, _⟩
    · cases h
    · have : g = g2 := by cases h; rfl
      exact .inr (by omega)
  · by_cases hroom : n + 1 ≤ cap0
    · subst hsize
      have hspare : ∀ j, j < news.length → n * i.size + j < cur.size := fun j hj => by
        rw [hl, Nat.one_mul] at hj
        rw [hcs]
        have : n * i.size + i.size ≤ cap0 * i.size := by rw [← Nat.succ_mul]; exact Nat.mul_le_mul_right _ hroom
        omega
      have hrun2 := run_append_room_cells (P := P) w t ty e i ht hi g0 0 n cap0 a 1 c news hl hnews h1 hroom
        (fun j hj => by have := hspare j hj; simp [World.cell?, hgb, this])
        (fun j hj => by simp [World.frozen?, hgb])
      rw [hrun] at hrun2
      simp only [Result.ok.injEq] at hrun2
      obtain ⟨h, _⟩ := hrun2
      have : g = g0 := by cases h; rfl
      exact .inl (by rw [this]; rfl)
    · have hcells : ∀ j u, xs[j]? = some u → w.cell? ((⟨g0, 0, none⟩ : Addr).add j) = some u := fun j u hu => World.ownsRow.cells hown (g := g0) rfl j u hu
      obtain ⟨v2, w2, hrun2, ho2, _⟩ := run_append_arg_grows (P := P) w t ty e i z size bytes ht hi hz hsize hby hzs hsz ⟨g0, 0, none⟩ n cap0 xs hown.1 hcells a 1 c news hl hnews (by omega) h63 hbytes
      rw [hrun] at hrun2
      simp only [Result.ok.injEq] at hrun2
      obtain ⟨rfl, rfl⟩ := hrun2
      rcases ho2.2 with ⟨h, _⟩ | ⟨g2, cap2, _, h, hb2, _⟩
      · cases h
      · have : g = g2 := by cases h; rfl
        exact .inr (by omega)

/-- The same as one step of a region that draws its order. -/
theorem step_row {P : Program} {ops : Array Oper} {o : Oper} {a : Act} {w : World} {K : Act → World → Prop} {Q : Exit → Act → World → Prop} {E : Prop}
    (hg : o.guard = none) (s x : Operand) (t : TypeId) (hop : o.op = Op.call { callee := Callee.builtin Builtin.append, args := #[s, x], argTypes := #[t, t] })
    (base : Nat) (e : TypeId) (i : TypeInfo) (z : Value) (size bytes : Nat) (ht : P.underlying t = some (.slice e)) (hi : P.info? e = some i) (hz : i.zero = some z) (hsize : i.size = size) (hby : i.bytes = bytes) (hzs : z.cells.size = size) (hsz : 0 < size)
    (v : Value) (n : Nat) (xs : List Value) (hs : a.eval s = v) (hown : w.ownsRow base e size v n xs)
    (ad : Addr) (c : Nat) (news : List Value) (hx : a.eval x = .slice (some ad) 1 c) (hn : news.length = 1 * size) (hc : ∀ j u, news[j]? = some u → w.cell? (ad.add j) = some u) (h1c : ∀ u ∈ news, u.oneCell' = true)
    (b1 : n + 1 ≤ maxLen) (b2 : (n + 1) * bytes ≤ 140737488355328) (hbase : base ≤ w.heap.size)
    (hK : ∀ g cap w', w'.ownsRow base e size (.slice (some ⟨g, 0, none⟩) (n + 1) cap) (n + 1) (xs ++ news) → w.grownBy w' v.ownBlock → (v.ownBlock = some g ∨ w.heap.size ≤ g) → K (a.put o.dst (.slice (some ⟨g, 0, none⟩) (n + 1) cap)) w') :
    if Region.wanted o (yielded ops a.tmps) = true then Oper.wp P o a w K Q else E := by
  have hw : Region.wanted o (yielded ops a.tmps) = true := by simp [Region.wanted, hg]
  rw [if_pos hw]
  obtain ⟨g, cap, w', hrun, r1, r2, r3⟩ := run_append_row (P := P) w base t o.type e i z size bytes ht hi hz hsize hby hzs hsz v n xs hown ad c news hn hc h1c b1 b2 hbase
  unfold Oper.wp
  simp [execOp, hop, resolve, invoke, builtin, hs, hx, hrun, Result.andThen]
  exact hK g cap w' r1 r2 r3
end Go.Proofs.YtijonghofghocaaDoor
