/-
  The walk of PitchAdds: it answers true. Conditions: the table of semitones lies as the program's text lays it; the slices read as their elements.
-/
import Derived.Test.YtijonghofghocaaDoorKnown
namespace Go.Proofs.YtijonghofghocaaDoor
open Go.RowKit

/-! ### A command that begins later -/
def late (c : Cmd) (d : Int) : Cmd := ⟨c.ca + d, c.ch, c.n, c.kt, c.kv⟩
theorem late_hit (c : Cmd) (d t : Int) (i : Nat) : (late c d).hit (t + d) i = c.hit t i := by
  unfold Cmd.hit late
  simp only
  rw [show t + d - (c.ca + d) = t - c.ca by omega]
theorem late_from (c : Cmd) (d t : Int) : ∀ (k i : Nat), (late c d).from (t + d) i k = c.from t i k
  | 0, _ => rfl
  | k + 1, i => by
    simp only [Cmd.from]
    rw [late_hit, late_from c d t k (i + 1)]
theorem late_val (c : Cmd) (d t : Int) : (late c d).val (t + d) = c.val t := late_from c d t c.n 0
theorem late_valid {c : Cmd} {d : Int} (h : c.valid = true) (h0 : 0 ≤ d) (h1 : c.ca + d ≤ 4000) : (late c d).valid = true := by
  simp only [Cmd.valid, late, Bool.and_eq_true, inB_iff] at h ⊢
  exact ⟨⟨⟨by omega, h.1.1.2⟩, h.1.2⟩, h.2⟩
/-- The cells of the first k commands, each later. -/
def ccells (l : Nat → Cmd) (d : Int) (sp : Nat → Option Addr) (sc : Nat → Nat) : Nat → List Value
  | 0 => []
  | k + 1 => ccells l d sp sc k ++ [.int .i64 ((l k).ca + d), .int .i64 (l k).ch, .slice (sp k) (l k).n (sc k)]
theorem ccells_length (l : Nat → Cmd) (d : Int) (sp : Nat → Option Addr) (sc : Nat → Nat) : ∀ k, (ccells l d sp sc k).length = k * 3
  | 0 => rfl
  | k + 1 => by simp only [ccells, List.length_append, ccells_length l d sp sc k, List.length_cons, List.length_nil]; omega
theorem ccells_get (l : Nat → Cmd) (d : Int) (sp : Nat → Option Addr) (sc : Nat → Nat) {i j : Nat} (hj : j < 3) : ∀ {k : Nat}, i < k → (ccells l d sp sc k)[i * 3 + j]? = some (cmdCell (fun i => late (l i) d) sp sc i j)
  | 0, h => by omega
  | k + 1, h => by
    have hl := ccells_length l d sp sc k
    simp only [ccells]
    by_cases e : i = k
    · subst e
      rw [List.getElem?_append_right (by omega), hl, show i * 3 + j - i * 3 = j by omega]
      have : j = 0 ∨ j = 1 ∨ j = 2 := by omega
      rcases this with rfl | rfl | rfl <;> rfl
    · rw [List.getElem?_append_left (by omega)]
      exact ccells_get l d sp sc hj (by omega)
theorem own_cmds {w : World} {base m : Nat} {v : Value} {l : Nat → Cmd} {d : Int} {sp : Nat → Option Addr} {sc : Nat → Nat} (h : w.ownsRow base 24 3 v m (ccells l d sp sc m)) : ∃ a c, v = .slice a m c ∧ Row w a m 3 (cmdCell (fun i => late (l i) d) sp sc) := by
  rcases h.2 with ⟨hv, hn⟩ | ⟨g, cap, cur, hv, _, hg, h1, h2, h3, h4⟩
  · exact ⟨none, 0, by rw [hv, hn], .inl hn⟩
  · refine ⟨some ⟨g, 0, none⟩, cap, hv, .inr ⟨g, 0, rfl, lt_of_block hg, fun i hi j hj => ?_⟩⟩
    subst hv
    rw [show 0 + i * 3 + j = i * 3 + j by omega, World.ownsRow.cellAt h (i * 3 + j) (by omega), ccells_get l d sp sc hj hi]
theorem cmd_one {a b : Int} {p : Option Addr} {n c : Nat} : ∀ u ∈ [Value.int .i64 a, .int .i64 b, .slice p n c], u.oneCell' = true := by
  intro u hu
  simp at hu
  rcases hu with rfl | rfl | rfl <;> rfl
theorem info24 : (Tryd.prog.info? 24).map (fun i => (i.zero, i.size, i.bytes)) = some (some (.agg #[.int .i64 0, .int .i64 0, .slice none 0 0]), 3, 40) := by kernel_rfl
theorem append_cmd {P : Program} (hP : P.underlying 32 = some (.slice 24)) (hI : (P.info? 24).map (fun i => (i.zero, i.size, i.bytes)) = some (some (.agg #[.int .i64 0, .int .i64 0, .slice none 0 0]), 3, 40)) (w : World) {ops : Array Oper} {rest : List Oper} {o : Oper} {a : Act} {Q : Exit → Act → World → Prop}
    (hgd : o.guard = none) (s x : Operand) (ho : o.op = .call { callee := .builtin .append, args := #[s, x], argTypes := #[32, 32] })
    (base : Nat) (v : Value) (n : Nat) (xs : List Value) (c1 c2 : Int) (cp : Option Addr) (cn cc : Nat) (hs : a.eval s = v) (hown : w.ownsRow base 24 3 v n xs) (ad : Addr) (hx : a.eval x = .slice (some ad) 1 1)
    (hc : ∀ (j : Nat) (u : Value), [Value.int .i64 c1, .int .i64 c2, .slice cp cn cc][j]? = some u → w.cell? (ad.add j) = some u) (hn : n ≤ 1000000) (hbase : base ≤ w.heap.size)
    (h : ∀ v' w', w'.ownsRow base 24 3 v' (n + 1) (xs ++ [.int .i64 c1, .int .i64 c2, .slice cp cn cc]) → w.grownBy w' v.ownBlock → wpList P ops Q rest (a.put o.dst v') w') : wpList P ops Q (o :: rest) a w := by
  obtain ⟨i0, hi, hz0, hz1, hz2⟩ := info_parts hI
  exact wpList_append_own w hgd s x 32 ho base 24 i0 _ 3 40 hP hi hz0 hz1 hz2 rfl (by decide) v n _ hs hown ad 1 1 _ hx rfl hc cmd_one (by unfold maxLen; omega) (by omega) hbase fun v' w' h1 h2 _ => h v' w' h1 h2
theorem own_set' {w : World} {base n Q : Nat} {e : TypeId} {size : Nat} {v : Value} {xs : List Value} (h : w.ownsRow base e size v n xs) (hQ : Q < base) (j : Nat) (u : Value) : (w.setCell ⟨Q, j, none⟩ u).ownsRow base e size v n xs := by
  refine World.ownsRow.kept (row := some Q) h ?_ ?_
  · exact ⟨rfl, rfl, rfl, by simp, fun k _ hk => Below.heap_setCell w _ _ k (fun e => hk (by rw [e]))⟩
  · cases hv : v.ownBlock with
    | none => exact .inl rfl
    | some g =>
      refine .inr fun e => ?_
      have := (World.ownsRow.lt h g hv).1
      cases e
      omega
theorem blk_grown {w w' : World} {S n k base : Nat} {e : TypeId} {size : Nat} {v : Value} {xs : List Value} {F : Nat → Int} (h : Blk w S n F) (hown : w.ownsRow base e size v k xs) (hS : S < base) (hg : w.grownBy w' v.ownBlock) : Blk w' S n F :=
  (hg.block S h.lt fun e => by have := (World.ownsRow.lt hown S e.symm).1; omega).trans h
theorem curved_parts {n base : Int} {l : Nat → Cmd} {m : Nat} (h : curvedB n base l m = true) : (-100000 ≤ base ∧ base ≤ 100000) ∧ allTo (fun i => (l i).valid) m = true := by
  simp only [curvedB, Bool.and_eq_true, decide_eq_true_eq, inB_iff] at h
  exact ⟨h.1.1.2, h.2⟩
/-- The values of the first k commands at t, together. -/
def vsum (l : Nat → Cmd) (t : Nat) (k : Nat) : Int := sumTo (fun i => (l i).val t) k
theorem vsum_bd {l : Nat → Cmd} {t k m : Nat} (h : ∀ i, i < m → (l i).valid = true) (hk : k ≤ m) (hm : m ≤ 8) : -10000000000000 ≤ vsum l t k ∧ vsum l t k ≤ 10000000000000 := by
  have := sum_bd (fun i => (l i).val t) 1200000000000 k fun i hi => val_bd (h i (by omega))
  unfold vsum
  omega
theorem late_crv {l : Nat → Cmd} {d base : Int} {t u m : Nat} (h : (u : Int) = (t : Int) + d) : crvN (fun i => late (l i) d) base u m = crvN l base t m := by
  unfold crvN
  congr 1
  refine sumTo_congr fun i _ => ?_
  show (late (l i) d).val (u : Int) = _
  rw [h, late_val]

set_option maxRecDepth 100000 in
set_option maxHeartbeats 2000000 in
theorem curve_new (n : Nat) (base : Int) (l : Nat → Cmd) (sp : Nat → Option Addr) (sc : Nat → Nat) (p : Option Addr) (m cap : Nat) (w : World) (hc : Cmds w p m l sp sc) (hn : n ≤ 4000)
    (hb1 : -100000 ≤ base) (hb2 : base ≤ 100000) (hm : m ≤ 200) (hl : allTo (fun i => (l i).valid) m = true) :
    Calls Tryd.prog 21 #[.int .i64 n, .int .i64 base, .slice p m cap] w
      fun e w' => ∃ g, w.heap.size ≤ g ∧ e = .returned (.tuple #[.slice (some ⟨g, 0, none⟩) n n, .int .i64 0]) ∧ Blk w' g n (fun t => crvN l base t m) ∧ Below w.heap.size w w' := by
  have hn' : (n : Int) ≤ 4000 := by omega
  have hm' : (m : Int) ≤ 200 := by omega
  have i1 : inB n 0 4000 = true := inB_iff.2 ⟨by omega, by omega⟩
  have i2 : inB base (-100000) 100000 = true := inB_iff.2 ⟨hb1, hb2⟩
  have HL := Lib.hid (allTo_iff.1 hl)
  have hmk := make_ints n (by omega)
  go_enter Tryd.func21, Tryd.ntmps21
  go_wp2_with (go_at_call 48; refine (within_any _ _ _ _).mono ?_; rintro e w' ⟨rfl, rfl⟩)
  refine (contains_cmd l sp sc p m cap w (by omega) hc).mono ?_
  rintro e w1 ⟨rfl, hb⟩
  rw [hl]
  have HW := Lib.hid hb
  clear hb hl
  go_wp2_with fail
  clear hmk
  obtain ⟨g, hg⟩ : ∃ g, g = w1.heap.size := ⟨_, rfl⟩
  have hwg : w.heap.size ≤ g := by rw [hg]; exact HW.out.size
  go_loopw [33] (fun i wr => ∃ k : Nat, k ≤ n ∧ i = .int .i64 k ∧ Blk wr w1.heap.size n (fun t => if t < k then crvN l base t m else 0) ∧ Below w.heap.size w wr) (fun i _ => n - (intOf i).toNat)
  case atStart => exact ⟨0, Nat.zero_le _, rfl, (blk_new w1 n (fun _ => 0)).congr (fun i _ => by simp), HW.out.trans ((newb w1 _).mono HW.out.size)⟩
  case round =>
    obtain ⟨k, hk, rfl, hblk, hb⟩ := hrel
    rw [← hg] at *
    have HK := Lib.hid hblk
    have HB := Lib.hid hb
    clear hblk hb
    by_cases hlt : k < n
    · have c0 := HK.out.cell hlt
      have f0 := HK.out.free k
      have gl := HK.out.lt
      go_wp2_with fail
      have HK0 := Lib.hid ((HK.out.set hlt base))
      have HB0 := Lib.hid (HB.out.setCell (p := ⟨g, k, none⟩) (by omega) (.int .i64 base))
      have hgs : g < (wr.setCell ⟨g, k, none⟩ (.int .i64 base)).heap.size := HK0.out.lt
      clear c0 f0 gl
      obtain ⟨wo, rfl⟩ : ∃ wo : World, wo = wr := ⟨_, rfl⟩
      go_loopw [42] (fun i wr => ∃ j : Nat, j ≤ m ∧ i = .int .i64 j ∧ Blk wr g n (fun t => if t = k then crvN l base k j else if t < k then crvN l base t m else 0) ∧ Below w.heap.size w wr) (fun i _ => m - (intOf i).toNat)
      case atStart => exact ⟨0, Nat.zero_le _, rfl, HK0.out.congr (fun i _ => by simp [crvN, sumTo]), HB0.out⟩
      case round =>
        obtain ⟨j, hj, rfl, hblk, hb⟩ := hrel
        have HK1 := Lib.hid hblk
        have HB1 := Lib.hid hb
        clear hblk hb hgs
        have gl := HK1.out.lt
        by_cases hjm : j < m
        · obtain ⟨b, off, rfl, hbs, hcell⟩ := hc.1.at (by omega)
          have k0 : wr.cell? ⟨b, off + j * 3, none⟩ = some (.int .i64 (l j).ca) := by rw [HB1.out.cell hbs]; exact hcell j hjm 0 (by omega)
          have k1 : wr.cell? ⟨b, off + j * 3 + 1, none⟩ = some (.int .i64 (l j).ch) := by rw [HB1.out.cell hbs]; exact hcell j hjm 1 (by omega)
          have k2 : wr.cell? ⟨b, off + j * 3 + 2, none⟩ = some (.slice (sp j) (l j).n (sc j)) := by rw [HB1.out.cell hbs]; exact hcell j hjm 2 (by omega)
          have HS := Lib.hid (hc.2 j hjm)
          clear hcell
          go_wp2_with fail
          clear k0 k1 k2
          refine wp_gen (fun w2 => Blk w2 g n (fun t => if t = k then crvN l base k j else if t < k then crvN l base t m else 0) ∧ Below w.heap.size w w2 ∧ w2.cell? ⟨wr.heap.size, 0, none⟩ = some (.int .i64 (l j).ca) ∧ w2.cell? ⟨wr.heap.size, 1, none⟩ = some (.int .i64 (l j).ch) ∧ w2.cell? ⟨wr.heap.size, 2, none⟩ = some (.slice (sp j) (l j).n (sc j)))
            ⟨HK1.out.later (newb _ _), HB1.out.alloc (by omega) _, by simp, by simp, by simp⟩ ?_
          rintro w2 ⟨hK2, hB2, a0, a1, a2⟩
          have HK2 := Lib.hid hK2
          have HB2 := Lib.hid hB2
          have q0 := later_cell a0
          have q1 := later_cell a1
          have q2 := later_cell a2
          have q3 : ∀ x : Later w2, x.w.cell? ⟨g, k, none⟩ = some (.int .i64 (crvN l base k j)) := later_cell (by rw [hK2.cell hlt]; simp)
          clear hK2 hB2 a0 a1 a2
          have bd := crvN_bd (l := l) (base := base) (t := k) (j := j) (m := m) hb1 hb2 HL.out hm (by omega)
          have bd2 := val_bd (t := (k : Int)) (HL.out j hjm)
          have e1 : IntKind.i64.wrap (crvN l base k j + (l j).val k) = crvN l base k j + (l j).val k := IntWalk.i64_in _ (by omega)
          refine wp_region_later_tail 9 (by kernel_rfl) (by kernel_rfl) ?_
          simp only [List.take_succ_cons, List.take_zero, List.drop_succ_cons, List.drop_zero]
          repeat (go_big_quiet_step ((go_at_call 49; exact Calls.later_of (value_any (l j) _ _ _ _ (HL.out j hjm) (by omega) (by omega) ((HS.out.2.mono HB2.out).mono (Later.below _))))))
          refine wpQuiet_nil ?_
          rintro w3 ⟨x, hx⟩
          have hb3 : Below w2.heap.size w2 w3 := hx ▸ x.below
          clear hx x
          have HK3 := Lib.hid (HK2.out.later hb3)
          have HB3 := Lib.hid (HB2.out.trans (hb3.mono HB2.out.size))
          clear q0 q1 q2 q3 e1 hb3
          have c3 := HK3.out.cell hlt
          have f3 := HK3.out.free k
          go_wp2_with fail
          go_roundw
          case rel => exact ⟨j + 1, by omega, by go_num, (HK3.out.set hlt _).congr (fun i hi => by by_cases e : i = k <;> simp [e, crvN_succ]), HB3.out.setCell (by simpa using hwg) _⟩
          case measure => simp [intOf]; omega
        · have hle : m ≤ j := by omega
          have HJ := Lib.hid (show j = m by omega)
          go_wp2_with fail
          go_roundw
          case rel => exact ⟨k + 1, by omega, by go_num, HK1.out.congr (fun i hi => by
            by_cases e : i = k
            · subst e; simp [HJ.out]
            · by_cases e2 : i < k
              · rw [if_neg e, if_pos e2, if_pos (by omega)]
              · rw [if_neg e, if_neg e2, if_neg (by omega)]), HB1.out⟩
          case measure => simp [intOf]; omega
    · have hle : n ≤ k := by omega
      go_wp2_with fail
      go_ret2
      exact ⟨g, hwg, rfl, HK.out.congr (fun i hi => by rw [if_pos (by omega)]), HB.out⟩

set_option maxRecDepth 100000 in
set_option maxHeartbeats 16000000 in
theorem adds_main (N d : Nat) (base : Int) (l : Nat → Cmd) (sp : Nat → Option Addr) (sc : Nat → Nat) (p : Option Addr) (m cap : Nat) (w : World) (hN : N ≤ 200) (hm : m ≤ 8) (hd : d ≤ 100) (kb : allTo (fun i => decide ((l i).n ≤ 40)) m = true)
    (cb : curvedB N base l m = true) (hc : Cmds w p m l sp sc) (ht : Table w) :
    Calls Tryd.prog 5 #[.int .i64 N, .int .i64 base, .slice p m cap, .int .i64 d] w fun e w' => e = .returned (.bool true) ∧ Below w.heap.size w w' := by
  have hN' : (N : Int) ≤ 200 := by omega
  have hm' : (m : Int) ≤ 8 := by omega
  have hd' : (d : Int) ≤ 100 := by omega
  obtain ⟨⟨b1, b2⟩, hv⟩ := curved_parts cb
  have HKB := Lib.hid kb
  have HCB := Lib.hid cb
  have HVA := Lib.hid hv
  have HV := Lib.hid (allTo_iff.1 hv)
  have HC := Lib.hid hc
  have HT := Lib.hid ht
  have hmk := make_ints N (by omega)
  clear kb cb hv hc ht
  go_enter Tryd.func5, Tryd.ntmps5
  go_wp2_with fail
  refine (knots_any l sp sc p m cap _ HC.out (by omega)).mono ?_
  rintro e w1 ⟨rfl, hb1⟩
  rw [HKB.out]
  have HB1 := Lib.hid hb1
  clear hb1
  go_wp2_with fail
  refine (curved_any N base l sp sc p m cap _ (HC.out.mono HB1.out) (by omega)).mono ?_
  rintro e w2 ⟨rfl, hb2⟩
  rw [HCB.out]
  have HB2 := Lib.hid (HB1.out.trans (hb2.mono HB1.out.size))
  clear hb2
  go_wp2_with fail
  refine (curve_new N base l sp sc p m cap _ (HC.out.mono HB2.out) (by omega) b1 b2 (by omega) HVA.out).mono ?_
  rintro e w3 ⟨gv, hgv, rfl, hv3, hb3⟩
  have HV3 := Lib.hid hv3
  have HB3 := Lib.hid (HB2.out.trans (hb3.mono HB2.out.size))
  have HC3 := Lib.hid (HC.out.mono HB3.out)
  clear hv3 hb3 hgv
  go_wp2_with fail
  clear hmk
  obtain ⟨S, hS⟩ : ∃ S, S = w3.heap.size := ⟨_, rfl⟩
  have HS := Lib.hid hS
  rw [← hS]
  refine wp_gen (fun w4 => Blk w4 S N (fun t => vsum l t 0) ∧ Below w3.heap.size w3 w4) ⟨by rw [hS]; exact blk_new w3 N (fun _ => 0), newb _ _⟩ ?_
  clear hS
  rintro w4 ⟨hs4, hb4⟩
  have HS4 := Lib.hid hs4
  have HB4 := Lib.hid hb4
  clear hs4 hb4
  go_loopw [12, 13] (fun s i wr => ∃ k : Nat, k ≤ m ∧ i = .int .i64 k ∧ Blk wr S N (fun t => vsum l t k) ∧ wr.ownsRow (S + 1) 24 3 s k (ccells l d sp sc k) ∧ (∀ i, i < k → (l i).ca + d ≤ 4000) ∧ Below w3.heap.size w3 wr) (fun _ i _ => m - (intOf i).toNat)
  case atStart => exact ⟨0, Nat.zero_le _, rfl, HS4.out, World.ownsRow_nil _ _ _ _, fun i hi => by omega, HB4.out⟩
  case round =>
    obtain ⟨k, hk, rfl, hs, ho, hat, hb⟩ := hrel
    have HSk := Lib.hid hs
    have HO := Lib.hid ho
    have HAT := Lib.hid hat
    have HB := Lib.hid hb
    clear hs ho hat hb HS4 HB4 w4
    have hSs : S < wr.heap.size := HSk.out.lt
    by_cases hlt : k < m
    · obtain ⟨b, off, rfl, hbs, hcell⟩ := HC3.out.1.at (by omega)
      have HCE := Lib.hid (show ∀ j, j < 3 → w3.cell? ⟨b, off + k * 3 + j, none⟩ = some (cmdCell l sp sc k j) from fun j hj => hcell k hlt j hj)
      clear hcell
      have k0 : wr.cell? ⟨b, off + k * 3, none⟩ = some (.int .i64 (l k).ca) := by rw [HB.out.cell hbs]; exact HCE.out 0 (by omega)
      have k1 : wr.cell? ⟨b, off + k * 3 + 1, none⟩ = some (.int .i64 (l k).ch) := by rw [HB.out.cell hbs]; exact HCE.out 1 (by omega)
      have k2 : wr.cell? ⟨b, off + k * 3 + 2, none⟩ = some (.slice (sp k) (l k).n (sc k)) := by rw [HB.out.cell hbs]; exact HCE.out 2 (by omega)
      go_wp2_with fail
      clear k0 k1 k2
      have HM := Lib.hid (heap_alloc_new wr (.cells #[.int .i64 (l k).ca, .int .i64 (l k).ch, .slice (sp k) (l k).n (sc k)] 24))
      have HNB := Lib.hid (newb wr (.cells #[.int .i64 (l k).ca, .int .i64 (l k).ch, .slice (sp k) (l k).n (sc k)] 24))
      have HCM := Lib.hid (show Cmds (wr.alloc (.cells #[.int .i64 (l k).ca, .int .i64 (l k).ch, .slice (sp k) (l k).n (sc k)] 24)) (some ⟨wr.heap.size, 0, none⟩) 1 (fun _ => l k) (fun _ => sp k) (fun _ => sc k) from
        ⟨row_block HM.out fun i hi => by
          obtain rfl : i = 0 := by omega
          exact lt3 rfl rfl rfl, fun i _ => ⟨(HC3.out.2 k hlt).1, ((HC3.out.2 k hlt).2.mono HB.out).mono HNB.out⟩⟩)
      refine (curve_new N 0 (fun _ => l k) (fun _ => sp k) (fun _ => sc k) (some ⟨wr.heap.size, 0, none⟩) 1 1 _ HCM.out (by omega) (by omega) (by omega) (by omega) (allTo_iff.2 fun i _ => HV.out k hlt)).mono ?_
      rintro e w5 ⟨gx, hgx, rfl, hx5, hb5⟩
      have hb5' := HNB.out.trans (hb5.mono HNB.out.size)
      have HX5 := Lib.hid (hx5.congr (G := fun t => (l k).val t) fun t _ => by simp [crvN, sumTo])
      have HS5 := Lib.hid (HSk.out.later hb5')
      have HO5 := Lib.hid (ownsRow_later HO.out hb5')
      have HB5 := Lib.hid (HB.out.trans (hb5'.mono HB.out.size))
      have hSx : S ≠ gx := by
        have := HNB.out.size
        omega
      have HSX := Lib.hid hSx
      clear hx5 hb5 hb5' hgx HSk HO HM HNB HCM hSx
      go_wp2_with fail
      obtain ⟨wo, hwo⟩ : ∃ wo : World, wo = wr := ⟨_, rfl⟩
      go_loopw [16] (fun u wi => ∃ j : Nat, j ≤ N ∧ u = .int .i64 j ∧ Blk wi S N (fun t => if t < j then vsum l t (k + 1) else vsum l t k) ∧ Blk wi gx N (fun t => (l k).val t) ∧ wi.ownsRow (S + 1) 24 3 u12 k (ccells l d sp sc k) ∧ Below w3.heap.size w3 wi) (fun u _ => N - (intOf u).toNat)
      case atStart => exact ⟨0, Nat.zero_le _, rfl, HS5.out.congr fun t _ => by rw [if_neg (by omega)], HX5.out, HO5.out, HB5.out⟩
      case round =>
        obtain ⟨j, hj, rfl, hs, hx, ho, hb⟩ := hrel
        have HSj := Lib.hid hs
        have HXj := Lib.hid hx
        have HOj := Lib.hid ho
        have HBj := Lib.hid hb
        clear hs hx ho hb
        by_cases hltj : j < N
        · have c0 := HSj.out.cell hltj
          rw [if_neg (by omega)] at c0
          have f0 := HSj.out.free j
          have cx := HXj.out.cell hltj
          have bd1 := vsum_bd (t := j) HV.out hk hm
          have bd2 := val_bd (t := (j : Int)) (HV.out k hlt)
          have e1 : IntKind.i64.wrap (vsum l j k + (l k).val j) = vsum l j (k + 1) := by
            rw [show vsum l j (k + 1) = vsum l j k + (l k).val j from rfl]
            exact IntWalk.i64_in _ (by omega)
          go_wp2_with fail
          go_region
          have HSn := Lib.hid ((HSj.out.set hltj (vsum l j (k + 1))).congr (G := fun t => if t < j + 1 then vsum l t (k + 1) else vsum l t k) fun t _ => by
            by_cases e : t = j
            · rw [if_pos e, if_pos (by omega), e]
            · rw [if_neg e]
              by_cases e2 : t < j
              · rw [if_pos e2, if_pos (by omega)]
              · rw [if_neg e2, if_neg (by omega)])
          have HXn := Lib.hid (HXj.out.other (a := ⟨S, j, none⟩) HSX.out (.int .i64 (vsum l j (k + 1))))
          have HOn := Lib.hid (own_set' HOj.out (Nat.lt_succ_self S) j (.int .i64 (vsum l j (k + 1))))
          have HBn := Lib.hid ((HBj.out.setCell (p := ⟨S, j, none⟩) (by rw [HS.out]; exact Nat.le_refl _) (.int .i64 (vsum l j (k + 1)))).trans (show Below w3.heap.size (wr.setCell ⟨S, j, none⟩ (.int .i64 (vsum l j (k + 1)))) (wr.setCell ⟨S, j, none⟩ (.int .i64 (vsum l j (k + 1)))).drew from ⟨rfl, rfl, rfl, Nat.le_refl _, fun _ _ => rfl⟩))
          clear c0 f0 cx e1
          go_wp2_with fail
          go_roundw
          case rel => exact ⟨j + 1, by omega, by go_num, HSn.out, HXn.out, HOn.out, HBn.out⟩
          case measure => simp [intOf]; omega
        · have hlej : N ≤ j := by omega
          have HJ := Lib.hid (show j = N by omega)
          have HSN := Lib.hid (HSj.out.congr (G := fun t => vsum l t (k + 1)) fun t ht => by rw [if_pos (by have := HJ.out; omega)])
          have k0 : wr.cell? ⟨b, off + k * 3, none⟩ = some (.int .i64 (l k).ca) := by rw [HBj.out.cell hbs]; exact HCE.out 0 (by omega)
          have k1 : wr.cell? ⟨b, off + k * 3 + 1, none⟩ = some (.int .i64 (l k).ch) := by rw [HBj.out.cell hbs]; exact HCE.out 1 (by omega)
          have k2 : wr.cell? ⟨b, off + k * 3 + 2, none⟩ = some (.slice (sp k) (l k).n (sc k)) := by rw [HBj.out.cell hbs]; exact HCE.out 2 (by omega)
          obtain ⟨⟨ca1, ca2⟩, _⟩ := valid_iff (HV.out k hlt)
          by_cases hgt : (l k).ca + d ≤ 4000
          · have HNW := Lib.hid (show ∀ o1 o2, Below wr.heap.size wr ((wr.alloc o1).alloc o2) from fun o1 o2 => (newb wr o1).alloc (by simp) o2)
            have hSw : S + 1 ≤ wr.heap.size := HSj.out.lt
            go_wp2_with (at_builtin; refine append_cmd Tryd.underlying32 info24 _ rfl _ _ rfl (S + 1) _ k (ccells l d sp sc k) ((l k).ca + d) (l k).ch (sp k) (l k).n (sc k) rfl (ownsRow_later HOj.out (HNW.out _ _)) ⟨wr.heap.size + 1, 0, none⟩ rfl (three_at _ _ _ _ _ _ (by simp)) ?c2 ?c3 ?c4)
            case c2 => omega
            case c3 => first | omega | (simp; omega)
            case c4 =>
              intro v2 w6 r1 r2
              have HS6 := Lib.hid (blk_grown (HSN.out.later (HNW.out _ _)) (ownsRow_later HOj.out (HNW.out _ _)) (Nat.lt_succ_self S) r2)
              have HO6 := Lib.hid (show w6.ownsRow (S + 1) 24 3 v2 (k + 1) (ccells l d sp sc (k + 1)) from r1)
              have HB6 := Lib.hid ((HBj.out.trans ((HNW.out _ _).mono HBj.out.size)).grown r2 (Nat.le_trans HBj.out.size (HNW.out _ _).size) (fun j hj => by have := (World.ownsRow.lt HOj.out j hj).1; have := HS.out; omega))
              clear r1 r2 k0 k1 k2
              go_wp2_with fail
              go_roundw
              case rel => exact ⟨k + 1, by omega, by go_num, HS6.out, HO6.out, fun i hi => by
                by_cases e : i = k
                · rw [e]; exact hgt
                · exact HAT.out i (by omega), HB6.out⟩
              case measure => simp [intOf]; omega
          · have hgt' : 4000 < (l k).ca + d := by omega
            go_wp2_with fail
            have HBW := Lib.hid (HB3.out.trans (HBj.out.mono HB3.out.size))
            refine (known_any _ (HT.out.later (HBW.out.trans ((newb _ _).mono HBW.out.size)))).mono ?_
            rintro e wk ⟨rfl, hbk⟩
            have HBK := Lib.hid ((HBW.out.trans ((newb _ _).mono HBW.out.size)).trans (hbk.mono (Nat.le_trans HBW.out.size (newb _ _).size)))
            clear hbk
            go_wp2_with fail
            go_ret
            exact ⟨rfl, HBK.out⟩
    · have hle : m ≤ k := by omega
      have HK := Lib.hid (show k = m by omega)
      obtain ⟨wo, rfl⟩ : ∃ wo : World, wo = wr := ⟨_, rfl⟩
      obtain ⟨sa, scap, hsv, hrow⟩ := own_cmds HO.out
      subst hsv
      have HRW := Lib.hid hrow
      obtain ⟨E, hE⟩ : ∃ E, E = N + d := ⟨_, rfl⟩
      have HE := Lib.hid hE
      clear hrow
      go_wp2_with fail
      go_loopw [18] (fun u wr => ∃ j : Nat, j ≤ N ∧ u = .int .i64 j ∧ Below wo.heap.size wo wr) (fun u _ => N - (intOf u).toNat)
      case atStart => exact ⟨0, Nat.zero_le _, rfl, Below.refl _ _⟩
      case round =>
        obtain ⟨j, hj, rfl, hb⟩ := hrel
        have HBj := Lib.hid hb
        clear hb
        by_cases hltj : j < N
        · have kv := keepc HBj.out (keepc HB.out (HV3.out.cell hltj))
          rw [show crvN l base j m = base + vsum l j m from rfl] at kv
          have ks := keepc HBj.out (HSk.out.cell hltj)
          rw [HK.out] at ks
          have bd1 := vsum_bd (t := j) HV.out (Nat.le_refl m) hm
          go_wp2_with fail
          go_quiet (fail)
          go_wp2_with fail
          go_roundw
          case rel => exact ⟨j + 1, by omega, by go_num, by repeat first | exact HBj.out | refine below_drewN ?_ _⟩
          case measure => simp [intOf]; omega
        · have hlej : N ≤ j := by omega
          have HBJ := Lib.hid (HB.out.trans (HBj.out.mono HB.out.size))
          have eE : IntKind.i64.wrap ((N : Int) + (d : Int)) = (E : Int) := by rw [hE]; exact IntWalk.i64_in _ (by omega)
          have HCW := Lib.hid (show Cmds wr sa m (fun i => late (l i) d) sp sc from
            ⟨(HK.out ▸ HRW.out).mono HBj.out, fun i hi => ⟨(HC3.out.2 i hi).1, (HC3.out.2 i hi).2.mono HBJ.out⟩⟩)
          have HVL := Lib.hid (allTo_iff.2 fun i (hi : i < m) => late_valid (d := d) (HV.out i hi) (by omega) (HAT.out i (by have := HK.out; omega)))
          rw [HK.out]
          clear hE
          go_wp2_with fail
          refine (curve_new E base (fun i => late (l i) d) sp sc sa m scap _ HCW.out (by have := HE.out; omega) b1 b2 (by omega) HVL.out).mono ?_
          rintro e w7 ⟨gw, hgw, rfl, hw7, hb7⟩
          have HB7 := Lib.hid (HBJ.out.trans (hb7.mono HBJ.out.size))
          have HI7 := Lib.hid (show Ints w7 (some ⟨gw, d, none⟩) N (fun t => crvN l base t m) from .inr ⟨gw, d, rfl, hw7.lt, fun i hi => by
            rw [hw7.cell (j := d + i) (by have := HE.out; omega), late_crv (show ((d + i : Nat) : Int) = (i : Int) + d by omega)]⟩)
          have HJ7 := Lib.hid ((HV3.out.ints).mono HB7.out)
          have hdE : (d : Int) ≤ E := by have := HE.out; omega
          have hEd : E - d = N := by have := HE.out; omega
          clear hw7 hb7 hgw
          go_wp2_with fail
          all_goals
            refine (same_any N N (fun t => crvN l base t m) (fun t => crvN l base t m) _ (some ⟨gv, 0, none⟩) N N w7 (by first | exact HI7.out | exact .inl (by have := HE.out; omega)) HJ7.out (by omega) (by omega)).mono ?_
            rintro e w8 ⟨rfl, hb8⟩
            rw [sameB_of fun _ _ => rfl]
            have HB8 := Lib.hid (HB7.out.trans (hb8.mono HB7.out.size))
            have HBW := Lib.hid (HB3.out.trans (HB8.out.mono HB3.out.size))
            clear hb8 eE hEd hdE
            go_wp2_with fail
            refine (known_any _ (HT.out.later HBW.out)).mono ?_
            rintro e wk ⟨rfl, hbk⟩
            have HBK := Lib.hid (HBW.out.trans (hbk.mono HBW.out.size))
            clear hbk
            go_wp2_with fail
            go_ret
            exact ⟨rfl, HBK.out⟩

set_option maxRecDepth 100000 in
set_option maxHeartbeats 4000000 in
theorem adds_law (n base later : Int) (l : Nat → Cmd) (sp : Nat → Option Addr) (sc : Nat → Nat) (p : Option Addr) (m cap : Nat) (w : World) (hm : m ≤ 9223372036854775807) (hc : Cmds w p m l sp sc) (ht : Table w) :
    Calls Tryd.prog 5 #[.int .i64 n, .int .i64 base, .slice p m cap, .int .i64 later] w fun e w' => e = .returned (.bool true) ∧ Below w.heap.size w w' := by
  have HT := Lib.hid ht
  have HC := Lib.hid hc
  have HM := Lib.hid hm
  have hm' : (m : Int) ≤ 9223372036854775807 := by omega
  clear ht hc hm
  rcases (show n < 0 ∨ (0 ≤ n ∧ 200 < n) ∨ (0 ≤ n ∧ n ≤ 200) by omega) with h1 | ⟨h1, h2⟩ | ⟨h1, h2⟩
  rotate_left 2
  · rcases (show (8 : Int) < m ∨ (m : Int) ≤ 8 by omega) with h3 | h3
    · go_enter Tryd.func5, Tryd.ntmps5
      go_wp2_with fail
      refine (known_any _ HT.out).mono ?_
      rintro e wk ⟨rfl, hbk⟩
      have HBK := Lib.hid hbk
      clear hbk
      go_wp2_with fail
      go_ret
      exact ⟨rfl, HBK.out⟩
    · cases kb : allTo (fun i => decide ((l i).n ≤ 40)) m with
      | false =>
        go_enter Tryd.func5, Tryd.ntmps5
        go_wp2_with fail
        refine (knots_any l sp sc p m cap _ HC.out HM.out).mono ?_
        rintro e w1 ⟨rfl, hb1⟩
        rw [kb]
        have HB1 := Lib.hid hb1
        clear hb1 kb
        go_wp2_with fail
        refine (known_any _ (HT.out.later HB1.out)).mono ?_
        rintro e wk ⟨rfl, hbk⟩
        have HBK := Lib.hid (HB1.out.trans (hbk.mono HB1.out.size))
        clear hbk
        go_wp2_with fail
        go_ret
        exact ⟨rfl, HBK.out⟩
      | true =>
        have HKB := Lib.hid kb
        clear kb
        cases cb : curvedB n base l m with
        | false =>
          have HCB := Lib.hid cb
          clear cb
          go_enter Tryd.func5, Tryd.ntmps5
          go_wp2_with fail
          refine (knots_any l sp sc p m cap _ HC.out HM.out).mono ?_
          rintro e w1 ⟨rfl, hb1⟩
          rw [HKB.out]
          have HB1 := Lib.hid hb1
          clear hb1
          go_wp2_with fail
          refine (curved_any n base l sp sc p m cap _ (HC.out.mono HB1.out) HM.out).mono ?_
          rintro e w2 ⟨rfl, hb2⟩
          rw [HCB.out]
          have HB2 := Lib.hid (HB1.out.trans (hb2.mono HB1.out.size))
          clear hb2
          go_wp2_with fail
          refine (known_any _ (HT.out.later HB2.out)).mono ?_
          rintro e wk ⟨rfl, hbk⟩
          have HBK := Lib.hid (HB2.out.trans (hbk.mono HB2.out.size))
          clear hbk
          go_wp2_with fail
          go_ret
          exact ⟨rfl, HBK.out⟩
        | true =>
          have HCB := Lib.hid cb
          clear cb
          by_cases hd : 0 ≤ later ∧ later ≤ 100
          · obtain ⟨N, rfl⟩ : ∃ N : Nat, n = N := ⟨n.toNat, by omega⟩
            obtain ⟨d, rfl⟩ : ∃ d : Nat, later = d := ⟨later.toNat, by omega⟩
            exact adds_main N d base l sp sc p m cap w (by omega) (by omega) (by omega) HKB.out HCB.out HC.out HT.out
          · have hcase : later < 0 ∨ (0 ≤ later ∧ 100 < later) := by omega
            clear hd
            rcases hcase with h4 | ⟨h4, h5⟩
            all_goals
              go_enter Tryd.func5, Tryd.ntmps5
              go_wp2_with fail
              refine (knots_any l sp sc p m cap _ HC.out HM.out).mono ?_
              rintro e w1 ⟨rfl, hb1⟩
              rw [HKB.out]
              have HB1 := Lib.hid hb1
              clear hb1
              go_wp2_with fail
              refine (curved_any n base l sp sc p m cap _ (HC.out.mono HB1.out) HM.out).mono ?_
              rintro e w2 ⟨rfl, hb2⟩
              rw [HCB.out]
              have HB2 := Lib.hid (HB1.out.trans (hb2.mono HB1.out.size))
              clear hb2
              go_wp2_with fail
              refine (known_any _ (HT.out.later HB2.out)).mono ?_
              rintro e wk ⟨rfl, hbk⟩
              have HBK := Lib.hid (HB2.out.trans (hbk.mono HB2.out.size))
              clear hbk
              go_wp2_with fail
              go_ret
              exact ⟨rfl, HBK.out⟩
  all_goals
    go_enter Tryd.func5, Tryd.ntmps5
    go_wp2_with fail
    refine (known_any _ HT.out).mono ?_
    rintro e wk ⟨rfl, hbk⟩
    have HBK := Lib.hid hbk
    clear hbk
    go_wp2_with fail
    go_ret
    exact ⟨rfl, HBK.out⟩
end Go.Proofs.YtijonghofghocaaDoor
