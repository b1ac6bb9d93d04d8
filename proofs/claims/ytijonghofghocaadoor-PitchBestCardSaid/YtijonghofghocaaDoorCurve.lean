/-
  The walk of pitch.Curve: the curve of commands, or the error. Condition: the slice reads as its commands.
-/
import Derived.Test.YtijonghofghocaaDoorOwn
import Derived.Test.YtijonghofghocaaDoorContains
import Derived.Test.YtijonghofghocaaDoorVal2
namespace Go.Proofs.YtijonghofghocaaDoor
open Go.RowKit

/-- The values of the first j commands at a time. -/
def crvN (l : Nat → Cmd) (base : Int) (t : Nat) (j : Nat) : Int := base + sumTo (fun i => (l i).val t) j
theorem crvN_succ (l : Nat → Cmd) (base : Int) (t j : Nat) : crvN l base t (j + 1) = crvN l base t j + (l j).val t := by
  show base + (sumTo _ j + (l j).val t) = base + sumTo _ j + (l j).val t
  omega
theorem sum_bd (f : Nat → Int) (K : Int) : ∀ n, (∀ i, i < n → -K ≤ f i ∧ f i ≤ K) → -(K * n) ≤ sumTo f n ∧ sumTo f n ≤ K * n
  | 0, _ => by simp [sumTo]
  | n + 1, h => by
    have h1 := sum_bd f K n (fun i hi => h i (by omega))
    have h2 := h n (by omega)
    show -(K * ((n + 1 : Nat) : Int)) ≤ sumTo f n + f n ∧ sumTo f n + f n ≤ K * ((n + 1 : Nat) : Int)
    have : K * ((n + 1 : Nat) : Int) = K * n + K := by rw [Int.natCast_add, Int.mul_add]; simp
    omega
theorem crvN_bd {l : Nat → Cmd} {base : Int} {t j m : Nat} (hb : -100000 ≤ base) (hb' : base ≤ 100000) (hl : ∀ i, i < m → (l i).valid = true) (hm : m ≤ 200) (hj : j ≤ m) :
    -240000000100000 ≤ crvN l base t j ∧ crvN l base t j ≤ 240000000100000 := by
  have h := sum_bd (fun i => (l i).val t) 1200000000000 j (fun i hi => val_bd (hl i (by omega)))
  unfold crvN
  omega

/-- Two results, a slice and an error's number. -/
def SliceErr (n : Nat) (F : Nat → Int) (err : Int) (w : World) (e : Ending) (w' : World) : Prop :=
  ∃ p cap, e = .returned (.tuple #[.slice p n cap, .int .i64 err]) ∧ Ints w' p n F ∧ Below w.heap.size w w'

def curvedB (n base : Int) (l : Nat → Cmd) (m : Nat) : Bool := inB n 0 4000 && inB base (-100000) 100000 && decide (m ≤ 200) && allTo (fun i => (l i).valid) m

set_option maxRecDepth 100000 in
set_option maxHeartbeats 2000000 in
theorem curve_ok (n : Nat) (base : Int) (l : Nat → Cmd) (sp : Nat → Option Addr) (sc : Nat → Nat) (p : Option Addr) (m cap : Nat) (w : World) (hc : Cmds w p m l sp sc) (hn : n ≤ 4000)
    (hb1 : -100000 ≤ base) (hb2 : base ≤ 100000) (hm : m ≤ 200) (hl : allTo (fun i => (l i).valid) m = true) :
    Calls Tryd.prog 21 #[.int .i64 n, .int .i64 base, .slice p m cap] w (SliceErr n (fun t => crvN l base t m) 0 w) := by
  have hn' : (n : Int) ≤ 4000 := by omega
  have hm' : (m : Int) ≤ 200 := by omega
  have i1 : inB n 0 4000 = true := inB_iff.2 ⟨by omega, by omega⟩
  have i2 : inB base (-100000) 100000 = true := inB_iff.2 ⟨hb1, hb2⟩
  have HL := Lib.hid (allTo_iff.1 hl)
  have hmk := make_ints n (by omega)
  go_enter Tryd.func21, Tryd.ntmps21
  go_wp2_with (go_at_call 48; refine (within_any _ _ _ _).mono ?_; rintro e w' ⟨rfl, rfl⟩)
  refine (contains_cmd l sp sc p m cap w (by omega) hc).mono ?_
  rintro e w1 ⟨rfl, hb⟩
  rw [hl]
  have HW := Lib.hid hb
  clear hb hl
  go_wp2_with fail
  clear hmk
  obtain ⟨g, hg⟩ : ∃ g, g = w1.heap.size := ⟨_, rfl⟩
  have hwg : w.heap.size ≤ g := by rw [hg]; exact HW.out.size
  go_loopw [33] (fun i wr => ∃ k : Nat, k ≤ n ∧ i = .int .i64 k ∧ Blk wr w1.heap.size n (fun t => if t < k then crvN l base t m else 0) ∧ Below w.heap.size w wr) (fun i _ => n - (intOf i).toNat)
  case atStart => exact ⟨0, Nat.zero_le _, rfl, (blk_new w1 n (fun _ => 0)).congr (fun i _ => by simp), HW.out.trans ((newb w1 _).mono HW.out.size)⟩
  case round =>
    obtain ⟨k, hk, rfl, hblk, hb⟩ := hrel
    rw [← hg] at *
    have HK := Lib.hid hblk
    have HB := Lib.hid hb
    clear hblk hb
    by_cases hlt : k < n
    · have c0 := HK.out.cell hlt
      have f0 := HK.out.free k
      have gl := HK.out.lt
      go_wp2_with fail
      have HK0 := Lib.hid ((HK.out.set hlt base))
      have HB0 := Lib.hid (HB.out.setCell (p := ⟨g, k, none⟩) (by omega) (.int .i64 base))
      have hgs : g < (wr.setCell ⟨g, k, none⟩ (.int .i64 base)).heap.size := HK0.out.lt
      clear c0 f0 gl
      obtain ⟨wo, rfl⟩ : ∃ wo : World, wo = wr := ⟨_, rfl⟩
      go_loopw [42] (fun i wr => ∃ j : Nat, j ≤ m ∧ i = .int .i64 j ∧ Blk wr g n (fun t => if t = k then crvN l base k j else if t < k then crvN l base t m else 0) ∧ Below w.heap.size w wr) (fun i _ => m - (intOf i).toNat)
      case atStart => exact ⟨0, Nat.zero_le _, rfl, HK0.out.congr (fun i _ => by simp [crvN, sumTo]), HB0.out⟩
      case round =>
        obtain ⟨j, hj, rfl, hblk, hb⟩ := hrel
        have HK1 := Lib.hid hblk
        have HB1 := Lib.hid hb
        clear hblk hb hgs
        have gl := HK1.out.lt
        by_cases hjm : j < m
        · obtain ⟨b, off, rfl, hbs, hcell⟩ := hc.1.at (by omega)
          have k0 : wr.cell? ⟨b, off + j * 3, none⟩ = some (.int .i64 (l j).ca) := by rw [HB1.out.cell hbs]; exact hcell j hjm 0 (by omega)
          have k1 : wr.cell? ⟨b, off + j * 3 + 1, none⟩ = some (.int .i64 (l j).ch) := by rw [HB1.out.cell hbs]; exact hcell j hjm 1 (by omega)
          have k2 : wr.cell? ⟨b, off + j * 3 + 2, none⟩ = some (.slice (sp j) (l j).n (sc j)) := by rw [HB1.out.cell hbs]; exact hcell j hjm 2 (by omega)
          have HS := Lib.hid (hc.2 j hjm)
          clear hcell
          go_wp2_with fail
          clear k0 k1 k2
          refine wp_gen (fun w2 => Blk w2 g n (fun t => if t = k then crvN l base k j else if t < k then crvN l base t m else 0) ∧ Below w.heap.size w w2 ∧ w2.cell? ⟨wr.heap.size, 0, none⟩ = some (.int .i64 (l j).ca) ∧ w2.cell? ⟨wr.heap.size, 1, none⟩ = some (.int .i64 (l j).ch) ∧ w2.cell? ⟨wr.heap.size, 2, none⟩ = some (.slice (sp j) (l j).n (sc j)))
            ⟨HK1.out.later (newb _ _), HB1.out.alloc (by omega) _, by simp, by simp, by simp⟩ ?_
          rintro w2 ⟨hK2, hB2, a0, a1, a2⟩
          have HK2 := Lib.hid hK2
          have HB2 := Lib.hid hB2
          have q0 := later_cell a0
          have q1 := later_cell a1
          have q2 := later_cell a2
          have q3 : ∀ x : Later w2, x.w.cell? ⟨g, k, none⟩ = some (.int .i64 (crvN l base k j)) := later_cell (by rw [hK2.cell hlt]; simp)
          clear hK2 hB2 a0 a1 a2
          have bd := crvN_bd (l := l) (base := base) (t := k) (j := j) (m := m) hb1 hb2 HL.out hm (by omega)
          have bd2 := val_bd (t := (k : Int)) (HL.out j hjm)
          have e1 : IntKind.i64.wrap (crvN l base k j + (l j).val k) = crvN l base k j + (l j).val k := IntWalk.i64_in _ (by omega)
          refine wp_region_later_tail 9 (by kernel_rfl) (by kernel_rfl) ?_
          simp only [List.take_succ_cons, List.take_zero, List.drop_succ_cons, List.drop_zero]
          repeat (go_big_quiet_step ((go_at_call 49; exact Calls.later_of (value_any (l j) _ _ _ _ (HL.out j hjm) (by omega) (by omega) ((HS.out.2.mono HB2.out).mono (Later.below _))))))
          refine wpQuiet_nil ?_
          rintro w3 ⟨x, hx⟩
          have hb3 : Below w2.heap.size w2 w3 := hx ▸ x.below
          clear hx x
          have HK3 := Lib.hid (HK2.out.later hb3)
          have HB3 := Lib.hid (HB2.out.trans (hb3.mono HB2.out.size))
          clear q0 q1 q2 q3 e1 hb3
          have c3 := HK3.out.cell hlt
          have f3 := HK3.out.free k
          go_wp2_with fail
          go_roundw
          case rel => exact ⟨j + 1, by omega, by go_num, (HK3.out.set hlt _).congr (fun i hi => by by_cases e : i = k <;> simp [e, crvN_succ]), HB3.out.setCell (by simpa using hwg) _⟩
          case measure => simp [intOf]; omega
        · have hle : m ≤ j := by omega
          have HJ := Lib.hid (show j = m by omega)
          go_wp2_with fail
          go_roundw
          case rel => exact ⟨k + 1, by omega, by go_num, HK1.out.congr (fun i hi => by
            by_cases e : i = k
            · subst e; simp [HJ.out]
            · by_cases e2 : i < k
              · rw [if_neg e, if_pos e2, if_pos (by omega)]
              · rw [if_neg e, if_neg e2, if_neg (by omega)]), HB1.out⟩
          case measure => simp [intOf]; omega
    · have hle : n ≤ k := by omega
      go_wp2_with fail
      go_ret2
      exact ⟨some ⟨g, 0, none⟩, n, rfl, (HK.out.congr (fun i hi => by rw [if_pos (by omega)])).ints, HB.out⟩

set_option maxRecDepth 100000 in
set_option maxHeartbeats 2000000 in
theorem curve_err (n base : Int) (l : Nat → Cmd) (sp : Nat → Option Addr) (sc : Nat → Nat) (p : Option Addr) (m cap : Nat) (w : World) (hc : Cmds w p m l sp sc) (hm : m ≤ 9223372036854775807)
    (h : curvedB n base l m = false) :
    Calls Tryd.prog 21 #[.int .i64 n, .int .i64 base, .slice p m cap] w (SliceErr 0 (fun _ => 0) 2 w) := by
  have hm' : (m : Int) ≤ 9223372036854775807 := by omega
  rcases Bool.eq_false_or_eq_true (inB n 0 4000) with h1 | h1
  rcases Bool.eq_false_or_eq_true (inB base (-100000) 100000) with h2 | h2
  by_cases h3 : m ≤ 200
  · have h4 : allTo (fun i => (l i).valid) m = false := by simpa [curvedB, h1, h2, h3] using h
    clear h
    have h3' : (m : Int) ≤ 200 := by omega
    go_enter Tryd.func21, Tryd.ntmps21
    go_wp2_with (go_at_call 48; refine (within_any _ _ _ _).mono ?_; rintro e w' ⟨rfl, rfl⟩)
    refine (contains_cmd l sp sc p m cap w hm hc).mono ?_
    rintro e w1 ⟨rfl, hb⟩
    rw [h4]
    clear h4
    go_wp2_with fail
    go_ret2
    exact ⟨none, 0, rfl, .inl rfl, hb⟩
  all_goals
    clear h
    have h3' : 200 < m ∨ 0 ≤ m := by omega
    go_enter Tryd.func21, Tryd.ntmps21
    go_wp2_with (go_at_call 48; refine (within_any _ _ _ _).mono ?_; rintro e w' ⟨rfl, rfl⟩)
    go_ret2
    exact ⟨none, 0, rfl, .inl rfl, Below.refl _ _⟩

set_option maxRecDepth 100000 in
set_option maxHeartbeats 2000000 in
theorem knots_any (l : Nat → Cmd) (sp : Nat → Option Addr) (sc : Nat → Nat) (p : Option Addr) (m cap : Nat) (w : World) (hc : Cmds w p m l sp sc) (hm : m ≤ 9223372036854775807) :
    Calls Tryd.prog 20 #[.slice p m cap] w fun e w' => e = .returned (.bool (allTo (fun i => decide ((l i).n ≤ 40)) m)) ∧ Below w.heap.size w w' := by
  have hm' : (m : Int) ≤ 9223372036854775807 := by omega
  go_enter Tryd.func20, Tryd.ntmps20
  go_wp2_with fail
  go_loopw [3] (fun i wr => ∃ k : Nat, k ≤ m ∧ i = .int .i64 k ∧ allTo (fun i => decide ((l i).n ≤ 40)) k = true ∧ Below w.heap.size w wr) (fun i _ => m - (intOf i).toNat)
  case atStart => exact ⟨0, Nat.zero_le _, rfl, rfl, Below.refl _ _⟩
  case round =>
    obtain ⟨k, hk, rfl, hall, hb⟩ := hrel
    have HA := Lib.hid hall
    have HB := Lib.hid hb
    clear hall hb
    by_cases hlt : k < m
    · obtain ⟨b, off, rfl, hbs, hcell⟩ := hc.1.at (by omega)
      have k2 : wr.cell? ⟨b, off + k * 3 + 2, none⟩ = some (.slice (sp k) (l k).n (sc k)) := by rw [HB.out.cell hbs]; exact hcell k hlt 2 (by omega)
      have hS := (hc.2 k hlt).1
      clear hcell
      by_cases g : (l k).n ≤ 40
      · have HG := Lib.hid (show (fun i => decide ((l i).n ≤ 40)) k = true by simpa using g)
        go_wp2_with fail
        go_roundw
        case rel => exact ⟨k + 1, by omega, by go_num, allTo_succ HA.out HG.out, HB.out⟩
        case measure => simp [intOf]; omega
      · have HG := Lib.hid (show (fun i => decide ((l i).n ≤ 40)) k = false by simpa using g)
        go_wp2_with fail
        go_ret
        exact ⟨ret_bool (by rw [allTo_false hlt HG.out]), HB.out⟩
    · have hle : m ≤ k := by omega
      have HJ := Lib.hid (show k = m by omega)
      go_wp2_with fail
      go_ret
      exact ⟨ret_bool (by rw [← HJ.out, HA.out]), HB.out⟩

set_option maxRecDepth 100000 in
set_option maxHeartbeats 2000000 in
theorem curved_any (n base : Int) (l : Nat → Cmd) (sp : Nat → Option Addr) (sc : Nat → Nat) (p : Option Addr) (m cap : Nat) (w : World) (hc : Cmds w p m l sp sc) (hm : m ≤ 9223372036854775807) :
    Calls Tryd.prog 22 #[.int .i64 n, .int .i64 base, .slice p m cap] w fun e w' => e = .returned (.bool (curvedB n base l m)) ∧ Below w.heap.size w w' := by
  have hm' : (m : Int) ≤ 9223372036854775807 := by omega
  rcases Bool.eq_false_or_eq_true (inB n 0 4000) with h1 | h1
  rcases Bool.eq_false_or_eq_true (inB base (-100000) 100000) with h2 | h2
  by_cases h3 : m ≤ 200
  · have HE := Lib.hid (show curvedB n base l m = allTo (fun i => (l i).valid) m by simp [curvedB, h1, h2, h3])
    go_enter Tryd.func22, Tryd.ntmps22
    go_wp2_with (go_at_call 50; refine (in_any _ _ _ _).mono ?_; rintro e w' ⟨rfl, rfl⟩)
    go_loopw [7] (fun i wr => ∃ k : Nat, k ≤ m ∧ i = .int .i64 k ∧ allTo (fun i => (l i).valid) k = true ∧ Below w.heap.size w wr) (fun i _ => m - (intOf i).toNat)
    case atStart => exact ⟨0, Nat.zero_le _, rfl, rfl, Below.refl _ _⟩
    case round =>
      obtain ⟨k, hk, rfl, hall, hb⟩ := hrel
      have HA := Lib.hid hall
      have HB := Lib.hid hb
      clear hall hb
      by_cases hlt : k < m
      · obtain ⟨b, off, rfl, hbs, hcell⟩ := hc.1.at (by omega)
        have k0 : wr.cell? ⟨b, off + k * 3, none⟩ = some (.int .i64 (l k).ca) := by rw [HB.out.cell hbs]; exact hcell k hlt 0 (by omega)
        have k1 : wr.cell? ⟨b, off + k * 3 + 1, none⟩ = some (.int .i64 (l k).ch) := by rw [HB.out.cell hbs]; exact hcell k hlt 1 (by omega)
        have k2 : wr.cell? ⟨b, off + k * 3 + 2, none⟩ = some (.slice (sp k) (l k).n (sc k)) := by rw [HB.out.cell hbs]; exact hcell k hlt 2 (by omega)
        have HS := Lib.hid (hc.2 k hlt)
        clear hcell
        go_wp2_with fail
        refine (command_any (l k) (sp k) (sc k) _ HS.out.1 (HS.out.2.mono HB.out)).mono ?_
        rintro e w1 ⟨rfl, hb1⟩
        have HB1 := Lib.hid (HB.out.trans (hb1.mono HB.out.size))
        clear hb1 k0 k1 k2
        rcases Bool.eq_false_or_eq_true (l k).valid with g | g
        · rw [g]
          have HG := Lib.hid g
          clear g
          go_wp2_with fail
          go_roundw
          case rel => exact ⟨k + 1, by omega, by go_num, allTo_succ HA.out HG.out, HB1.out⟩
          case measure => simp [intOf]; omega
        · rw [g]
          have HG := Lib.hid g
          clear g
          go_wp2_with fail
          go_ret
          exact ⟨ret_bool (by rw [HE.out, allTo_false hlt HG.out]), HB1.out⟩
      · have hle : m ≤ k := by omega
        have HJ := Lib.hid (show k = m by omega)
        go_wp2_with fail
        go_ret
        exact ⟨ret_bool (by rw [HE.out, ← HJ.out, HA.out]), HB.out⟩
  · have HE := Lib.hid (show curvedB n base l m = false by simp [curvedB, h3])
    have h3' : 200 < m := by omega
    go_enter Tryd.func22, Tryd.ntmps22
    go_wp2_with (go_at_call 50; refine (in_any _ _ _ _).mono ?_; rintro e w' ⟨rfl, rfl⟩)
    go_ret
    exact ⟨ret_bool HE.out.symm, Below.refl _ _⟩
  · have HE := Lib.hid (show curvedB n base l m = false by simp [curvedB, h2])
    go_enter Tryd.func22, Tryd.ntmps22
    go_wp2_with (go_at_call 50; refine (in_any _ _ _ _).mono ?_; rintro e w' ⟨rfl, rfl⟩)
    go_ret
    exact ⟨ret_bool HE.out.symm, Below.refl _ _⟩
  · have HE := Lib.hid (show curvedB n base l m = false by simp [curvedB, h1])
    go_enter Tryd.func22, Tryd.ntmps22
    go_wp2_with (go_at_call 50; refine (in_any _ _ _ _).mono ?_; rintro e w' ⟨rfl, rfl⟩)
    go_ret
    exact ⟨ret_bool HE.out.symm, Below.refl _ _⟩
end Go.Proofs.YtijonghofghocaaDoor
