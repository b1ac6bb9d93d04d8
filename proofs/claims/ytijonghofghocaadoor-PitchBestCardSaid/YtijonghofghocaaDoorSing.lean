/-
  The walk of pitch.Sing: the cents of all frames, or the error. Condition: the slice reads as its notes.
-/
import Derived.Test.YtijonghofghocaaDoorRefSing
import Derived.BigRegion
namespace Go.Proofs.YtijonghofghocaaDoor
open Go.RowKit

/-- A slice told by a list, and an error's number. -/
def ListErr (xs : List Int) (err : Int) (w : World) (e : Ending) (w' : World) : Prop :=
  ∃ p cap, e = .returned (.tuple #[.slice p xs.length cap, .int .i64 err]) ∧ Ints w' p xs.length (fun i => xs.getD i 0) ∧ Below w.heap.size w w'

set_option maxRecDepth 100000 in
set_option maxHeartbeats 4000000 in
theorem Sing_err (l : Nat → Note) (p : Option Addr) (m cap : Nat) (w : World) (hc : Row w p m 6 (noteCell l)) (hm : m ≤ 1000000000) (hv : notesB l m = false) :
    Calls Tryd.prog 37 #[.slice p m cap] w (ListErr [] 2 w) := by
  have hm' : (m : Int) ≤ 1000000000 := by omega
  go_enter Tryd.func37, Tryd.ntmps37
  go_wp2_with fail
  go_loopw [4, 17] (fun n i wr => ∃ k : Nat, k ≤ m ∧ i = .int .i64 k ∧ n = .int .i64 (total l k) ∧ allTo (fun i => noteOk (l i)) k = true ∧ Below w.heap.size w wr) (fun _ i _ => m - (intOf i).toNat)
  case atStart => exact ⟨0, Nat.zero_le _, rfl, rfl, rfl, Below.refl _ _⟩
  case round =>
    obtain ⟨k, hk, rfl, rfl, hall, hb⟩ := hrel
    have HA := Lib.hid hall
    have HB := Lib.hid hb
    have htot := total_bd hall
    clear hall hb
    by_cases hlt : k < m
    · obtain ⟨b, off, rfl, hbs, hcell⟩ := hc.at (by omega)
      obtain ⟨k0, k1, k2, k3, k4, k5⟩ := note_at HB.out hbs hcell hlt
      clear hcell hv
      rcases note_cases (l k) with ⟨a0, a1, a2, a3, a4, a5, hok⟩ | ⟨hno, hcase⟩
      · have HO := Lib.hid hok
        obtain ⟨_, n2, _⟩ := noteOk_iff hok
        clear hok
        go_wp2_with (go_at_call 48; refine (within_any _ _ _ _).mono ?_; rintro e w' ⟨rfl, rfl⟩)
        go_roundw
        case rel => exact ⟨k + 1, by omega, by go_num, by rw [total_succ], allTo_succ HA.out HO.out, HB.out.trans ((newb _ _).mono HB.out.size)⟩
        case measure => simp [intOf]; omega
      · clear hno
        rcases hcase with a0 | ⟨a0, a1⟩ | ⟨a0, a1, a2⟩ | ⟨a0, a1, a2, a3⟩ | ⟨a0, a1, a2, a3, a4⟩ | ⟨a0, a1, a2, a3, a4, a5⟩
        all_goals
          go_wp2_with (go_at_call 48; refine (within_any _ _ _ _).mono ?_; rintro e w' ⟨rfl, rfl⟩)
          go_ret2
          exact ⟨none, 0, rfl, .inl rfl, HB.out.trans ((newb _ _).mono HB.out.size)⟩
    · have hle : m ≤ k := by omega
      have HJ := Lib.hid (show k = m by omega)
      have hover : 100 < m ∨ 4000 < total l k := by
        by_cases h1 : m ≤ 100
        · have h2 := notes_eq h1 (by rw [← HJ.out]; exact HA.out)
          rw [hv] at h2
          have := of_decide_eq_false h2.symm
          rw [HJ.out]; omega
        · omega
      clear hv
      rcases hover with h1 | h1
      · have h1' : (100 : Int) < m := by omega
        go_wp2_with fail
        go_ret2
        exact ⟨none, 0, rfl, .inl rfl, HB.out⟩
      · by_cases h2 : m ≤ 100
        all_goals
          go_wp2_with fail
          go_ret2
          exact ⟨none, 0, rfl, .inl rfl, HB.out⟩

/-- Block B holds the parts of note k: its key, its vibrato, and, if np is 3, its glide. -/
def PartsBlk (w : World) (B np : Nat) (l : Nat → Note) (k : Nat) : Prop := ∃ cs : Array Value, w.heap[B]? = some (.cells cs 94 (0, 0)) ∧
  cs[0]? = some (.iface 88 (.agg #[.int .i64 (l k).key, .int .i64 (l k).len, .int .i64 (l k).glide, .int .i64 (l k).delay, .int .i64 (l k).depth, .int .i64 (l k).period])) ∧
  cs[1]? = some (.iface 89 (.agg #[.int .i64 (l k).key, .int .i64 (l k).len, .int .i64 (l k).glide, .int .i64 (l k).delay, .int .i64 (l k).depth, .int .i64 (l k).period])) ∧
  (np = 3 → cs[2]? = some (.iface 92 (.agg #[.int .i64 (l k).key, .int .i64 (l k).len, .int .i64 (l k).glide, .int .i64 (l k).delay, .int .i64 (l k).depth, .int .i64 (l k).period, .int .i64 (l (k - 1)).key])))
theorem PartsBlk.later {w w' : World} {B np k : Nat} {l : Nat → Note} (h : PartsBlk w B np l k) (hb : Below w.heap.size w w') : PartsBlk w' B np l k := by
  obtain ⟨cs, h1, h2⟩ := h
  exact ⟨cs, block_later h1 hb, h2⟩
theorem PartsBlk.grown {w w' : World} {B np k base : Nat} {l : Nat → Note} {v : Value} {xs : List Int} (h : PartsBlk w B np l k) (hown : GrowL w base v xs) (hg : w.grownBy w' v.ownBlock) : PartsBlk w' B np l k := by
  obtain ⟨cs, h1, h2⟩ := h
  exact ⟨cs, block_grown h1 (by decide) hown hg, h2⟩
theorem PartsBlk.c0 {w : World} {B np k : Nat} {l : Nat → Note} (h : PartsBlk w B np l k) : w.cell? ⟨B, 0, none⟩ = some (.iface 88 (.agg #[.int .i64 (l k).key, .int .i64 (l k).len, .int .i64 (l k).glide, .int .i64 (l k).delay, .int .i64 (l k).depth, .int .i64 (l k).period])) := by
  obtain ⟨cs, h1, h2, _⟩ := h
  simp [World.cell?, h1, h2]
theorem PartsBlk.c1 {w : World} {B np k : Nat} {l : Nat → Note} (h : PartsBlk w B np l k) : w.cell? ⟨B, 1, none⟩ = some (.iface 89 (.agg #[.int .i64 (l k).key, .int .i64 (l k).len, .int .i64 (l k).glide, .int .i64 (l k).delay, .int .i64 (l k).depth, .int .i64 (l k).period])) := by
  obtain ⟨cs, h1, _, h2, _⟩ := h
  simp [World.cell?, h1, h2]
theorem PartsBlk.c2 {w : World} {B k : Nat} {l : Nat → Note} (h : PartsBlk w B 3 l k) : w.cell? ⟨B, 2, none⟩ = some (.iface 92 (.agg #[.int .i64 (l k).key, .int .i64 (l k).len, .int .i64 (l k).glide, .int .i64 (l k).delay, .int .i64 (l k).depth, .int .i64 (l k).period, .int .i64 (l (k - 1)).key])) := by
  obtain ⟨cs, h1, _, _, h2⟩ := h
  simp [World.cell?, h1, h2 rfl]
/-- The first q parts of frame i, added. -/
def psum (l : Nat → Note) (k : Nat) (i : Int) (q : Nat) : Int :=
  if q = 0 then 0 else if q = 1 then 100 * (l k).key else if q = 2 then 100 * (l k).key + vib (l k) i else 100 * (l k).key + vib (l k) i + gld (l (k - 1)).key (l k) i

theorem app3 (a b c : Value) (z : Array Value) : (#[a, b, c] ++ z)[0]? = some a ∧ (#[a, b, c] ++ z)[1]? = some b ∧ (#[a, b, c] ++ z)[2]? = some c := by
  refine ⟨?_, ?_, ?_⟩
  all_goals
    rw [Array.getElem?_append_left (by simp)]
    rfl
theorem meth88 (x : Note) (w : World) : (method 234 88 (.agg #[.int .i64 x.key, .int .i64 x.len, .int .i64 x.glide, .int .i64 x.delay, .int .i64 x.depth, .int .i64 x.period]) "declaim/pitch.cents").run Tryd.prog w =
    .ok (99, .agg #[.int .i64 x.key, .int .i64 x.len, .int .i64 x.glide, .int .i64 x.delay, .int .i64 x.depth, .int .i64 x.period]) w := by kernel_rfl
theorem meth89 (x : Note) (w : World) : (method 234 89 (.agg #[.int .i64 x.key, .int .i64 x.len, .int .i64 x.glide, .int .i64 x.delay, .int .i64 x.depth, .int .i64 x.period]) "declaim/pitch.cents").run Tryd.prog w =
    .ok (100, .agg #[.int .i64 x.key, .int .i64 x.len, .int .i64 x.glide, .int .i64 x.delay, .int .i64 x.depth, .int .i64 x.period]) w := by kernel_rfl
theorem meth92 (x : Note) (y : Int) (w : World) : (method 234 92 (.agg #[.int .i64 x.key, .int .i64 x.len, .int .i64 x.glide, .int .i64 x.delay, .int .i64 x.depth, .int .i64 x.period, .int .i64 y]) "declaim/pitch.cents").run Tryd.prog w =
    .ok (101, .agg #[.int .i64 x.key, .int .i64 x.len, .int .i64 x.glide, .int .i64 x.delay, .int .i64 x.depth, .int .i64 x.period, .int .i64 y]) w := by kernel_rfl
theorem psum0 (l : Nat → Note) (k : Nat) (i : Int) : psum l k i 0 + 100 * (l k).key = psum l k i 1 := by simp [psum]
theorem psum1 (l : Nat → Note) (k : Nat) (i : Int) : psum l k i 1 + vib (l k) i = psum l k i 2 := by simp [psum]
theorem psum2 (l : Nat → Note) (k : Nat) (i : Int) : psum l k i 2 + gld (l (k - 1)).key (l k) i = psum l k i 3 := by simp [psum]
theorem psum_bd {l : Nat → Note} {k : Nat} {i : Int} (hx : noteOk (l k) = true) (q : Nat) (hq : q ≤ 2) : -100000 ≤ psum l k i q ∧ psum l k i q ≤ 100000 := by
  have h1 := noteOk_iff hx
  have h2 := vib_bd hx i
  unfold psum
  split
  · omega
  · split
    · omega
    · rw [if_pos (by omega)]; omega
theorem gld_all {x y : Note} {i : Int} (hx : noteOk x = true) (hy : noteOk y = true) (h0 : 0 ≤ i) : -11900 ≤ gld y.key x i ∧ gld y.key x i ≤ 11900 := by
  have h1 := noteOk_iff hx
  have h2 := noteOk_iff hy
  have h3 := gld_bd (k := y.key) hx h0
  rcases Int.le_total x.key y.key with h | h
  · have := h3.1 h; omega
  · have := h3.2 h; omega

theorem cap94 : ¬ 281474976710656 < Builtin.nextslicecap 3 2 * Tryd.t94.bytes := of_decide_eq_false (by kernel_rfl)

set_option maxRecDepth 100000 in
set_option maxHeartbeats 4000000 in
theorem Sing_ok (l : Nat → Note) (p : Option Addr) (m cap : Nat) (w : World) (hc : Row w p m 6 (noteCell l)) (hv : notesB l m = true) :
    Calls Tryd.prog 37 #[.slice p m cap] w (ListErr (song l m) 0 w) := by
  obtain ⟨h1, h2, h3⟩ := notes_iff hv
  have h1' : (m : Int) ≤ 100 := by omega
  have HT := Lib.hid (total_mono h2)
  have HN := Lib.hid (allTo_iff.1 h2)
  have HL := Lib.hid (fun k hk => song_le (k := k) hv hk)
  have HAll := Lib.hid h2
  clear h2 hv
  go_enter Tryd.func37, Tryd.ntmps37
  go_wp2_with fail
  go_loopw [4, 17] (fun n i wr => ∃ k : Nat, k ≤ m ∧ i = .int .i64 k ∧ n = .int .i64 (total l k) ∧ Below w.heap.size w wr) (fun _ i _ => m - (intOf i).toNat)
  case atStart => exact ⟨0, Nat.zero_le _, rfl, rfl, Below.refl _ _⟩
  case round =>
    obtain ⟨k, hk, rfl, rfl, hb⟩ := hrel
    have HB := Lib.hid hb
    have htot := HT.out k hk
    have htot0 : 0 ≤ total l k := by have := (total_bd (l := l) (m := k) (allTo_iff.2 fun i hi => HN.out i (by omega))).1; omega
    clear hb
    by_cases hlt : k < m
    · obtain ⟨b, off, rfl, hbs, hcell⟩ := hc.at (by omega)
      obtain ⟨k0, k1, k2, k3, k4, k5⟩ := note_at HB.out hbs hcell hlt
      clear hcell
      have hok := HN.out k hlt
      rcases note_cases (l k) with ⟨a0, a1, a2, a3, a4, a5, _⟩ | ⟨hno, hcase⟩
      · obtain ⟨_, n2, _⟩ := noteOk_iff hok
        clear hok
        go_wp2_with (go_at_call 48; refine (within_any _ _ _ _).mono ?_; rintro e w' ⟨rfl, rfl⟩)
        go_roundw
        case rel => exact ⟨k + 1, by omega, by go_num, by rw [total_succ], HB.out.trans ((newb _ _).mono HB.out.size)⟩
        case measure => simp [intOf]; omega
      · rw [hok] at hno; cases hno
    · have hle : m ≤ k := by omega
      go_wp2_with fail
      clear htot htot0 hle hlt
      have HB1 := HB
      obtain ⟨wa, rfl⟩ : ∃ wa : World, wa = wr := ⟨_, rfl⟩
      go_loopw [7, 73] (fun v i wr => ∃ k : Nat, k ≤ m ∧ i = .int .i64 k ∧ GrowL wr w.heap.size v (song l k) ∧ Below w.heap.size w wr) (fun _ i _ => m - (intOf i).toNat)
      case atStart => exact ⟨0, Nat.zero_le _, rfl, GrowL.none _ _, HB1.out⟩
      case round =>
        obtain ⟨k, hk, rfl, hown, hb⟩ := hrel
        have HK := Lib.hid hown
        have HB := Lib.hid hb
        clear hown hb
        by_cases hlt : k < m
        · obtain ⟨b, off, rfl, hbs, hcell⟩ := hc.at (by omega)
          obtain ⟨k0, k1, k2, k3, k4, k5⟩ := note_at HB.out hbs hcell hlt
          have hbr : b < wr.heap.size := Nat.lt_of_lt_of_le hbs HB.out.size
          have hpre : 0 < k → w.cell? ⟨b, off + (k - 1) * 6, none⟩ = some (.int .i64 (l (k - 1)).key) := fun _ => hcell (k - 1) (by omega) 0 (by omega)
          have HP := Lib.hid hpre
          clear hcell hpre
          have hok := HN.out k hlt
          have HO := Lib.hid hok
          obtain ⟨n1, n2, n3, n4, n5, n6⟩ := noteOk_iff hok
          clear hok
          by_cases hk0 : 0 < k
          · go_wp2_with fail
            clear k0 k1 k2 k3 k4 k5
            refine wp_gen (fun w2 => w2.heap.size = wr.heap.size + 2 ∧ GrowL w2 w.heap.size u7 (song l k) ∧ Below w.heap.size w w2 ∧ NoteBlk w2 wr.heap.size (l k) ∧
                w2.heap[wr.heap.size + 1]? = some (.cells #[.iface 88 (.agg #[.int .i64 (l k).key, .int .i64 (l k).len, .int .i64 (l k).glide, .int .i64 (l k).delay, .int .i64 (l k).depth, .int .i64 (l k).period]), .iface 89 (.agg #[.int .i64 (l k).key, .int .i64 (l k).len, .int .i64 (l k).glide, .int .i64 (l k).delay, .int .i64 (l k).depth, .int .i64 (l k).period])] 94 (0, 0)))
              ⟨by simp, (HK.out.later (newb _ _)).later (newb _ _), (HB.out.alloc HB.out.size _).alloc (by have := HB.out.size; simp; omega) _, (Below.heap_alloc _ _ _ (by simp)).trans (heap_alloc_new _ _), by have := heap_alloc_new (wr.alloc (.cells #[.int .i64 (l k).key, .int .i64 (l k).len, .int .i64 (l k).glide, .int .i64 (l k).delay, .int .i64 (l k).depth, .int .i64 (l k).period] 61)) (.cells #[.iface 88 (.agg #[.int .i64 (l k).key, .int .i64 (l k).len, .int .i64 (l k).glide, .int .i64 (l k).delay, .int .i64 (l k).depth, .int .i64 (l k).period]), .iface 89 (.agg #[.int .i64 (l k).key, .int .i64 (l k).len, .int .i64 (l k).glide, .int .i64 (l k).delay, .int .i64 (l k).depth, .int .i64 (l k).period])] 94); rwa [World.size_alloc] at this⟩ ?_
            obtain ⟨N, hN⟩ : ∃ N, N = wr.heap.size := ⟨_, rfl⟩
            rw [← hN]
            rintro w2 ⟨hs2, hG, hB2, hNB, hPB⟩
            have HG2 := Lib.hid hG
            have HB2 := Lib.hid hB2
            have HNB := Lib.hid hNB
            have HPB := Lib.hid hPB
            obtain ⟨c0, c1, c2, c3, c4, c5⟩ := hNB.cells
            have d0 : w2.cell? ⟨N + 1, 0, none⟩ = some (.iface 88 (.agg #[.int .i64 (l k).key, .int .i64 (l k).len, .int .i64 (l k).glide, .int .i64 (l k).delay, .int .i64 (l k).depth, .int .i64 (l k).period])) := by simp [World.cell?, hPB]
            have d1 : w2.cell? ⟨N + 1, 1, none⟩ = some (.iface 89 (.agg #[.int .i64 (l k).key, .int .i64 (l k).len, .int .i64 (l k).glide, .int .i64 (l k).delay, .int .i64 (l k).depth, .int .i64 (l k).period])) := by simp [World.cell?, hPB]
            have hb4 : w2.cell? ⟨b, off + (k - 1) * 6, none⟩ = some (.int .i64 (l (k - 1)).key) := by rw [hB2.cell hbs]; exact HP.out hk0
            have hs3 : N < w2.heap.size := by omega
            have hs4 : N + 1 < w2.heap.size := by omega
            have hs5 : b < w2.heap.size := by omega
            have e3 : (k : Int) - 1 < m := by omega
            have e0 : IntKind.i64.wrap (↑k - 1) = ↑k - 1 := IntWalk.i64_in _ (by omega)
            have e1 : (0 : Int) ≤ ↑k - 1 := by omega
            have e2 : ((k : Int) - 1).toNat = k - 1 := by omega
            have HS2 := Lib.hid hs2
            clear hG hB2 hNB hPB hN hs2 hbr
            have hcap := cap94
            go_region
            clear hcap e0 e2
            go_wp2_with fail
            have hGB : Below w2.heap.size w2 _ := (((newb w2 (.cells #[.iface 92 (.agg #[.int .i64 (l k).key, .int .i64 (l k).len, .int .i64 (l k).glide, .int .i64 (l k).delay, .int .i64 (l k).depth, .int .i64 (l k).period, .int .i64 (l (k - 1)).key])] 94)).alloc (by simp) (.cells (#[.iface 88 (.agg #[.int .i64 (l k).key, .int .i64 (l k).len, .int .i64 (l k).glide, .int .i64 (l k).delay, .int .i64 (l k).depth, .int .i64 (l k).period]), .iface 89 (.agg #[.int .i64 (l k).key, .int .i64 (l k).len, .int .i64 (l k).glide, .int .i64 (l k).delay, .int .i64 (l k).depth, .int .i64 (l k).period]), .iface 92 (.agg #[.int .i64 (l k).key, .int .i64 (l k).len, .int .i64 (l k).glide, .int .i64 (l k).delay, .int .i64 (l k).depth, .int .i64 (l k).period, .int .i64 (l (k - 1)).key])] ++ Builtin.zeroCells #[.nilIface] ((Question.appendCap 3 2 94).cut (w2.tape (w2.drawn + 1) (Question.appendCap 3 2 94)) - 3)) 94)).drew).drew
            refine wp_gen (fun w3 => GrowL w3 w.heap.size u7 (song l k) ∧ Below w.heap.size w w3 ∧ PartsBlk w3 (w2.heap.size + 1) 3 l k)
              ⟨HG2.out.later hGB, HB2.out.trans (hGB.mono HB2.out.size), ⟨_, by rw [show ∀ X : World, X.drew.drew.heap = X.heap from fun _ => rfl]; have := heap_alloc_new (w2.alloc (.cells #[.iface 92 (.agg #[.int .i64 (l k).key, .int .i64 (l k).len, .int .i64 (l k).glide, .int .i64 (l k).delay, .int .i64 (l k).depth, .int .i64 (l k).period, .int .i64 (l (k - 1)).key])] 94)); rw [World.size_alloc] at this; exact this _, (app3 _ _ _ _).1, (app3 _ _ _ _).2.1, fun _ => (app3 _ _ _ _).2.2⟩⟩ ?_
            clear hGB
            obtain ⟨PB, hPB⟩ : ∃ PB, PB = w2.heap.size + 1 := ⟨_, rfl⟩
            rw [← hPB]
            rintro w3 ⟨hG3, hB3, hP3⟩
            have HG3 := Lib.hid hG3
            have HB3 := Lib.hid hB3
            have HP3 := Lib.hid hP3
            clear hG3 hB3 hP3 hPB HG2 HB2 HNB HPB HS2 c0 c1 c2 c3 c4 c5 d0 d1 hb4 hs3 hs4 hs5
            go_loopw [7, 101] (fun v i wi => ∃ j : Nat, (j : Int) ≤ (l k).len ∧ i = .int .i64 j ∧ GrowL wi w.heap.size v (song l k ++ frames l k j) ∧ PartsBlk wi PB 3 l k ∧ Below w.heap.size w wi) (fun _ i _ => (l k).len.toNat - (intOf i).toNat)
            case atStart => exact ⟨0, by omega, rfl, by simpa [frames] using HG3.out, HP3.out, HB3.out⟩
            case round =>
              obtain ⟨j, hj, rfl, hown, hPb, hb⟩ := hrel
              have HK := Lib.hid hown
              have HB := Lib.hid hb
              have HPb := Lib.hid hPb
              clear hown hb hPb
              by_cases hji : (j : Int) < (l k).len
              · have hvb := vib_bd HO.out (j : Int)
                have hln : (song l k ++ frames l k j).length ≤ 5000 := by have := HL.out k (by omega); simp [frames]; omega
                have HLN := Lib.hid hln
                clear hln
                go_wp2_with fail
                obtain ⟨wo, rfl⟩ : ∃ wo : World, wo = wr := ⟨_, rfl⟩
                go_loopw [12, 106] (fun c i wi => ∃ q : Nat, q ≤ 3 ∧ i = .int .i64 q ∧ c = .int .i64 (psum l k j q) ∧ Below wo.heap.size wo wi) (fun _ i _ => 3 - (intOf i).toNat)
                case atStart => exact ⟨0, Nat.zero_le _, rfl, rfl, Below.refl _ _⟩
                case round =>
                  obtain ⟨q, hq, rfl, rfl, hb⟩ := hrel
                  have HQ := Lib.hid hb
                  have hp0 := (HPb.out.later hb).c0
                  have hp1 := (HPb.out.later hb).c1
                  have hp2 := (HPb.out.later hb).c2
                  clear hb
                  rcases (show q = 0 ∨ q = 1 ∨ q = 2 ∨ q = 3 by omega) with rfl | rfl | rfl | rfl
                  · have hm := fun w' => meth88 (l k) w'
                    have hps := psum_bd (l := l) (k := k) (i := (j : Int)) HO.out 0 (by omega)
                    go_wp2_with fail
                    refine (key_any (l k) j _ HO.out).mono ?_
                    rintro e w4 ⟨rfl, hb4⟩
                    have HQ4 := Lib.hid (HQ.out.trans (hb4.mono HQ.out.size))
                    clear hb4 hm hp0 hp1 hp2
                    go_wp2_with fail
                    go_roundw
                    case rel => exact ⟨1, by omega, by go_num, by rw [psum0], HQ4.out⟩
                    case measure => simp [intOf]
                  · have hm := fun w' => meth89 (l k) w'
                    have hps := psum_bd (l := l) (k := k) (i := (j : Int)) HO.out 1 (by omega)
                    go_wp2_with fail
                    refine (vibrato_any (l k) j _ HO.out (by omega) (by omega)).mono ?_
                    rintro e w4 ⟨rfl, hb4⟩
                    have HQ4 := Lib.hid (HQ.out.trans (hb4.mono HQ.out.size))
                    clear hb4 hm hp0 hp1 hp2
                    go_wp2_with fail
                    go_roundw
                    case rel => exact ⟨2, by omega, by go_num, by rw [psum1], HQ4.out⟩
                    case measure => simp [intOf]
                  · have hm := fun w' => meth92 (l k) (l (k - 1)).key w'
                    have hps := psum_bd (l := l) (k := k) (i := (j : Int)) HO.out 2 (by omega)
                    have hgb := gld_all (i := (j : Int)) HO.out (HN.out (k - 1) (by omega)) (by omega)
                    go_wp2_with fail
                    refine (glide_any (l k) (l (k - 1)) j _ HO.out (HN.out (k - 1) (by omega)) (by omega) (by omega)).mono ?_
                    rintro e w4 ⟨rfl, hb4⟩
                    have HQ4 := Lib.hid (HQ.out.trans (hb4.mono HQ.out.size))
                    clear hb4 hm hp0 hp1 hp2
                    go_wp2_with fail
                    go_roundw
                    case rel => exact ⟨3, by omega, by go_num, by rw [psum2], HQ4.out⟩
                    case measure => simp [intOf]
                  · have HE := Lib.hid (show psum l k j 3 = frm l k j from by simp [psum, frm, hk0])
                    have HK1 := Lib.hid (HK.out.later HQ.out)
                    have HP1 := Lib.hid (HPb.out.later HQ.out)
                    have HB1 := Lib.hid (HB.out.trans (HQ.out.mono HB.out.size))
                    have hsz : w.heap.size ≤ wr.heap.size := HB1.out.size
                    clear hp0 hp1 hp2
                    go_wp2_with (at_builtin; refine append_list Tryd.underlying34 info3 _ rfl _ _ rfl w.heap.size _ (song l k ++ frames l k j) (psum l k j 3) rfl (HK1.out.later (newb _ _)) ⟨wr.heap.size, 0, none⟩ rfl ?c13 ?c23 ?c33 ?c43)
                    case c13 => simp
                    case c23 => have := HLN.out; rw [List.length_append] at this; first | omega | (rw [List.length_append]; omega)
                    case c33 => first | omega | (simp; omega)
                    case c43 =>
                      intro v' w5 hown5 hgrow
                      have HO5 := Lib.hid hown5
                      have HG5 := Lib.hid (below_grownL (HB1.out.trans ((newb wr _).mono HB1.out.size)) (HK1.out.later (newb _ _)) hgrow (by simp; omega) (Nat.le_refl _))
                      have HP5 := Lib.hid ((HP1.out.later (newb wr _)).grown (HK1.out.later (newb _ _)) hgrow)
                      clear hown5 hgrow
                      go_wp2_with fail
                      go_roundw
                      case rel => exact ⟨j + 1, by omega, by go_num, by rw [frames_succ, ← HE.out]; exact HO5.out, HP5.out, HG5.out⟩
                      case measure => simp [intOf]; omega
              · have HJ := Lib.hid (show j = (l k).len.toNat by omega)
                have hle : (l k).len ≤ j := by omega
                go_wp2_with fail
                go_roundw
                case rel => exact ⟨k + 1, by omega, by go_num, by show GrowL _ _ _ (song l k ++ frames l k (l k).len.toNat); rw [← HJ.out]; exact HK.out, HB.out⟩
                case measure => simp [intOf]; omega
          · have hk1 : (k : Int) ≤ 0 := by omega
            go_wp2_with fail
            clear k0 k1 k2 k3 k4 k5
            have hs1 := HB.out.size
            refine wp_gen (fun w3 => GrowL w3 w.heap.size u7 (song l k) ∧ Below w.heap.size w w3 ∧ PartsBlk w3 (wr.heap.size + 1) 2 l k)
              ⟨(HK.out.later (newb _ _)).later (newb _ _), (HB.out.alloc HB.out.size _).alloc (by simp; omega) _, ⟨_, by have := heap_alloc_new (wr.alloc (.cells #[.int .i64 (l k).key, .int .i64 (l k).len, .int .i64 (l k).glide, .int .i64 (l k).delay, .int .i64 (l k).depth, .int .i64 (l k).period] 61)); rw [World.size_alloc] at this; exact this _, rfl, rfl, fun h => (by cases h)⟩⟩ ?_
            obtain ⟨PB, hPB⟩ : ∃ PB, PB = wr.heap.size + 1 := ⟨_, rfl⟩
            rw [← hPB]
            rintro w3 ⟨hG3, hB3, hP3⟩
            have HG3 := Lib.hid hG3
            have HB3 := Lib.hid hB3
            have HP3 := Lib.hid hP3
            clear hG3 hB3 hP3 hPB HK HB hbr
            go_loopw [7, 101] (fun v i wi => ∃ j : Nat, (j : Int) ≤ (l k).len ∧ i = .int .i64 j ∧ GrowL wi w.heap.size v (song l k ++ frames l k j) ∧ PartsBlk wi PB 2 l k ∧ Below w.heap.size w wi) (fun _ i _ => (l k).len.toNat - (intOf i).toNat)
            case atStart => exact ⟨0, by omega, rfl, by simpa [frames] using HG3.out, HP3.out, HB3.out⟩
            case round =>
              obtain ⟨j, hj, rfl, hown, hPb, hb⟩ := hrel
              have HK := Lib.hid hown
              have HB := Lib.hid hb
              have HPb := Lib.hid hPb
              clear hown hb hPb
              by_cases hji : (j : Int) < (l k).len
              · have hvb := vib_bd HO.out (j : Int)
                have hln : (song l k ++ frames l k j).length ≤ 5000 := by have := HL.out k (by omega); simp [frames]; omega
                have HLN := Lib.hid hln
                clear hln
                go_wp2_with fail
                obtain ⟨wo, rfl⟩ : ∃ wo : World, wo = wr := ⟨_, rfl⟩
                go_loopw [12, 106] (fun c i wi => ∃ q : Nat, q ≤ 2 ∧ i = .int .i64 q ∧ c = .int .i64 (psum l k j q) ∧ Below wo.heap.size wo wi) (fun _ i _ => 2 - (intOf i).toNat)
                case atStart => exact ⟨0, Nat.zero_le _, rfl, rfl, Below.refl _ _⟩
                case round =>
                  obtain ⟨q, hq, rfl, rfl, hb⟩ := hrel
                  have HQ := Lib.hid hb
                  have hp0 := (HPb.out.later hb).c0
                  have hp1 := (HPb.out.later hb).c1
                  clear hb
                  rcases (show q = 0 ∨ q = 1 ∨  q = 2 by omega) with rfl | rfl |  rfl
                  · have hm := fun w' => meth88 (l k) w'
                    have hps := psum_bd (l := l) (k := k) (i := (j : Int)) HO.out 0 (by omega)
                    go_wp2_with fail
                    refine (key_any (l k) j _ HO.out).mono ?_
                    rintro e w4 ⟨rfl, hb4⟩
                    have HQ4 := Lib.hid (HQ.out.trans (hb4.mono HQ.out.size))
                    clear hb4 hm hp0 hp1
                    go_wp2_with fail
                    go_roundw
                    case rel => exact ⟨1, by omega, by go_num, by rw [psum0], HQ4.out⟩
                    case measure => simp [intOf]
                  · have hm := fun w' => meth89 (l k) w'
                    have hps := psum_bd (l := l) (k := k) (i := (j : Int)) HO.out 1 (by omega)
                    go_wp2_with fail
                    refine (vibrato_any (l k) j _ HO.out (by omega) (by omega)).mono ?_
                    rintro e w4 ⟨rfl, hb4⟩
                    have HQ4 := Lib.hid (HQ.out.trans (hb4.mono HQ.out.size))
                    clear hb4 hm hp0 hp1
                    go_wp2_with fail
                    go_roundw
                    case rel => exact ⟨2, by omega, by go_num, by rw [psum1], HQ4.out⟩
                    case measure => simp [intOf]
                  · have HE := Lib.hid (show psum l k j 2 = frm l k j from by simp [psum, frm, hk0])
                    have HK1 := Lib.hid (HK.out.later HQ.out)
                    have HP1 := Lib.hid (HPb.out.later HQ.out)
                    have HB1 := Lib.hid (HB.out.trans (HQ.out.mono HB.out.size))
                    have hsz : w.heap.size ≤ wr.heap.size := HB1.out.size
                    clear hp0 hp1
                    go_wp2_with (at_builtin; refine append_list Tryd.underlying34 info3 _ rfl _ _ rfl w.heap.size _ (song l k ++ frames l k j) (psum l k j 2) rfl (HK1.out.later (newb _ _)) ⟨wr.heap.size, 0, none⟩ rfl ?c12 ?c22 ?c32 ?c42)
                    case c12 => simp
                    case c22 => have := HLN.out; rw [List.length_append] at this; first | omega | (rw [List.length_append]; omega)
                    case c32 => first | omega | (simp; omega)
                    case c42 =>
                      intro v' w5 hown5 hgrow
                      have HO5 := Lib.hid hown5
                      have HG5 := Lib.hid (below_grownL (HB1.out.trans ((newb wr _).mono HB1.out.size)) (HK1.out.later (newb _ _)) hgrow (by simp; omega) (Nat.le_refl _))
                      have HP5 := Lib.hid ((HP1.out.later (newb wr _)).grown (HK1.out.later (newb _ _)) hgrow)
                      clear hown5 hgrow
                      go_wp2_with fail
                      go_roundw
                      case rel => exact ⟨j + 1, by omega, by go_num, by rw [frames_succ, ← HE.out]; exact HO5.out, HP5.out, HG5.out⟩
                      case measure => simp [intOf]; omega
              · have HJ := Lib.hid (show j = (l k).len.toNat by omega)
                have hle : (l k).len ≤ j := by omega
                go_wp2_with fail
                go_roundw
                case rel => exact ⟨k + 1, by omega, by go_num, by show GrowL _ _ _ (song l k ++ frames l k (l k).len.toNat); rw [← HJ.out]; exact HK.out, HB.out⟩
                case measure => simp [intOf]; omega
        · have hle : m ≤ k := by omega
          have HJ := Lib.hid (show k = m by omega)
          go_wp2_with fail
          go_ret2
          obtain ⟨q, c, h1, h2⟩ := HK.out.ints
          exact ⟨q, c, by rw [← HJ.out, h1]; rfl, by rw [← HJ.out]; exact h2, HB.out⟩
end Go.Proofs.YtijonghofghocaaDoor
