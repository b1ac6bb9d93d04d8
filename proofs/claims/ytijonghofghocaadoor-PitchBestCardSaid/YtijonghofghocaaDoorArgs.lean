/-
  What the arguments' slices hold: commands, targets, integers, notes; read in any later world.
-/
import Derived.Test.YtijonghofghocaaDoorTail
import Derived.Test.YtijonghofghocaaDoorSong
namespace Go.Proofs.YtijonghofghocaaDoor
open Go.RowKit

def cmdCell (l : Nat → Cmd) (sp : Nat → Option Addr) (sc : Nat → Nat) (i j : Nat) : Value :=
  if j = 0 then .int .i64 (l i).ca else if j = 1 then .int .i64 (l i).ch else .slice (sp i) (l i).n (sc i)
/-- A slice of commands, each with its shape. -/
def Cmds (w : World) (p : Option Addr) (m : Nat) (l : Nat → Cmd) (sp : Nat → Option Addr) (sc : Nat → Nat) : Prop :=
  Row w p m 3 (cmdCell l sp sc) ∧ ∀ i, i < m → (l i).n ≤ 9223372036854775807 ∧ Row w (sp i) (l i).n 2 (knotCell (l i).kt (l i).kv)
theorem Cmds.mono {w w' : World} {p : Option Addr} {m : Nat} {l : Nat → Cmd} {sp : Nat → Option Addr} {sc : Nat → Nat} (h : Cmds w p m l sp sc) (hb : Below w.heap.size w w') : Cmds w' p m l sp sc :=
  ⟨h.1.mono hb, fun i hi => ⟨(h.2 i hi).1, (h.2 i hi).2.mono hb⟩⟩

def tgtCell (tg : Nat → Tgt) (i j : Nat) : Value := if j = 0 then .int .i64 (tg i).time else if j = 1 then .int .i64 (tg i).value else .int .i64 (tg i).weight

/-- A slice of integers. -/
def Ints (w : World) (p : Option Addr) (n : Nat) (f : Nat → Int) : Prop :=
  n = 0 ∨ ∃ b off, p = some ⟨b, off, none⟩ ∧ b < w.heap.size ∧ ∀ i, i < n → w.cell? ⟨b, off + i, none⟩ = some (.int .i64 (f i))
theorem Ints.mono {w w' : World} {p : Option Addr} {n : Nat} {f : Nat → Int} (h : Ints w p n f) (hb : Below w.heap.size w w') : Ints w' p n f := by
  rcases h with h | ⟨b, off, hp, hlt, hc⟩
  · exact .inl h
  · exact .inr ⟨b, off, hp, Nat.lt_of_lt_of_le hlt hb.size, fun i hi => by rw [hb.cell hlt]; exact hc i hi⟩
theorem Ints.at {w : World} {p : Option Addr} {n : Nat} {f : Nat → Int} (h : Ints w p n f) (hn : 0 < n) :
    ∃ b off, p = some ⟨b, off, none⟩ ∧ b < w.heap.size ∧ ∀ i, i < n → w.cell? ⟨b, off + i, none⟩ = some (.int .i64 (f i)) := by
  rcases h with h | h
  · omega
  · exact h

def Note.field (x : Note) (j : Nat) : Int := if j = 0 then x.key else if j = 1 then x.len else if j = 2 then x.glide else if j = 3 then x.delay else if j = 4 then x.depth else x.period
def noteCell (l : Nat → Note) (i j : Nat) : Value := .int .i64 ((l i).field j)

/-- A result that is a number and is told by a property. -/
def SomeInt (p : Int → Prop) (w : World) (e : Ending) (w' : World) : Prop := ∃ n : Int, p n ∧ e = .returned (.int .i64 n) ∧ Below w.heap.size w w'
/-- Of an index: not negative if some fall short. -/
def Idx (all : Bool) (r : Int) : Prop := (all = true → r = -1) ∧ (all = false → 0 ≤ r)
end Go.Proofs.YtijonghofghocaaDoor
