/- The line editor in plain words: what each key makes of a line. No program in sight. -/
import Derived.Test.YtokmiommhfbkeaaGreatDoorHist
import Derived.Test.YtokmiommhfbkeaaGreatDoorEditP
namespace Go.Proofs.YtokmiommhfbkeaaGreatDoor
open Go.RowKit

/-- a line that is edited -/
structure EL where
  text : ByteArray
  at' : Int
  killed : ByteArray
  killing : Bool
  before : List (ByteArray × Int)
  place : Int
  begun : ByteArray

def stateB (b : ByteArray × Int) : Bool := lineB b.1 && withinB b.2 0 b.1.size
def goodB (l : EL) : Bool := withinB l.at' 0 l.text.size && lineB l.text && lineB l.begun && lineB l.killed && l.before.all stateB
/-- the number of the error of a line and a history -/
def pressedE (l : EL) (h : List ByteArray) (lines : Int) : Int :=
  if goodB l = false then 5 else if 100 < l.before.length ∨ histB h = false then 2 else if withinB l.place 0 lines = false then 3 else 0
/-- the number of the error of a key -/
def keyE (kind byte : Int) : Int :=
  if withinB kind 1 22 = false then 4
  else if ¬ kind = 1 ∧ ¬ kind = 22 ∧ ¬ byte = 0 then 5
  else if kind = 1 ∧ withinB byte 32 126 = false ∧ withinB byte 128 255 = false then 3
  else if kind = 22 ∧ (withinB byte 1 255 = false ∨ byte = 10) then 3 else 0

/-- an entry becomes the line by bytes that were inserted one behind the other -/
def goesB (b : ByteArray × Int) (t : ByteArray) (a : Nat) : Bool :=
  decide (b.1.size < t.size) && decide ((a : Int) = b.2 + ((t.size : Int) - b.1.size)) && decide (b.1 = cutT t b.2.toNat a) && !(t.extract b.2.toNat a).data.toList.contains 32
def goesL (l : EL) : Bool := match l.before.getLast? with
  | none => false
  | some b => goesB b l.text l.at'.toNat
def noted (l : EL) : List (ByteArray × Int) := (l.before ++ [(l.text, l.at')]).drop (l.before.length + 1 - 100)

def placeL (l : EL) (h : List ByteArray) (goal : Int) : EL :=
  if withinB goal 0 h.length = false then l
  else
    let begun := if l.place = 0 then l.text else l.begun
    let text := if 0 < goal then h.getD (h.length - goal.toNat) ⟨#[]⟩ else begun
    { l with text := text, at' := text.size, before := [], place := goal, begun := begun }
def undoL (l : EL) : EL := match l.before.getLast? with
  | none => l
  | some b => { l with text := b.1, at' := b.2, before := l.before.dropLast }
def changeL (l : EL) (kind byte : Int) : EL :=
  let d := actD kind byte l.killing ⟨l.text, l.at'.toNat, l.killed, false⟩
  { l with text := d.text, at' := d.a, killed := d.killed, killing := d.killing, before := if d.text = l.text ∨ (kind = 1 ∧ goesL l = true) then l.before else noted l }
def emptyL : EL := ⟨⟨#[]⟩, 0, ⟨#[]⟩, false, [], 0, ⟨#[]⟩⟩
def keyL (l : EL) (h : List ByteArray) (kind byte : Int) : EL :=
  if kind = 19 then undoL { l with killing := false }
  else if kind = 20 then placeL { l with killing := false } h (l.place + 1)
  else if kind = 21 then placeL { l with killing := false } h (l.place - 1)
  else changeL l kind byte
def pressL (l : EL) (h : List ByteArray) (kind byte : Int) : EL × Int :=
  if ¬ pressedE l h h.length = 0 then (emptyL, pressedE l h h.length)
  else if ¬ keyE kind byte = 0 then (emptyL, keyE kind byte)
  else (keyL l h kind byte, 0)

end Go.Proofs.YtokmiommhfbkeaaGreatDoor
