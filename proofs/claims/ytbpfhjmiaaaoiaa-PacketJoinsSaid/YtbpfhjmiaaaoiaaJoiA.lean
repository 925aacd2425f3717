/-
  Joiner: what a joiner knows, and what a packet makes of it, in plain terms. Own work; plain mathematics.
-/
import Derived.Test.YtbpfhjmiaaaoiaaJoiR
namespace Go.Am.Joi
open Go Go.Am

/-- What a joiner knows of an APID. -/
structure Kn where
  next : Nat
  opn : Bool
  text : L8
abbrev Js := Nat → Option Kn
def Js.set (J : Js) (a : Nat) (k : Kn) : Js := fun x => if x = a then some k else J x
theorem Js.set_same (J : Js) (a : Nat) (k : Kn) : J.set a k a = some k := if_pos rfl
theorem Js.set_other (J : Js) {a x : Nat} (k : Kn) (h : x ≠ a) : J.set a k x = J x := if_neg h
/-- What is returned: the message is whole; its text; how many packets are missing; a message was given up. -/
structure An where
  whole : Bool
  msg : ByteArray
  missed : Nat
  broken : Bool
def emp : ByteArray := ⟨#[]⟩
def missK (k : Option Kn) (n : Nat) : Nat := match k with | none => 0 | some k => (n + (16384 - k.next)) % 16384
def opnK (k : Option Kn) : Bool := match k with | none => false | some k => k.opn
def txtK (k : Option Kn) : L8 := match k with | none => [] | some k => k.text
/-- The message that had begun is given up before the packet is looked at. -/
def brkK (k : Option Kn) (f n : Nat) : Bool := opnK k && (decide (missK k n ≠ 0) || decide (f % 2 = 1))
def stayK (k : Option Kn) (f n : Nat) : Bool := opnK k && !brkK k f n
def newK (k : Option Kn) (f n : Nat) (d : ByteArray) : Kn :=
  if f = 1 then ⟨(n + 1) % 16384, true, d.data.toList⟩
  else if f = 0 ∧ stayK k f n = true ∧ (txtK k).length + d.size ≤ 16384 then ⟨(n + 1) % 16384, true, txtK k ++ d.data.toList⟩
  else ⟨(n + 1) % 16384, false, []⟩
def ansK (k : Option Kn) (f n : Nat) (d : ByteArray) : An :=
  if f = 3 then ⟨true, d, missK k n, brkK k f n⟩
  else if f = 1 then ⟨false, emp, missK k n, brkK k f n⟩
  else if stayK k f n = true then
    (if (txtK k).length + d.size ≤ 16384 then (if f = 2 then ⟨true, ⟨⟨txtK k⟩⟩ ++ d, missK k n, false⟩ else ⟨false, emp, missK k n, false⟩) else ⟨false, emp, missK k n, true⟩)
  else ⟨false, emp, missK k n, brkK k f n⟩
end Go.Am.Joi
