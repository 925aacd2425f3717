/-
  Cltu: two lists of strings that are the same; a list appended to another; a parser in a later world. Own work.
-/
import Derived.Test.YtoeepogoogcbiaaDoorCltAL
namespace Go.Am.Clt
open Go Go.Am Go.Am.Lib Go.Lib Go.Proofs Go.RowKit
set_option maxRecDepth 100000

/-- The heap is as it was. -/
structure OnlyH (w w' : World) : Prop where
  os : w'.os = w.os
  tape : w'.tape = w.tape
  output : w'.output = w.output
  heap : w'.heap = w.heap
theorem OnlyH.refl (w : World) : OnlyH w w := ⟨rfl, rfl, rfl, rfl⟩
theorem OnlyH.drew {w w' : World} (h : OnlyH w w') : OnlyH w w'.drew := ⟨h.os, h.tape, h.output, h.heap⟩
theorem OnlyH.cell {w w' : World} (h : OnlyH w w') (a : Addr) : w'.cell? a = w.cell? a := by unfold World.cell?; rw [h.heap]
theorem OnlyH.below {w w' : World} (h : OnlyH w w') (B : Nat) : Below B w w' := { os := h.os, tape := h.tape, output := h.output, size := Nat.le_of_eq (by rw [h.heap]), block := fun k _ => by rw [h.heap] }
/-- An element of a list of strings in memory. -/
theorem row_at {w : World} {B : Nat} {ao : Option Addr} {n cap : Nat} {L : List ByteArray} (h : w.ownsRow B 9 1 (.slice ao n cap) L.length (L.map .string)) {i : Nat} (hi : i < n) (hl : L.length = n) :
    ∃ g, ao = some ⟨g, 0, none⟩ ∧ w.cell? ⟨g, i, none⟩ = some (.string (L.getD i ⟨#[]⟩)) := by
  obtain ⟨_, g, rfl⟩ := ownsRow_base h (by omega)
  refine ⟨g, rfl, ?_⟩
  have hc := h.cells (g := g) rfl i (.string (L.getD i ⟨#[]⟩)) (by
    rw [List.getElem?_map, List.getD_eq_getElem?_getD, List.getElem?_eq_getElem (by omega)]; rfl)
  have ha : ((⟨g, 0, none⟩ : Addr).add i) = ⟨g, i, none⟩ := by simp [Addr.add]; intro h; exact h.symm
  rw [ha] at hc
  exact hc
set_option maxHeartbeats 1600000 in
theorem same_walk {w : World} {va vb : Value} {L : List ByteArray} (ha : w.ownsRow 0 9 1 va L.length (L.map .string)) (hb : w.ownsRow 0 9 1 vb L.length (L.map .string)) (hL : L.length < 2 ^ 40) :
    Calls Tryd.prog 21 #[va, vb] w fun e w' => e = .returned (.bool true) ∧ OnlyH w w' := by
  obtain ⟨ao, ca, rfl⟩ := ownsRow_slice ha
  obtain ⟨bo, cb, rfl⟩ := ownsRow_slice hb
  obtain ⟨n, hn⟩ : ∃ n, L.length = n := ⟨_, rfl⟩
  rw [hn]
  have hnn : ((((n : Nat) : Int) != ((n : Nat) : Int))) = false := by simp
  go_enter Tryd.func21, Tryd.ntmps21
  go_wp2
  go_loopw [5] (fun iv wr => ∃ (i : Nat), iv = .int .i64 (i : Nat) ∧ i ≤ n ∧ OnlyH w wr)
    (fun iv _ => n - iOf iv)
  case atStart => exact ⟨0, rfl, Nat.zero_le _, OnlyH.refl _⟩
  case round =>
    obtain ⟨i, rfl, hi, hH⟩ := hrel
    rcases Nat.lt_or_ge i n with hlt | hge
    · have hlt' : ((i : Nat) : Int) < ((n : Nat) : Int) := by omega
      rw [hn] at ha hb
      obtain ⟨g1, rfl, k1⟩ := row_at (by rw [hn]; exact ha) hlt hn
      obtain ⟨g2, rfl, k2⟩ := row_at (by rw [hn]; exact hb) hlt hn
      have k1' := (hH.cell ⟨g1, i, none⟩).trans k1
      have k2' := (hH.cell ⟨g2, i, none⟩).trans k2
      clear ha hb
      go_wp2
      go_region
      go_wp2
      exact ⟨⟨i + 1, by push_cast; rfl, hlt, hH.drew⟩, by show n - (i + 1) < n - i; omega⟩
    · have hge' : ¬ ((i : Nat) : Int) < ((n : Nat) : Int) := by omega
      go_wp2
      go_ret
      exact ⟨rfl, hH⟩
end Go.Am.Clt
