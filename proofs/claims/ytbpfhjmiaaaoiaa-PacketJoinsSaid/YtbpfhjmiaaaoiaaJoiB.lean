/-
  Joiner: the program's joiner in memory: a map from APIDs to what is known, each with a row of bytes. Own work.
-/
import Derived.Test.YtbpfhjmiaaaoiaaJoiA
import Derived.Maps.OwnSet
import Derived.Maps.RangeWalk
namespace Go.Am.Joi
open Go Go.Am Go.Am.Lib Go.Lib Go.Proofs Go.RowKit
open Go.Am.Own
set_option maxRecDepth 100000

def RK (v : Value) : Option (DataW Value × List MemPlace) := some (.held v, [])
def kV (k : Kn) (tv : Value) : Value := .agg #[.int .i64 ((k.next : Nat) : Int), .bool k.opn, tv]
def klt (a : Nat) : Lit := .int .i64 ((a : Nat) : Int)
/-- The joiner; S: what may change; hole: an APID whose row is not spoken of (2047: none). -/
structure JC (S : Nat → Prop) (b mb N hole : Nat) (J : Js) (tv : Nat → Value) (D : DataW Value) (w : World) : Prop where
  hS : ∀ k, w.heap.size ≤ k → S k
  cell : w.heap[b]? = some (.cells #[.map (some mb)] 38 (0, 0))
  hb : S b
  hm : S mb
  map : w.ownsMap Try.prog 3 RK mb N D
  no : ∀ a, J a = none → Maps.has D (klt a) = false
  yes : ∀ a k, J a = some k → Maps.has D (klt a) = true ∧ ∀ z, D.atKey (klt a) z = .held (kV k (tv a))
  keys : ∀ l, Maps.has D l = true → ∃ a, a < 2047 ∧ l = klt a
  ap : ∀ a k, J a = some k → a < 2047 ∧ k.next < 16384 ∧ k.text.length ≤ 16384 ∧ (k.opn = false → k.text = [] ∧ tv a = .slice none 0 0)
  row : ∀ a k, J a = some k → a ≠ hole → BRow w (tv a) k.text
  rs : ∀ a k, J a = some k → a ≠ hole → ∀ g, (tv a).ownBlock = some g → S g
  dis : ∀ a a' k k', J a = some k → J a' = some k' → a ≠ a' → a ≠ hole → a' ≠ hole → (tv a).ownBlock = none ∨ (tv a).ownBlock ≠ (tv a').ownBlock
def JAt (S : Nat → Prop) (b N : Nat) (J : Js) (w : World) : Prop := ∃ mb tv D, JC S b mb N 2047 J tv D w
theorem ownsMap_of {w w' : World} {mb N : Nat} {D : DataW Value} (h : w.ownsMap Try.prog 3 RK mb N D) (e : w'.heap[mb]? = w.heap[mb]?) : w'.ownsMap Try.prog 3 RK mb N D := by
  obtain ⟨es, clock, hb, F, hs, hD⟩ := h
  exact ⟨es, clock, e.trans hb, F, hs, hD⟩
variable {S : Nat → Prop} {b mb N hole : Nat} {J : Js} {tv : Nat → Value} {D : DataW Value} {w w' : World}
theorem JC.lt (h : JC S b mb N hole J tv D w) : b < w.heap.size := (Array.getElem?_eq_some_iff.1 h.cell).1
theorem JC.mlt (h : JC S b mb N hole J tv D w) : mb < w.heap.size := h.map.lt
theorem JC.mis (h : JC S b mb N hole J tv D w) : ∃ es clock, w.heap[mb]? = some (.map es clock) := by
  obtain ⟨es, clock, hb, _⟩ := h.map
  exact ⟨es, clock, hb⟩
theorem JC.bne (h : JC S b mb N hole J tv D w) : b ≠ mb := fun e => by
  obtain ⟨es, clock, hm⟩ := h.mis
  rw [← e, h.cell] at hm
  injection hm with hm
  cases hm
/-- A row's block is neither the joiner's nor the map's. -/
theorem brow_ne (h : JC S b mb N hole J tv D w) {v : Value} {l : L8} (hr : BRow w v l) {g : Nat} (hg : v.ownBlock = some g) : g ≠ b ∧ g ≠ mb := by
  obtain ⟨cur, fz, hc⟩ := hr.is g hg
  constructor
  · intro e
    rw [e, h.cell] at hc
    injection hc with hc
    injection hc with _ hc _
    exact absurd hc (by decide)
  · intro e
    obtain ⟨es, clock, hm⟩ := h.mis
    rw [e, hm] at hc
    injection hc with hc
    cases hc
/-- In a later world, with a hole where a row may have changed. -/
theorem JC.later (h : JC S b mb N 2047 J tv D w) (a : Nat) {ex : Option Nat} (hex : ∀ g, ex = some g → ∃ k, J a = some k ∧ (tv a).ownBlock = some g) (hg : w.grownBy w' ex) : JC S b mb N a J tv D w' := by
  have hne : ∀ k, k < w.heap.size → (∀ g, ex = some g → k ≠ g) → w'.heap[k]? = w.heap[k]? := fun k hk hx => hg.block k hk fun e => hx k e.symm rfl
  have hbx : ∀ g, ex = some g → g ≠ b ∧ g ≠ mb := fun g hgx => by
    obtain ⟨k, h1, h2⟩ := hex g hgx
    exact brow_ne h (h.row a k h1 (by have := (h.ap a k h1).1; omega)) h2
  refine { hS := fun k hk => h.hS k (Nat.le_trans hg.size hk), cell := (hne b h.lt fun g e => (hbx g e).1.symm).trans h.cell, hb := h.hb, hm := h.hm, map := ownsMap_of h.map (hne mb h.mlt fun g e => (hbx g e).2.symm), no := h.no, yes := h.yes, keys := h.keys, ap := h.ap, row := fun x k hx hxa => ?_, rs := fun x k hx _ => h.rs x k hx (by have := (h.ap x k hx).1; omega), dis := fun x x' k k' hx hx' hne _ _ => h.dis x x' k k' hx hx' hne (by have := (h.ap x k hx).1; omega) (by have := (h.ap x' k' hx').1; omega) }
  have hr := h.row x k hx (by have := (h.ap x k hx).1; omega)
  refine hr.keep fun g hgx => hne g (hr.lt g hgx) fun g' hg' e => ?_
  obtain ⟨k0, h1, h2⟩ := hex g' hg'
  rcases h.dis x a k k0 hx h1 hxa (by have := (h.ap x k hx).1; omega) (by have := (h.ap a k0 h1).1; omega) with e1 | e1
  · rw [e1] at hgx; cases hgx
  · exact e1 (by rw [hgx, h2, e])
theorem grown_none (hb : Below w.heap.size w w') : w.grownBy w' none := ⟨hb.os, hb.tape, hb.output, hb.size, fun k hk _ => hb.block k hk⟩
theorem JC.below (h : JC S b mb N 2047 J tv D w) (hb : Below w.heap.size w w') : JC S b mb N 2047 J tv D w' :=
  h.later 2047 (ex := none) (fun g e => by cases e) (grown_none hb)
theorem keyInt {a : Nat} (ha : a < 2047) : keyOf Try.prog 3 (.int .i64 ((a : Nat) : Int)) = some (klt a) :=
  Maps.keyOf_int_mk Try.underlying3 (by simp [Lit.wf, IntKind.min, IntKind.max, IntKind.signed, IntKind.bits]; omega)
theorem keyLit (a : Nat) : WideAt.IsKeyLit (klt a) := trivial
theorem klt_inj {a a' : Nat} (h : klt a = klt a') : a = a' := by
  unfold klt at h
  injection h with _ h
  omega
end Go.Am.Joi
