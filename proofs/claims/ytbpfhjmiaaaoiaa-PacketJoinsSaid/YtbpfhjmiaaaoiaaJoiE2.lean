/-
  Joiner: the end of Feed. Own work.
-/
import Derived.Test.YtbpfhjmiaaaoiaaJoiE
import Derived.Test.YtbpfhjmiaaaoiaaJoiA2
namespace Go.Am.Joi
open Go Go.Am Go.Am.Lib Go.Lib Go.Proofs Go.RowKit
open Go.Am.Own
set_option maxRecDepth 100000

variable {S : Nat → Prop} {b mb N hole : Nat} {J : Js} {tvs : Nat → Value} {D : DataW Value} {w w' : World}
theorem JC.drew (h : JC S b mb N hole J tvs D w) : JC S b mb N hole J tvs D w.drew := ⟨h.hS, h.cell, h.hb, h.hm, h.map, h.no, h.yes, h.keys, h.ap, h.row, h.rs, h.dis⟩
/-- A store into a block of another type. -/
theorem JC.aside (h : JC S b mb N hole J tvs D w) {q o : Nat} {cs : Array Value} {T : TypeId} {fr : Nat × Nat} {v : Value} (hq : w.heap[q]? = some (.cells cs T fr)) (h1 : T ≠ 5) (h2 : T ≠ 38) : JC S b mb N hole J tvs D (w.setCell ⟨q, o, none⟩ v) := by
  have hof : OnlyB q w (w.setCell ⟨q, o, none⟩ v) := (OnlyB.refl q w).setCell o v
  have hb : b ≠ q := fun e => by
    have := h.cell
    rw [e, hq] at this
    injection this with this
    injection this with _ this _
    exact h2 this
  have hm : mb ≠ q := fun e => by
    obtain ⟨es, clock, hm⟩ := h.mis
    rw [e, hq] at hm
    injection hm with hm
    cases hm
  refine ⟨fun k hk => h.hS k (by rw [hof.size] at hk; exact hk), (hof.rest b hb).trans h.cell, h.hb, h.hm, ownsMap_of h.map (hof.rest mb hm), h.no, h.yes, h.keys, h.ap, fun a k hJ hne => ?_, h.rs, h.dis⟩
  have hr := h.row a k hJ hne
  refine hr.keep fun g hg => hof.rest g fun e => ?_
  obtain ⟨cur, fz, hc⟩ := hr.is g hg
  rw [e, hq] at hc
  injection hc with hc
  injection hc with _ hc _
  exact h1 hc
variable {q : Nat} {ex : Option Nat} {c : Bool} {a f n : Nat} {d : ByteArray} {wh : Bool} {ms : ByteArray} {mi : Int} {br : Bool} {nx : Int} {op : Bool} {tv : Value}
abbrev endW (w W7 : World) (wh : Bool) (ms : ByteArray) (mi : Int) (br : Bool) : World := (((W7.setCell ⟨w.heap.size + 1, 0, none⟩ (.bool wh)).setCell ⟨w.heap.size + 1, 1, none⟩ (.string ms)).setCell ⟨w.heap.size + 1, 2, none⟩ (.int .i64 mi)).setCell ⟨w.heap.size + 1, 3, none⟩ (.bool br)
/-- Where the new text lies. -/
def Lies (w : World) (ex : Option Nat) (v : Value) : Prop := ∀ g, v.ownBlock = some g → ex = some g ∨ w.heap.size ≤ g
/-- What is known is stored, the answer is handed over. -/
theorem feed_fin (h : JC S b mb N 2047 J tvs D w) (ha : a < 2047) (hN : N < maxLen) (hex : ∀ g, ex = some g → ∃ k, J a = some k ∧ (tvs a).ownBlock = some g) (hL : Lo w q ex c a f n d wh ms mi br nx op tv w')
    {k' : Kn} (e1 : ((k'.next : Nat) : Int) = nx) (e2 : k'.opn = op) (hn : k'.next < 16384) (ht : k'.text.length ≤ 16384) (hc : op = false → k'.text = [] ∧ tv = .slice none 0 0) (hr : BRow w' tv k'.text) (hl : Lies w ex tv) :
    ∃ W7, (Instr.mapUpdate 36 (.map (some mb)) (.int .i64 ((a : Nat) : Int)) (.agg #[.int .i64 nx, .bool op, tv])).run Try.prog w'.drew = .ok () W7 ∧
      W7.heap[q]? = some (pcO wh ms mi br) ∧ W7.heap[w.heap.size + 1]? = some (pcO false ⟨#[]⟩ 0 false) ∧ JAt S b (N + 1) (J.set a k') (endW w W7 wh ms mi br) ∧ FrS S w (endW w W7 wh ms mi br) := by
  subst e1 e2
  have h6 := (h.later a hex hL.g).drew
  have hexS : ∀ g, ex = some g → S g := fun g hg => by
    obtain ⟨k, h1, h2⟩ := hex g hg
    exact h.rs a k h1 (by omega) g h2
  have holdlt : ∀ x k, J x = some k → ∀ g, (tvs x).ownBlock = some g → g < w.heap.size := fun x k hx g hg => (h.row x k hx (by have := (h.ap x k hx).1; omega)).lt g hg
  obtain ⟨W7, hrun, hJ, hg, hsz⟩ := h6.put (k' := k') (v' := tv) ha hN hn ht hc hr (fun g hg => by
    rcases hl g hg with e | e
    · exact hexS g e
    · exact h.hS g e) (fun x k hx hxa g hg e => by
    have hlt := holdlt x k hx g e
    rcases hl g hg with e1 | e1
    · obtain ⟨k0, h1, h2⟩ := hex g e1
      rcases h.dis x a k k0 hx h1 hxa (by have := (h.ap x k hx).1; omega) (by omega) with e3 | e3
      · rw [e3] at e; cases e
      · exact e3 (by rw [e, h2])
    · omega)
  have hmlt := h.mlt
  have hq7 : W7.heap[q]? = some (pcO wh ms mi br) := (hg.block q (Array.getElem?_eq_some_iff.1 hL.e6).1 fun e => by injection e with e; have := hL.lt; omega).trans hL.e6
  have hF7 : W7.heap[w.heap.size + 1]? = some (pcO false ⟨#[]⟩ 0 false) := (hg.block (w.heap.size + 1) (Array.getElem?_eq_some_iff.1 hL.e4).1 fun e => by injection e with e; omega).trans hL.e4
  refine ⟨W7, hrun, hq7, hF7, ?_, ?_⟩
  · obtain ⟨mb2, tv2, D2, hj⟩ := hJ
    have j1 := hj.aside (o := 0) (v := .bool wh) hF7 (by decide) (by decide)
    have j2 := j1.aside (o := 1) (v := .string ms) (set_at hF7) (by decide) (by decide)
    have j3 := j2.aside (o := 2) (v := .int .i64 mi) (set_at (set_at hF7)) (by decide) (by decide)
    exact ⟨mb2, tv2, D2, j3.aside (o := 3) (v := .bool br) (set_at (set_at (set_at hF7))) (by decide) (by decide)⟩
  · have hof : OnlyB (w.heap.size + 1) W7 (endW w W7 wh ms mi br) := ((((OnlyB.refl _ W7).setCell 0 _).setCell 1 _).setCell 2 _).setCell 3 _
    refine ⟨hof.os.trans (hg.os.trans hL.g.os), hof.tape.trans (hg.tape.trans hL.g.tape), hof.output.trans (hg.output.trans hL.g.output), by rw [hof.size]; exact Nat.le_trans hL.g.size hg.size, fun k hk => ?_⟩
    have hlt : k < w.heap.size := lt_of_not h.hS hk
    refine (hof.rest k (by omega)).trans ((hg.block k (Nat.lt_of_lt_of_le hlt hL.g.size) fun e => ?_).trans (hL.g.block k hlt fun e => hk (hexS k e.symm)))
    injection e with e
    exact hk (by rw [e]; exact h.hm)
end Go.Am.Joi
