/-
  Joiner: what Feed keeps in its own blocks. Own work.
-/
import Derived.Test.YtbpfhjmiaaaoiaaJoiD
namespace Go.Am.Joi
open Go Go.Am Go.Am.Lib Go.Lib Go.Proofs Go.RowKit
open Go.Am.Own
set_option maxRecDepth 100000

/-- A predicate of the world at hand is all that is kept of it. -/
theorem w_gen {p : World → Prop} (I : World → Prop) {w : World} (h0 : I w) (h : ∀ w', I w' → p w') : p w := h w h0
/-- The cells of block q, whatever is said of them. -/
def At (w : World) (q : Nat) (T : TypeId) (fr : Nat × Nat) (P : Array Value → Prop) : Prop := ∃ cs, w.heap[q]? = some (.cells cs T fr) ∧ P cs
theorem At.same {w : World} {b o : Nat} {T : TypeId} {fr : Nat × Nat} {v : Value} {P : Array Value → Prop} (h : At w b T fr fun cs => P (cs.setIfInBounds o v)) : At (w.setCell ⟨b, o, none⟩ v) b T fr P := by
  obtain ⟨cs, h1, h2⟩ := h
  exact ⟨_, set_at h1, h2⟩
theorem At.ne {w : World} {b o q : Nat} {T : TypeId} {fr : Nat × Nat} {v : Value} {P : Array Value → Prop} (hk : q ≠ b) (h : At w q T fr P) : At (w.setCell ⟨b, o, none⟩ v) q T fr P := by
  obtain ⟨cs, h1, h2⟩ := h
  exact ⟨cs, (((OnlyB.refl b w).setCell o v).rest q hk).trans h1, h2⟩
theorem At.drew {w : World} {q : Nat} {T : TypeId} {fr : Nat × Nat} {P : Array Value → Prop} (h : At w q T fr P) : At w.drew q T fr P := h
theorem At.base {w : World} {q : Nat} {T : TypeId} {fr : Nat × Nat} {cs : Array Value} {P : Array Value → Prop} (h : w.heap[q]? = some (.cells cs T fr)) (hp : P cs) : At w q T fr P := ⟨cs, h, hp⟩
theorem At.out {w : World} {q : Nat} {T : TypeId} {fr : Nat × Nat} {cs : Array Value} (h : At w q T fr fun x => x = cs) : w.heap[q]? = some (.cells cs T fr) := by
  obtain ⟨_, h1, rfl⟩ := h
  exact h1
theorem drew_eq (w : World) (k : Nat) : w.drew.heap[k]? = w.heap[k]? := rfl
theorem set_eq {w : World} {b o k : Nat} {v : Value} (hk : k ≠ b) : (w.setCell ⟨b, o, none⟩ v).heap[k]? = w.heap[k]? := ((OnlyB.refl b w).setCell o v).rest k hk
theorem set_ne_of {w : World} {b o k : Nat} {v : Value} {x : Option Obj} (hk : k ≠ b) (h : w.heap[k]? = x) : (w.setCell ⟨b, o, none⟩ v).heap[k]? = x := (set_eq hk).trans h
/-- A row beside a store into a block of another type. -/
theorem BRow.aside {w : World} {v u : Value} {l : L8} {q o : Nat} {cs : Array Value} {T : TypeId} {fr : Nat × Nat} (h : BRow w v l) (hq : w.heap[q]? = some (.cells cs T fr)) (hT : T ≠ 5) : BRow (w.setCell ⟨q, o, none⟩ u) v l :=
  h.keep fun g hg => set_eq fun e => by
    obtain ⟨cur, fz, hc⟩ := h.is g hg
    rw [e, hq] at hc
    injection hc with hc
    injection hc with _ hc _
    exact hT hc
theorem gr_set {w w' : World} {ex : Option Nat} {q o : Nat} {v : Value} (hq : w.heap.size ≤ q) (h : w.grownBy w' ex) : w.grownBy (w'.setCell ⟨q, o, none⟩ v) ex := by
  have hof : OnlyB q w' (w'.setCell ⟨q, o, none⟩ v) := (OnlyB.refl q w').setCell o v
  exact ⟨hof.os.trans h.os, hof.tape.trans h.tape, hof.output.trans h.output, by rw [hof.size]; exact h.size, fun k hk hx => (hof.rest k (by omega)).trans (h.block k hk hx)⟩
theorem gr_drew {w w' : World} {ex : Option Nat} (h : w.grownBy w' ex) : w.grownBy w'.drew ex := ⟨h.os, h.tape, h.output, h.size, h.block⟩
theorem gr_below {w w' w2 : World} {ex : Option Nat} (h : w.grownBy w' ex) (hb : Below w'.heap.size w' w2) : w.grownBy w2 ex := ⟨hb.os.trans h.os, hb.tape.trans h.tape, hb.output.trans h.output, Nat.le_trans h.size hb.size, fun k hk hx => (hb.block k (Nat.lt_of_lt_of_le hk h.size)).trans (h.block k hk hx)⟩
abbrev pkO (c : Bool) (a f n : Nat) (d : ByteArray) : Obj := .cells #[.bool c, .int .i64 ((a : Nat) : Int), .int .i64 ((f : Nat) : Int), .int .i64 ((n : Nat) : Int), .string d] 23 (0, 0)
abbrev pcO (wh : Bool) (ms : ByteArray) (mi : Int) (br : Bool) : Obj := .cells #[.bool wh, .string ms, .int .i64 mi, .bool br] 40 (0, 0)
abbrev knO (nx : Int) (op : Bool) (tv : Value) : Obj := .cells #[.int .i64 nx, .bool op, tv] 68 (0, 0)
/-- Feed's own blocks; ex: the one older block that may have changed. -/
structure Lo (w : World) (q : Nat) (ex : Option Nat) (c : Bool) (a f n : Nat) (d : ByteArray) (wh : Bool) (ms : ByteArray) (mi : Int) (br : Bool) (nx : Int) (op : Bool) (tv : Value) (w' : World) : Prop where
  g : w.grownBy w' ex
  lt : w.heap.size + 1 < q
  e3 : w'.heap[w.heap.size]? = some (pkO c a f n d)
  e4 : w'.heap[w.heap.size + 1]? = some (pcO false ⟨#[]⟩ 0 false)
  e6 : w'.heap[q]? = some (pcO wh ms mi br)
  e7 : w'.heap[q + 1]? = some (knO nx op tv)
variable {w w' : World} {q : Nat} {ex : Option Nat} {c : Bool} {a f n : Nat} {d : ByteArray} {wh : Bool} {ms : ByteArray} {mi : Int} {br : Bool} {nx : Int} {op : Bool} {tv : Value}
theorem Lo.drew (h : Lo w q ex c a f n d wh ms mi br nx op tv w') : Lo w q ex c a f n d wh ms mi br nx op tv w'.drew := ⟨gr_drew h.g, h.lt, h.e3, h.e4, h.e6, h.e7⟩
theorem Lo.below {w2 : World} (h : Lo w q ex c a f n d wh ms mi br nx op tv w') (hb : Below w'.heap.size w' w2) : Lo w q ex c a f n d wh ms mi br nx op tv w2 := by
  have l : ∀ {k o}, w'.heap[k]? = some o → w2.heap[k]? = some o := fun {k o} hk => (hb.block k (Array.getElem?_eq_some_iff.1 hk).1).trans hk
  exact ⟨gr_below h.g hb, h.lt, l h.e3, l h.e4, l h.e6, l h.e7⟩
/-- What is read and written. -/
theorem Lo.cells (h : Lo w q ex c a f n d wh ms mi br nx op tv w') :
    w'.cell? ⟨w.heap.size, 1, none⟩ = some (.int .i64 ((a : Nat) : Int)) ∧ w'.cell? ⟨w.heap.size, 2, none⟩ = some (.int .i64 ((f : Nat) : Int)) ∧ w'.cell? ⟨w.heap.size, 3, none⟩ = some (.int .i64 ((n : Nat) : Int)) ∧ w'.cell? ⟨w.heap.size, 4, none⟩ = some (.string d) ∧
    w'.cell? ⟨w.heap.size + 1, 0, none⟩ = some (.bool false) ∧ w'.cell? ⟨w.heap.size + 1, 1, none⟩ = some (.string ⟨#[]⟩) ∧ w'.cell? ⟨w.heap.size + 1, 2, none⟩ = some (.int .i64 0) ∧ w'.cell? ⟨w.heap.size + 1, 3, none⟩ = some (.bool false) ∧
    w'.cell? ⟨q, 0, none⟩ = some (.bool wh) ∧ w'.cell? ⟨q, 1, none⟩ = some (.string ms) ∧ w'.cell? ⟨q, 2, none⟩ = some (.int .i64 mi) ∧ w'.cell? ⟨q, 3, none⟩ = some (.bool br) ∧
    w'.cell? ⟨q + 1, 0, none⟩ = some (.int .i64 nx) ∧ w'.cell? ⟨q + 1, 1, none⟩ = some (.bool op) ∧ w'.cell? ⟨q + 1, 2, none⟩ = some tv :=
  ⟨cell_of h.e3, cell_of h.e3, cell_of h.e3, cell_of h.e3, cell_of h.e4, cell_of h.e4, cell_of h.e4, cell_of h.e4, cell_of h.e6, cell_of h.e6, cell_of h.e6, cell_of h.e6, cell_of h.e7, cell_of h.e7, cell_of h.e7⟩
theorem Lo.fz (h : Lo w q ex c a f n d wh ms mi br nx op tv w') : (∀ o, w'.frozen? ⟨w.heap.size + 1, o, none⟩ = false) ∧ (∀ o, w'.frozen? ⟨q, o, none⟩ = false) ∧ (∀ o, w'.frozen? ⟨q + 1, o, none⟩ = false) := ⟨fz_of h.e4, fz_of h.e6, fz_of h.e7⟩
/-- A row grows. -/
theorem Lo.grown {w2 : World} {v : Value} {l : L8} (h : Lo w q none c a f n d wh ms mi br nx op tv w') (hr : BRow w' v l) (hg : w'.grownBy w2 v.ownBlock) : Lo w q v.ownBlock c a f n d wh ms mi br nx op tv w2 := by
  have keep : ∀ {k : Nat} {cs : Array Value} {T : TypeId} {fr : Nat × Nat}, w'.heap[k]? = some (.cells cs T fr) → T ≠ 5 → w2.heap[k]? = some (.cells cs T fr) := fun {k cs T fr} hk hT => by
    refine (hg.block k (Array.getElem?_eq_some_iff.1 hk).1 fun e => ?_).trans hk
    obtain ⟨cur, fz, hc⟩ := hr.is k e.symm
    rw [hk] at hc
    injection hc with hc
    injection hc with _ hc _
    exact hT hc
  exact ⟨⟨hg.os.trans h.g.os, hg.tape.trans h.g.tape, hg.output.trans h.g.output, Nat.le_trans h.g.size hg.size, fun k hk hne => (hg.block k (Nat.lt_of_lt_of_le hk h.g.size) hne).trans (h.g.block k hk (by simp))⟩, h.lt, keep h.e3 (by decide), keep h.e4 (by decide), keep h.e6 (by decide), keep h.e7 (by decide)⟩
end Go.Am.Joi
