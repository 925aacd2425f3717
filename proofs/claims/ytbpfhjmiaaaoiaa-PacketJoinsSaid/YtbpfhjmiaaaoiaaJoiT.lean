/-
  Joiner: what the reference's Feed keeps in memory. Own work.
-/
import Derived.Test.YtbpfhjmiaaaoiaaJoiS3
namespace Go.Am.Joi
open Go Go.Am Go.Am.Lib Go.Lib Go.Proofs Go.RowKit
open Go.Am.Own
open Go.Am.Pkt (G0)
set_option maxRecDepth 100000

theorem rvalid_calls (c : Bool) (a f n : Int) (d : ByteArray) (w : World) : Calls Try.prog 14 #[.agg #[.bool c, .int .i64 a, .int .i64 f, .int .i64 n, .string d]] w fun e w' => e = .returned (.bool (Pkt.validB a f n d)) ∧ Below w.heap.size w w' :=
  flat_calls Pkt.okRVal w (args := [Pkt.pkV c a f n d]) rfl (v := .bool (Pkt.validB a f n d)) rfl ⟨rfl, rfl⟩
/-- A row whose entry at o holds these three values behind its APID. -/
def put3 (xs : List Value) (o : Nat) (x y z : Value) : List Value := ((xs.set (o + 1) x).set (o + 2) y).set (o + 3) z
theorem put3_1 (xs : List Value) (o : Nat) (x y z v : Value) : (put3 xs o x y z).set (o + 1) v = put3 xs o v y z := by
  unfold put3
  rw [List.set_comm _ _ (show o + 3 ≠ o + 1 by omega), List.set_comm _ _ (show o + 2 ≠ o + 1 by omega), List.set_set]
theorem put3_2 (xs : List Value) (o : Nat) (x y z v : Value) : (put3 xs o x y z).set (o + 2) v = put3 xs o x v z := by
  unfold put3
  rw [List.set_comm _ _ (show o + 3 ≠ o + 2 by omega), List.set_set]
theorem put3_3 (xs : List Value) (o : Nat) (x y z v : Value) : (put3 xs o x y z).set (o + 3) v = put3 xs o x y v := by
  unfold put3
  rw [List.set_set]
theorem put3_at {L : List Rn} {i : Nat} {x : Rn} (h : L[i]? = some x) : put3 (flR L) (i * 4) (.int .i64 ((x.next : Nat) : Int)) (.bool x.opn) (.string x.txt) = flR L := by
  unfold put3
  rw [flR_set h rfl]
  congr 1
  apply List.ext_getElem?
  intro j
  rw [List.getElem?_set]
  split
  · rename_i e; subst e; rw [if_pos (List.getElem?_eq_some_iff.1 h).1, h]
  · rfl
/-- The blocks at hand: F the packet, F + 1 the answer, q the piece, g the row (its entry at o), b the joiner. -/
structure Lr (S : Nat → Prop) (w : World) (F q g o b len cap : Nat) (pk : Obj) (xs : List Value) (a0 a1 a2 a3 q0 q1 q2 q3 x1 x2 x3 : Value) (w' : World) : Prop where
  fr : FrS S w w'
  hS : ∀ k, w.heap.size ≤ k → S k
  hF : w.heap.size ≤ F
  hFq : F + 1 < q
  pk : w'.heap[F]? = some pk
  ef : w'.heap[F + 1]? = some (.cells #[a0, a1, a2, a3] 40 (0, 0))
  eq : w'.heap[q]? = some (.cells #[q0, q1, q2, q3] 40 (0, 0))
  eb : w'.heap[b]? = some (.cells #[.slice (some ⟨g, 0, none⟩) len cap] 35 (0, 0))
  row : w'.ownsRow 0 74 4 (.slice (some ⟨g, 0, none⟩) len cap) len (put3 xs o x1 x2 x3)
  Sg : S g
  gF : g ≠ F
  bF : b ≠ F
variable {S : Nat → Prop} {w w' : World} {F q g o b len cap : Nat} {pk : Obj} {xs : List Value} {a0 a1 a2 a3 q0 q1 q2 q3 x1 x2 x3 v k0 k1 k2 k3 k4 : Value}
theorem Lr.drew (h : Lr S w F q g o b len cap pk xs a0 a1 a2 a3 q0 q1 q2 q3 x1 x2 x3 w') : Lr S w F q g o b len cap pk xs a0 a1 a2 a3 q0 q1 q2 q3 x1 x2 x3 w'.drew :=
  ⟨h.fr.drew, h.hS, h.hF, h.hFq, h.pk, h.ef, h.eq, h.eb, h.row.drew, h.Sg, h.gF, h.bF⟩
theorem Lr.gne (h : Lr S w F q g o b len cap pk xs a0 a1 a2 a3 q0 q1 q2 q3 x1 x2 x3 w') : g ≠ F + 1 ∧ g ≠ q ∧ g ≠ b ∧ b ≠ F + 1 ∧ b ≠ q := by
  have tne : ∀ {k k' : Nat} {c c' : Array Value} {t t' : TypeId}, w'.heap[k]? = some (.cells c t (0, 0)) → w'.heap[k']? = some (.cells c' t' (0, 0)) → t ≠ t' → k ≠ k' := fun h1 h2 h3 e => by
    rw [e, h2] at h1
    injection h1 with h1
    injection h1 with _ h1 _
    exact h3 h1.symm
  refine ⟨fun e => ownsRow_neb h.row h.ef (by decide) (by rw [e]; rfl), fun e => ownsRow_neb h.row h.eq (by decide) (by rw [e]; rfl), fun e => ownsRow_neb h.row h.eb (by decide) (by rw [e]; rfl), tne h.eb h.ef (by decide), tne h.eb h.eq (by decide)⟩
theorem Lr.sto (h : Lr S w F q g o b len cap pk xs a0 a1 a2 a3 q0 q1 q2 q3 x1 x2 x3 w') {k j : Nat} (hk : S k) : FrS S w (w'.setCell ⟨k, j, none⟩ v) :=
  h.fr.trans (((OnlyB.refl k w').setCell j v).fr hk)
/-- A store into the answer. -/
theorem Lr.sf (h : Lr S w F q g o b len cap pk xs a0 a1 a2 a3 q0 q1 q2 q3 x1 x2 x3 w') (j : Nat) {A : Array Value} (hA : #[a0, a1, a2, a3].setIfInBounds j v = A) : FrS S w (w'.setCell ⟨F + 1, j, none⟩ v) ∧ (w'.setCell ⟨F + 1, j, none⟩ v).heap[F]? = some pk ∧ (w'.setCell ⟨F + 1, j, none⟩ v).heap[F + 1]? = some (.cells A 40 (0, 0)) ∧ (w'.setCell ⟨F + 1, j, none⟩ v).heap[q]? = some (.cells #[q0, q1, q2, q3] 40 (0, 0)) ∧
    (w'.setCell ⟨F + 1, j, none⟩ v).heap[b]? = some (.cells #[.slice (some ⟨g, 0, none⟩) len cap] 35 (0, 0)) ∧ (w'.setCell ⟨F + 1, j, none⟩ v).ownsRow 0 74 4 (.slice (some ⟨g, 0, none⟩) len cap) len (put3 xs o x1 x2 x3) := by
  obtain ⟨n1, n2, n3, n4, n5⟩ := h.gne
  have hof := (OnlyB.refl (F + 1) w').setCell j v
  have hl := h.hFq
  refine ⟨h.sto (h.hS _ (by have := h.hF; omega)), (hof.rest F (by omega)).trans h.pk, ?_, (hof.rest q (by omega)).trans h.eq, (hof.rest b n4).trans h.eb, ownsRow_keep h.row fun k hk => hof.rest k fun e => n1 (by injection hk with hk; rw [← e]; exact hk)⟩
  rw [← hA]; exact set_at h.ef
theorem Lr.f0 (h : Lr S w F q g o b len cap pk xs a0 a1 a2 a3 q0 q1 q2 q3 x1 x2 x3 w') : Lr S w F q g o b len cap pk xs v a1 a2 a3 q0 q1 q2 q3 x1 x2 x3 (w'.setCell ⟨F + 1, 0, none⟩ v) := by
  obtain ⟨h1, h2, h3, h4, h5, h6⟩ := h.sf (v := v) 0 rfl
  exact ⟨h1, h.hS, h.hF, h.hFq, h2, h3, h4, h5, h6, h.Sg, h.gF, h.bF⟩
theorem Lr.f1 (h : Lr S w F q g o b len cap pk xs a0 a1 a2 a3 q0 q1 q2 q3 x1 x2 x3 w') : Lr S w F q g o b len cap pk xs a0 v a2 a3 q0 q1 q2 q3 x1 x2 x3 (w'.setCell ⟨F + 1, 1, none⟩ v) := by
  obtain ⟨h1, h2, h3, h4, h5, h6⟩ := h.sf (v := v) 1 rfl
  exact ⟨h1, h.hS, h.hF, h.hFq, h2, h3, h4, h5, h6, h.Sg, h.gF, h.bF⟩
theorem Lr.f2 (h : Lr S w F q g o b len cap pk xs a0 a1 a2 a3 q0 q1 q2 q3 x1 x2 x3 w') : Lr S w F q g o b len cap pk xs a0 a1 v a3 q0 q1 q2 q3 x1 x2 x3 (w'.setCell ⟨F + 1, 2, none⟩ v) := by
  obtain ⟨h1, h2, h3, h4, h5, h6⟩ := h.sf (v := v) 2 rfl
  exact ⟨h1, h.hS, h.hF, h.hFq, h2, h3, h4, h5, h6, h.Sg, h.gF, h.bF⟩
theorem Lr.f3 (h : Lr S w F q g o b len cap pk xs a0 a1 a2 a3 q0 q1 q2 q3 x1 x2 x3 w') : Lr S w F q g o b len cap pk xs a0 a1 a2 v q0 q1 q2 q3 x1 x2 x3 (w'.setCell ⟨F + 1, 3, none⟩ v) := by
  obtain ⟨h1, h2, h3, h4, h5, h6⟩ := h.sf (v := v) 3 rfl
  exact ⟨h1, h.hS, h.hF, h.hFq, h2, h3, h4, h5, h6, h.Sg, h.gF, h.bF⟩
/-- A store into the piece. -/
theorem Lr.sq (h : Lr S w F q g o b len cap pk xs a0 a1 a2 a3 q0 q1 q2 q3 x1 x2 x3 w') (j : Nat) {A : Array Value} (hA : #[q0, q1, q2, q3].setIfInBounds j v = A) : FrS S w (w'.setCell ⟨q, j, none⟩ v) ∧ (w'.setCell ⟨q, j, none⟩ v).heap[F]? = some pk ∧ (w'.setCell ⟨q, j, none⟩ v).heap[F + 1]? = some (.cells #[a0, a1, a2, a3] 40 (0, 0)) ∧ (w'.setCell ⟨q, j, none⟩ v).heap[q]? = some (.cells A 40 (0, 0)) ∧
    (w'.setCell ⟨q, j, none⟩ v).heap[b]? = some (.cells #[.slice (some ⟨g, 0, none⟩) len cap] 35 (0, 0)) ∧ (w'.setCell ⟨q, j, none⟩ v).ownsRow 0 74 4 (.slice (some ⟨g, 0, none⟩) len cap) len (put3 xs o x1 x2 x3) := by
  obtain ⟨n1, n2, n3, n4, n5⟩ := h.gne
  have hof := (OnlyB.refl q w').setCell j v
  have hl := h.hFq
  refine ⟨h.sto (h.hS _ (by have := h.hF; omega)), (hof.rest F (by omega)).trans h.pk, (hof.rest (F + 1) (by omega)).trans h.ef, ?_, (hof.rest b n5).trans h.eb, ownsRow_keep h.row fun k hk => hof.rest k fun e => n2 (by injection hk with hk; rw [← e]; exact hk)⟩
  rw [← hA]; exact set_at h.eq
theorem Lr.p0 (h : Lr S w F q g o b len cap pk xs a0 a1 a2 a3 q0 q1 q2 q3 x1 x2 x3 w') : Lr S w F q g o b len cap pk xs a0 a1 a2 a3 v q1 q2 q3 x1 x2 x3 (w'.setCell ⟨q, 0, none⟩ v) := by
  obtain ⟨h1, h2, h3, h4, h5, h6⟩ := h.sq (v := v) 0 rfl
  exact ⟨h1, h.hS, h.hF, h.hFq, h2, h3, h4, h5, h6, h.Sg, h.gF, h.bF⟩
theorem Lr.p1 (h : Lr S w F q g o b len cap pk xs a0 a1 a2 a3 q0 q1 q2 q3 x1 x2 x3 w') : Lr S w F q g o b len cap pk xs a0 a1 a2 a3 q0 v q2 q3 x1 x2 x3 (w'.setCell ⟨q, 1, none⟩ v) := by
  obtain ⟨h1, h2, h3, h4, h5, h6⟩ := h.sq (v := v) 1 rfl
  exact ⟨h1, h.hS, h.hF, h.hFq, h2, h3, h4, h5, h6, h.Sg, h.gF, h.bF⟩
theorem Lr.p2 (h : Lr S w F q g o b len cap pk xs a0 a1 a2 a3 q0 q1 q2 q3 x1 x2 x3 w') : Lr S w F q g o b len cap pk xs a0 a1 a2 a3 q0 q1 v q3 x1 x2 x3 (w'.setCell ⟨q, 2, none⟩ v) := by
  obtain ⟨h1, h2, h3, h4, h5, h6⟩ := h.sq (v := v) 2 rfl
  exact ⟨h1, h.hS, h.hF, h.hFq, h2, h3, h4, h5, h6, h.Sg, h.gF, h.bF⟩
theorem Lr.p3 (h : Lr S w F q g o b len cap pk xs a0 a1 a2 a3 q0 q1 q2 q3 x1 x2 x3 w') : Lr S w F q g o b len cap pk xs a0 a1 a2 a3 q0 q1 q2 v x1 x2 x3 (w'.setCell ⟨q, 3, none⟩ v) := by
  obtain ⟨h1, h2, h3, h4, h5, h6⟩ := h.sq (v := v) 3 rfl
  exact ⟨h1, h.hS, h.hF, h.hFq, h2, h3, h4, h5, h6, h.Sg, h.gF, h.bF⟩
/-- A store into the entry. -/
theorem Lr.sr (h : Lr S w F q g o b len cap pk xs a0 a1 a2 a3 q0 q1 q2 q3 x1 x2 x3 w') (j : Nat) {ys : List Value} (hA : (put3 xs o x1 x2 x3).set j v = ys) : FrS S w (w'.setCell ⟨g, j, none⟩ v) ∧ (w'.setCell ⟨g, j, none⟩ v).heap[F]? = some pk ∧ (w'.setCell ⟨g, j, none⟩ v).heap[F + 1]? = some (.cells #[a0, a1, a2, a3] 40 (0, 0)) ∧ (w'.setCell ⟨g, j, none⟩ v).heap[q]? = some (.cells #[q0, q1, q2, q3] 40 (0, 0)) ∧
    (w'.setCell ⟨g, j, none⟩ v).heap[b]? = some (.cells #[.slice (some ⟨g, 0, none⟩) len cap] 35 (0, 0)) ∧ (w'.setCell ⟨g, j, none⟩ v).ownsRow 0 74 4 (.slice (some ⟨g, 0, none⟩) len cap) len ys := by
  obtain ⟨n1, n2, n3, n4, n5⟩ := h.gne
  have hof := (OnlyB.refl g w').setCell j v
  refine ⟨h.sto h.Sg, (hof.rest F (fun e => h.gF e.symm)).trans h.pk, (hof.rest (F + 1) (fun e => n1 e.symm)).trans h.ef, (hof.rest q (fun e => n2 e.symm)).trans h.eq, (hof.rest b (fun e => n3 e.symm)).trans h.eb, ?_⟩
  rw [← hA]; exact (h.row.stored j v).1
theorem Lr.r1 (h : Lr S w F q g o b len cap pk xs a0 a1 a2 a3 q0 q1 q2 q3 x1 x2 x3 w') : Lr S w F q g o b len cap pk xs a0 a1 a2 a3 q0 q1 q2 q3 v x2 x3 (w'.setCell ⟨g, o + 1, none⟩ v) := by
  obtain ⟨h1, h2, h3, h4, h5, h6⟩ := h.sr (v := v) (o + 1) (put3_1 ..)
  exact ⟨h1, h.hS, h.hF, h.hFq, h2, h3, h4, h5, h6, h.Sg, h.gF, h.bF⟩
theorem Lr.r2 (h : Lr S w F q g o b len cap pk xs a0 a1 a2 a3 q0 q1 q2 q3 x1 x2 x3 w') : Lr S w F q g o b len cap pk xs a0 a1 a2 a3 q0 q1 q2 q3 x1 v x3 (w'.setCell ⟨g, o + 2, none⟩ v) := by
  obtain ⟨h1, h2, h3, h4, h5, h6⟩ := h.sr (v := v) (o + 2) (put3_2 ..)
  exact ⟨h1, h.hS, h.hF, h.hFq, h2, h3, h4, h5, h6, h.Sg, h.gF, h.bF⟩
theorem Lr.r3 (h : Lr S w F q g o b len cap pk xs a0 a1 a2 a3 q0 q1 q2 q3 x1 x2 x3 w') : Lr S w F q g o b len cap pk xs a0 a1 a2 a3 q0 q1 q2 q3 x1 x2 v (w'.setCell ⟨g, o + 3, none⟩ v) := by
  obtain ⟨h1, h2, h3, h4, h5, h6⟩ := h.sr (v := v) (o + 3) (put3_3 ..)
  exact ⟨h1, h.hS, h.hF, h.hFq, h2, h3, h4, h5, h6, h.Sg, h.gF, h.bF⟩
/-- What is read and written. -/
theorem Lr.cells {o : Nat} (h : Lr S w F q g o b len cap (.cells #[k0, k1, k2, k3, k4] 23 (0, 0)) xs a0 a1 a2 a3 q0 q1 q2 q3 x1 x2 x3 w') (ho : o + 3 < len * 4) :
    w'.cell? ⟨F, 0, none⟩ = some k0 ∧ w'.cell? ⟨F, 1, none⟩ = some k1 ∧ w'.cell? ⟨F, 2, none⟩ = some k2 ∧ w'.cell? ⟨F, 3, none⟩ = some k3 ∧ w'.cell? ⟨F, 4, none⟩ = some k4 ∧
    w'.cell? ⟨F + 1, 0, none⟩ = some a0 ∧ w'.cell? ⟨F + 1, 1, none⟩ = some a1 ∧ w'.cell? ⟨F + 1, 2, none⟩ = some a2 ∧ w'.cell? ⟨F + 1, 3, none⟩ = some a3 ∧
    w'.cell? ⟨q, 0, none⟩ = some q0 ∧ w'.cell? ⟨q, 1, none⟩ = some q1 ∧ w'.cell? ⟨q, 2, none⟩ = some q2 ∧ w'.cell? ⟨q, 3, none⟩ = some q3 ∧
    w'.cell? ⟨g, o + 1, none⟩ = some x1 ∧ w'.cell? ⟨g, o + 2, none⟩ = some x2 ∧ w'.cell? ⟨g, o + 3, none⟩ = some x3 := by
  have hl : xs.length = len * 4 := by
    have := h.row.1
    unfold put3 at this
    rw [List.length_set, List.length_set, List.length_set] at this
    exact this
  refine ⟨cell_of h.pk, cell_of h.pk, cell_of h.pk, cell_of h.pk, cell_of h.pk, cell_of h.ef, cell_of h.ef, cell_of h.ef, cell_of h.ef, cell_of h.eq, cell_of h.eq, cell_of h.eq, cell_of h.eq, ?_, ?_, ?_⟩
  · rw [h.row.cellAt (o + 1) (by omega)]
    unfold put3
    rw [List.getElem?_set_ne (by omega), List.getElem?_set_ne (by omega), List.getElem?_set_self (by omega)]
  · rw [h.row.cellAt (o + 2) (by omega)]
    unfold put3
    rw [List.getElem?_set_ne (by omega), List.getElem?_set_self (by rw [List.length_set]; omega)]
  · rw [h.row.cellAt (o + 3) (by omega)]
    unfold put3
    rw [List.getElem?_set_self (by rw [List.length_set, List.length_set]; omega)]
theorem Lr.fz (h : Lr S w F q g o b len cap pk xs a0 a1 a2 a3 q0 q1 q2 q3 x1 x2 x3 w') : (∀ j, w'.frozen? ⟨F + 1, j, none⟩ = false) ∧ (∀ j, w'.frozen? ⟨q, j, none⟩ = false) ∧ (∀ j, w'.frozen? ⟨g, j, none⟩ = false) := ⟨fz_of h.ef, fz_of h.eq, fun j => h.row.frozenAt j⟩
/-- The blocks from n up to m are left out of S. -/
def ShR (S : Nat → Prop) (n m : Nat) : Nat → Prop := fun k => (S k ∧ k < n) ∨ m ≤ k
variable {L : List Rn} {i : Nat} {x : Rn} {W2 W3 : World}
theorem RAt.shrink (h : RAt S b L w) (hb : Below w.heap.size w w') : RAt (ShR S w.heap.size w'.heap.size) b L w' := by
  obtain ⟨v, h⟩ := h
  have h1 := h.below hb
  exact ⟨v, fun k hk => .inr hk, h1.cell, .inl ⟨h.hb, h.lt⟩, h1.row, fun g hg => .inl ⟨h.rs g hg, (h.row.lt g hg).2⟩, h.bd⟩
theorem Lr.start {ao : Option Addr} {n : Nat} (h : RC (ShR S w.heap.size W2.heap.size) b (.slice ao n cap) L W3) (hS : ∀ k, w.heap.size ≤ k → S k) (fr0 : Below w.heap.size w W2) (fr : FrS (ShR S w.heap.size W2.heap.size) W2 W3)
    (hF : W2.heap[w.heap.size]? = some pk) (hF1 : W2.heap[w.heap.size + 1]? = some (.cells #[a0, a1, a2, a3] 40 (0, 0))) (hx : L[i]? = some x) :
    ∃ g, ao = some ⟨g, 0, none⟩ ∧ n = L.length ∧ Lr S w w.heap.size W3.heap.size g (i * 4) b L.length cap pk (flR L) a0 a1 a2 a3 q0 q1 q2 q3 (.int .i64 ((x.next : Nat) : Int)) (.bool x.opn) (.string x.txt) (W3.alloc (.cells #[q0, q1, q2, q3] 40)) := by
  have hil := (List.getElem?_eq_some_iff.1 hx).1
  have hn : n = L.length := by
    rcases h.row.2 with ⟨e, e2⟩ | ⟨g, c2, cur, e, _⟩
    · injection e with _ e _; rw [e, e2]
    · injection e
  obtain ⟨_, g, rfl⟩ := ownsRow_base h.row (by omega)
  have s1 : w.heap.size + 1 < W2.heap.size := (Array.getElem?_eq_some_iff.1 hF1).1
  have s2 := fr.size
  have lift : ∀ k, ShR S w.heap.size W2.heap.size k → S k := fun k hk => by
    rcases hk with hk | hk
    · exact hk.1
    · exact hS k (by omega)
  have out : ∀ k, w.heap.size ≤ k → k < W2.heap.size → ¬ ShR S w.heap.size W2.heap.size k := fun k h1 h2 hk => by
    rcases hk with hk | hk
    · omega
    · omega
  have hg := h.rs g rfl
  have b3 := (Below.refl W3.heap.size W3).alloc (Nat.le_refl _) (.cells #[q0, q1, q2, q3] 40)
  have h4 := h.below b3
  have k1 := (fr.block w.heap.size (out _ (Nat.le_refl _) (by omega))).trans hF
  have k2 := (fr.block (w.heap.size + 1) (out _ (by omega) (by omega))).trans hF1
  have fr3 : FrS S w W3 := (fr_of fr0 hS).trans (fr.mono lift)
  refine ⟨g, rfl, hn, fr3.alloc (up_S hS fr3.size) _, hS, Nat.le_refl _, by omega, (b3.block _ (by omega)).trans k1, (b3.block _ (by omega)).trans k2, heap_alloc_new W3 _, ?_, ?_, lift g hg, ?_, ?_⟩
  · rw [← hn]; exact h4.cell
  · rw [put3_at hx, ← hn]
    have := h4.row
    rw [← hn] at this
    exact this
  · intro e
    rw [e] at hg
    exact out _ (Nat.le_refl _) (by omega) hg
  · intro e
    have := h.hb
    rw [e] at this
    exact out _ (Nat.le_refl _) (by omega) this
theorem Lr.fin {x' : Rn} (h : Lr S w F q g (i * 4) b L.length cap pk (flR L) a0 a1 a2 a3 q0 q1 q2 q3 (.int .i64 ((x'.next : Nat) : Int)) (.bool x'.opn) (.string x'.txt) w') (hx : L[i]? = some x) (hb : S b) (ha : x'.ap = x.ap)
    (bd : ∀ (j : Nat) (y : Rn), L[j]? = some y → y.ap < 2047 ∧ y.next < 16384 ∧ (y.opn = true → y.txt.size ≤ 16384)) (b1 : x'.next < 16384) (b2 : x'.opn = true → x'.txt.size ≤ 16384) : RAt S b (L.set i x') w' ∧ FrS S w w' := by
  refine ⟨⟨.slice (some ⟨g, 0, none⟩) L.length cap, fun k hk => h.hS k (Nat.le_trans h.fr.size hk), h.eb, hb, ?_, fun k hk => (by injection hk with hk; rw [← hk]; exact h.Sg), fun j y hj => ?_⟩, h.fr⟩
  · have e := h.row
    unfold put3 at e
    rw [flR_set hx ha] at e
    rw [List.length_set]; exact e
  · rw [List.getElem?_set] at hj
    split at hj
    · split at hj
      · injection hj with hj
        subst hj
        exact ⟨by rw [ha]; exact (bd i x hx).1, b1, b2⟩
      · cases hj
    · exact bd j y hj
end Go.Am.Joi
