/-
  Tmframe: both fillers side by side beside held blocks, and what each call makes of them. Own work.
-/
import Derived.Test.YtkhlicfnfiopnaaTmfQ8
import Derived.Test.YtkhlicfnfiopnaaTmfQ5
namespace Go.Am.Tmf
open Go Go.Am Go.Am.Lib Go.Lib Go.Proofs Go.RowKit
open Go.Am.Own
set_option maxRecDepth 100000

/-- Two fillers side by side; the blocks H are held: they are as they were in W. -/
structure Fl (H : Nat → Prop) (W : World) (b1 b2 : Nat) (x : FS) (y : RS) (w : World) : Prop where
  ex : ∃ S1 S2 : Nat → Prop, FAt S1 b1 x w ∧ RAt S2 b2 y w ∧ (∀ k, k < w.heap.size → S1 k → ¬ S2 k) ∧ (∀ k, k < w.heap.size → S1 k → ¬ H k) ∧ (∀ k, k < w.heap.size → S2 k → ¬ H k)
  os : w.os = W.os
  tape : w.tape = W.tape
  output : w.output = W.output
  size : W.heap.size ≤ w.heap.size
  block : ∀ k, H k → w.heap[k]? = W.heap[k]?
  lt : ∀ k, H k → k < w.heap.size
theorem FAt.sameHeap {S : Nat → Prop} {b : Nat} {x : FS} {w w' : World} (h : FAt S b x w) (e : w'.heap = w.heap) : FAt S b x w' := by
  refine h.keep (Nat.le_of_eq (by rw [e])) fun k _ _ => by rw [e]
theorem RAt.keep {S : Nat → Prop} {b : Nat} {y : RS} {w w' : World} (h : RAt S b y w) (hs : w.heap.size ≤ w'.heap.size) (hk : ∀ k, S k → k < w.heap.size → w'.heap[k]? = w.heap[k]?) : RAt S b y w' := by
  obtain ⟨v, h⟩ := h; exact ⟨v, h.keep hs hk⟩
theorem Fl.same {H : Nat → Prop} {W : World} {b1 b2 : Nat} {x : FS} {y : RS} {w w' : World} (h : Fl H W b1 b2 x y w) (e1 : w'.os = w.os) (e2 : w'.tape = w.tape) (e3 : w'.output = w.output) (e : w'.heap = w.heap) : Fl H W b1 b2 x y w' := by
  obtain ⟨⟨S1, S2, h1, h2, h3, h4, h5⟩, a1, a2, a3, a4, a5, a6⟩ := h
  exact ⟨⟨S1, S2, h1.sameHeap e, h2.keep (Nat.le_of_eq (by rw [e])) fun k _ _ => by rw [e], by rw [e]; exact h3, by rw [e]; exact h4, by rw [e]; exact h5⟩, e1.trans a1, e2.trans a2, e3.trans a3, by rw [e]; exact a4, by rw [e]; exact a5, by rw [e]; exact a6⟩
theorem Fl.drew {H : Nat → Prop} {W : World} {b1 b2 : Nat} {x : FS} {y : RS} {w : World} (h : Fl H W b1 b2 x y w) : Fl H W b1 b2 x y w.drew := h.same rfl rfl rfl rfl
/-- A call that only makes memory. -/
theorem Fl.below {H : Nat → Prop} {W : World} {b1 b2 : Nat} {x : FS} {y : RS} {w w' : World} (h : Fl H W b1 b2 x y w) (hb : Below w.heap.size w w') : Fl H W b1 b2 x y w' := by
  obtain ⟨⟨S1, S2, h1, h2, h3, h4, h5⟩, a1, a2, a3, a4, a5, a6⟩ := h
  refine ⟨⟨_, _, h1.shrink (w' := w') fun k _ hk => hb.block k hk, h2.shrink (w' := w') fun k _ hk => hb.block k hk, fun k hk e1 e2 => ?_, fun k hk e1 => ?_, fun k hk e2 => ?_⟩, hb.os.trans a1, hb.tape.trans a2, hb.output.trans a3, Nat.le_trans a4 hb.size, fun k hk => (hb.block k (a6 k hk)).trans (a5 k hk), fun k hk => Nat.lt_of_lt_of_le (a6 k hk) hb.size⟩
  · exact h3 k (e1.old hk).2 (e1.old hk).1 (e2.old hk).1
  · exact h4 k (e1.old hk).2 (e1.old hk).1
  · exact h5 k (e2.old hk).2 (e2.old hk).1
/-- What is made in the world at hand is held from here on. -/
theorem Fl.hold {H : Nat → Prop} {W : World} {b1 b2 : Nat} {x : FS} {y : RS} {w : World} (h : Fl H W b1 b2 x y w) (o : Obj) : Fl (fun k => H k ∨ k = w.heap.size) (w.alloc o) b1 b2 x y (w.alloc o) := by
  have hb := (Below.refl w.heap.size w).alloc (Nat.le_refl _) o
  obtain ⟨⟨S1, S2, h1, h2, h3, h4, h5⟩, _, _, _, _, _, a6⟩ := h
  have hsz : (w.alloc o).heap.size = w.heap.size + 1 := alloc_size w o
  refine ⟨⟨_, _, h1.shrink (w' := w.alloc o) fun k _ hk => hb.block k hk, h2.shrink (w' := w.alloc o) fun k _ hk => hb.block k hk, fun k hk e1 e2 => ?_, fun k hk e1 => ?_, fun k hk e2 => ?_⟩, rfl, rfl, rfl, Nat.le_refl _, fun _ _ => rfl, fun k hk => ?_⟩
  · exact h3 k (e1.old hk).2 (e1.old hk).1 (e2.old hk).1
  · obtain ⟨e3, e4⟩ := e1.old hk
    exact fun e5 => e5.elim (h4 k e4 e3) (by omega)
  · obtain ⟨e3, e4⟩ := e2.old hk
    exact fun e5 => e5.elim (h5 k e4 e3) (by omega)
  · rcases hk with hk | rfl
    · have := a6 k hk; omega
    · omega
/-- A store into a held block. -/
theorem Fl.set {H : Nat → Prop} {W : World} {b1 b2 : Nat} {x : FS} {y : RS} {w : World} (h : Fl H W b1 b2 x y w) {m : Nat} (hm : H m) (o : Nat) (v : Value) : Fl H (w.setCell ⟨m, o, none⟩ v) b1 b2 x y (w.setCell ⟨m, o, none⟩ v) := by
  have hof : OnlyB m w (w.setCell ⟨m, o, none⟩ v) := (OnlyB.refl m w).setCell o v
  obtain ⟨⟨S1, S2, h1, h2, h3, h4, h5⟩, _, _, _, _, _, a6⟩ := h
  refine ⟨⟨S1, S2, h1.keep (Nat.le_of_eq hof.size.symm) fun k hk hlt => hof.rest k fun e => h4 k hlt hk (e ▸ hm), h2.keep (Nat.le_of_eq hof.size.symm) fun k hk hlt => hof.rest k fun e => h5 k hlt hk (e ▸ hm), ?_, ?_, ?_⟩, rfl, rfl, rfl, Nat.le_refl _, fun _ _ => rfl, ?_⟩
  · rw [hof.size]; exact h3
  · rw [hof.size]; exact h4
  · rw [hof.size]; exact h5
  · rw [hof.size]; exact a6
theorem Fl.rest {H : Nat → Prop} {W W0 : World} {b1 b2 : Nat} {x : FS} {y : RS} {w : World} (h : Fl H W b1 b2 x y w) {H0 : Nat → Prop} (hH : ∀ k, H0 k → H k) (e1 : W.os = W0.os) (e2 : W.tape = W0.tape) (e3 : W.output = W0.output) (e4 : W0.heap.size ≤ W.heap.size) (e5 : ∀ k, H0 k → W.heap[k]? = W0.heap[k]?) : Fl H0 W0 b1 b2 x y w := by
  obtain ⟨⟨S1, S2, h1, h2, h3, h4, h5⟩, a1, a2, a3, a4, a5, a6⟩ := h
  exact ⟨⟨S1, S2, h1, h2, h3, fun k hk e hk2 => h4 k hk e (hH k hk2), fun k hk e hk2 => h5 k hk e (hH k hk2)⟩, a1.trans e1, a2.trans e2, a3.trans e3, Nat.le_trans e4 a4, fun k hk => (a5 k (hH k hk)).trans (e5 k hk), fun k hk => a6 k (hH k hk)⟩
/-- A round's held block is let go. -/
theorem Fl.back {H : Nat → Prop} {W0 wr : World} {b1 b2 : Nat} {x x' : FS} {y y' : RS} {w : World} {o : Obj} (hF : Fl H W0 b1 b2 x y wr) (h : Fl (fun k => H k ∨ k = wr.heap.size) (wr.alloc o) b1 b2 x' y' w) : Fl H W0 b1 b2 x' y' w := by
  have hb := (Below.refl wr.heap.size wr).alloc (Nat.le_refl _) o
  exact h.rest (fun k hk => .inl hk) hF.os hF.tape hF.output (Nat.le_trans hF.size hb.size) fun k hk => (hb.block k (hF.lt k hk)).trans (hF.block k hk)
theorem Fl.left {H : Nat → Prop} {W : World} {b1 b2 : Nat} {x x' : FS} {y : RS} {w : World} {f : FuncId} {args : Array Value} {E : Ending → Prop} (h : Fl H W b1 b2 x y w)
    (c : ∀ S, FAt S b1 x w → Calls Try.prog f args w fun e w' => E e ∧ FAt S b1 x' w' ∧ FrS S w w') : Calls Try.prog f args w fun e w' => E e ∧ Fl H W b1 b2 x' y w' := by
  obtain ⟨⟨S1, S2, h1, h2, dis, l1, l2⟩, a1, a2, a3, a4, a5, a6⟩ := h
  refine (c S1 h1).mono fun e w' ⟨he, h3, f3⟩ => ⟨he, ⟨S1, ShS S2 w.heap.size w'.heap.size, h3, h2.shrink (w' := w') fun k hk hlt => f3.block k fun e => dis k hlt e hk, fun k hk e1 e2 => ?_, fun k hk e1 => ?_, fun k hk e2 => l2 k (e2.old hk).2 (e2.old hk).1⟩, f3.os.trans a1, f3.tape.trans a2, f3.output.trans a3, Nat.le_trans a4 f3.size, fun k hk => (f3.block k fun e => l1 k (a6 k hk) e hk).trans (a5 k hk), fun k hk => Nat.lt_of_lt_of_le (a6 k hk) f3.size⟩
  · obtain ⟨e3, e4⟩ := e2.old hk
    exact dis k e4 e1 e3
  · intro hH
    exact l1 k (a6 k hH) e1 hH
theorem Fl.right {H : Nat → Prop} {W : World} {b1 b2 : Nat} {x : FS} {y y' : RS} {w : World} {f : FuncId} {args : Array Value} {E : Ending → Prop} (h : Fl H W b1 b2 x y w)
    (c : ∀ S, RAt S b2 y w → Calls Try.prog f args w fun e w' => E e ∧ RAt S b2 y' w' ∧ FrS S w w') : Calls Try.prog f args w fun e w' => E e ∧ Fl H W b1 b2 x y' w' := by
  obtain ⟨⟨S1, S2, h1, h2, dis, l1, l2⟩, a1, a2, a3, a4, a5, a6⟩ := h
  refine (c S2 h2).mono fun e w' ⟨he, h3, f3⟩ => ⟨he, ⟨ShS S1 w.heap.size w'.heap.size, S2, h1.shrink (w' := w') fun k hk hlt => f3.block k fun e => dis k hlt hk e, h3, fun k hk e1 e2 => ?_, fun k hk e1 => l1 k (e1.old hk).2 (e1.old hk).1, fun k hk e2 => ?_⟩, f3.os.trans a1, f3.tape.trans a2, f3.output.trans a3, Nat.le_trans a4 f3.size, fun k hk => (f3.block k fun e => l2 k (a6 k hk) e hk).trans (a5 k hk), fun k hk => Nat.lt_of_lt_of_le (a6 k hk) f3.size⟩
  · obtain ⟨e3, e4⟩ := e1.old hk
    exact dis k e4 e3 e2
  · intro hH
    exact l2 k (a6 k hH) e2 hH
/-- Both are new. -/
theorem Fl.first {B n : Nat} {W0 w1 w2 w3 : World} (hB : Below B W0 w1) (hB0 : B = W0.heap.size) (h1 : FAt (fun k => w1.heap.size ≤ k) w1.heap.size (fs0 n) w2) (c1 : Below w1.heap.size w1 w2) (h2 : RAt (fun k => w2.heap.size ≤ k) w2.heap.size (rs0 n) w3) (c2 : Below w2.heap.size w2 w3) : Fl (fun k => k < B) W0 w1.heap.size w2.heap.size (fs0 n) (rs0 n) w3 := by
  have s1 : B ≤ w1.heap.size := by rw [hB0]; exact hB.size
  have c3 := (hB.trans (c1.mono s1)).trans (c2.mono (Nat.le_trans s1 c1.size))
  refine ⟨⟨ShS (fun k => w1.heap.size ≤ k) w2.heap.size w3.heap.size, fun k => w2.heap.size ≤ k, h1.shrink (w' := w3) fun k hk hlt => c2.block k hlt, h2, fun k hk e1 e2 => ?_, fun k hk e1 e3 => ?_, fun k hk e1 e3 => ?_⟩, c3.os, c3.tape, c3.output, c3.size, fun k hk => c3.block k hk, fun k hk => ?_⟩
  · have := (e1.old hk).2; omega
  · have := (e1.old hk).1; omega
  · have := c1.size; omega
  · have := c3.size; omega
theorem Fl.toBelow {B : Nat} {W0 w : World} {b1 b2 : Nat} {x : FS} {y : RS} (h : Fl (fun k => k < B) W0 b1 b2 x y w) : Below B W0 w := { os := h.os, tape := h.tape, output := h.output, size := h.size, block := h.block }

/-! ### the calls -/
def nxS (x : FS) : ByteArray := if x.wait = 0 then ⟨#[]⟩ else ⟨⟨x.data idleL⟩⟩
def nxF (x : FS) : Int := if x.wait = 0 then 0 else ((x.first idleL : Nat) : Int)
def nxT (x : FS) : Bool := if x.wait = 0 then false else true
theorem nxE_eq (x : FS) : nxE (x.data idleL) (x.first idleL) x.wait = .tuple #[.string (nxS x), .int .i64 (nxF x), .bool (nxT x)] := by
  unfold nxE nxS nxF nxT
  split <;> rfl
def FS.ad (x : FS) (p : ByteArray) : FS := if addE x p = 0 then x.add p.data.toList else x
def RS.ad (y : RS) (p : ByteArray) : RS := if raddE y p = 0 then y.add p.data.toList else y
variable {H : Nat → Prop} {W : World} {b1 b2 N : Nat} {x x' : FS} {y : RS} {w : World}
theorem Rel.bnd (hr : Rel x y) (ho : OkF x N) : y.L.length ≤ N + 1 ∧ y.wait ≤ 2 ^ 30 := by
  have h1 := stOf_len1 y.L y.rest.length y.begun
  have h2 := ho.st
  rw [hr.st] at h2
  have hw := hr.wait
  have : x.wait ≤ 66000 := Nat.le_trans (Nat.sub_le _ _) ho.q
  omega
theorem fl_next (h : Fl H W b1 b2 x y w) (ho : OkF x N) : Calls Try.prog 20 #[.pointer (some ⟨b1, 0, none⟩)] w fun e w' => e = .returned (.tuple #[.string (nxS x), .int .i64 (nxF x), .bool (nxT x)]) ∧ Fl H W b1 b2 x.nx y w' :=
  h.left fun _ hS => by rw [← nxE_eq]; exact next_at hS ho
theorem fl_rnext (h : Fl H W b1 b2 x' y w) (hr : Rel x y) (ho : OkF x N) (hN : N + 1 ≤ 2 ^ 20) : Calls Try.prog 24 #[.pointer (some ⟨b2, 0, none⟩)] w fun e w' => e = .returned (.tuple #[.string (nxS x), .int .i64 (nxF x), .bool (nxT x)]) ∧ Fl H W b1 b2 x' y.nx w' :=
  h.right fun _ hS => by rw [← nxE_eq]; exact rnext_at hS hr ho hN
theorem fl_add (h : Fl H W b1 b2 x y w) (ho : OkF x N) (p : ByteArray) (hp : p.size ≤ 2 ^ 40) : Calls Try.prog 18 #[.pointer (some ⟨b1, 0, none⟩), .string p] w fun e w' => e = .returned (.int .i64 (addE x p)) ∧ Fl H W b1 b2 (x.ad p) y w' :=
  h.left fun _ hS => add_at hS ho p hp
theorem fl_radd (h : Fl H W b1 b2 x' y w) (hr : Rel x y) (ho : OkF x N) (hN : N + 1 ≤ 2 ^ 20) (p : ByteArray) (hp : p.size ≤ 2 ^ 40) : Calls Try.prog 27 #[.pointer (some ⟨b2, 0, none⟩), .string p] w fun e w' => e = .returned (.int .i64 (addE x p)) ∧ Fl H W b1 b2 x' (y.ad p) w' :=
  h.right fun _ hS => by rw [hr.addE]; exact radd_at hS (hr.bnd ho).1 hN (hr.bnd ho).2 p hp
theorem fl_clear (h : Fl H W b1 b2 x y w) (ho : OkF x N) : Calls Try.prog 25 #[.pointer (some ⟨b1, 0, none⟩)] w fun e w' => e = .returned (.tuple #[]) ∧ Fl H W b1 b2 (fs0 x.size) y w' :=
  h.left fun _ hS => clear_calls hS ho
theorem fl_rclear (h : Fl H W b1 b2 x' y w) : Calls Try.prog 26 #[.pointer (some ⟨b2, 0, none⟩)] w fun e w' => e = .returned (.tuple #[]) ∧ Fl H W b1 b2 x' (rs0 y.size) w' :=
  h.right fun _ ⟨_, hS⟩ => rclear_calls hS
theorem fl_wait (h : Fl H W b1 b2 x y w) (ho : OkF x N) : Calls Try.prog 19 #[.pointer (some ⟨b1, 0, none⟩)] w fun e w' => e = .returned (.int .i64 ((x.wait : Nat) : Int)) ∧ Fl H W b1 b2 x y w' :=
  h.left fun _ hS => (waits hS ho).mono fun _ _ ⟨h1, h2⟩ => ⟨h1, hS.below h2, fr_below hS h2⟩
theorem fl_rwait (h : Fl H W b1 b2 x y w) (hr : Rel x y) (ho : OkF x N) (hN : N + 1 ≤ 2 ^ 20) : Calls Try.prog 28 #[.pointer (some ⟨b2, 0, none⟩)] w fun e w' => e = .returned (.int .i64 ((x.wait : Nat) : Int)) ∧ Fl H W b1 b2 x y w' :=
  h.right fun _ hS => (rwaits hS (hr.bnd ho).1 hN (hr.bnd ho).2).mono fun _ _ ⟨h1, h2⟩ => ⟨by rw [hr.wait]; exact h1, by rw [← h2]; exact hS, by rw [← h2]; exact FrS.refl _ _⟩
theorem Rel.ad (h : Rel x y) (p : ByteArray) : Rel (x.ad p) (y.ad p) := h.added p
theorem OkF.ad (h : OkF x N) (hr : Rel x y) (p : ByteArray) (hN : N + 1 ≤ 2 ^ 20) : OkF (x.ad p) (N + 1) := h.added hr p hN
theorem Rel.clr (h : Rel x y) : Rel (fs0 x.size) (rs0 y.size) := by rw [← h.size]; exact Rel.zero h.lo h.hi
theorem OkF.clr (h : OkF x N) (hN : N + 1 ≤ 2 ^ 20) : OkF (fs0 x.size) (N + 1) := (OkF.zero h.lo h.hi).up (Nat.zero_le _) hN
end Go.Am.Tmf
