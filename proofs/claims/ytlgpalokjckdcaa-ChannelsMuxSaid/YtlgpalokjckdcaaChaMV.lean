/-
  Channels: both muxes. Own work.
-/
import Derived.Test.YtlgpalokjckdcaaChaMW
import Derived.Test.YtlgpalokjckdcaaChaSX
namespace Go.Am.Cha
open Go Go.Am Go.Am.Lib Go.Lib Go.Proofs Go.RowKit
open Go.Am.Own
open Go.Am.Tmf (FS FAt RS RAt RC OkF idleL Rel rs0 fs0 putT putTE)
set_option maxRecDepth 100000

/-- Two muxes side by side; the blocks H are held: they are as they were in W. -/
structure Fm (H : Nat → Prop) (W : World) (mb g cap : Nat) (bk : Nat → Nat) (rb : Nat) (rk : Nat → Nat) (M R : MS) (ys : Nat → RS) (w : World) : Prop where
 ex : ∃ S1 S2 : Nat → Prop, MC S1 mb g cap bk M w ∧ RM S2 rb rk R ys w ∧ (∀ k, k < w.heap.size → S1 k → ¬ S2 k) ∧ (∀ k, k < w.heap.size → S1 k → ¬ H k) ∧ (∀ k, k < w.heap.size → S2 k → ¬ H k)
 os : w.os = W.os
 tape : w.tape = W.tape
 output : w.output = W.output
 size : W.heap.size ≤ w.heap.size
 block : ∀ k, H k → w.heap[k]? = W.heap[k]?
 lt : ∀ k, H k → k < w.heap.size
variable {H : Nat → Prop} {W w w' : World} {S : Nat → Prop} {mb g cap rb N : Nat} {bk rk : Nat → Nat} {M M' R R' : MS} {ys ys' : Nat → RS}
theorem MC.shrink (h : MC S mb g cap bk M w) (hk : ∀ k, S k → k < w.heap.size → w'.heap[k]? = w.heap[k]?) : MC (ShS S w.heap.size w'.heap.size) mb g cap bk M w' :=
 h.keep hk (fun _ hk => .inr hk) fun _ hk hs => .inl ⟨hs, hk⟩
theorem RM.shrink (h : RM S rb rk R ys w) (hk : ∀ k, S k → k < w.heap.size → w'.heap[k]? = w.heap[k]?) : RM (ShS S w.heap.size w'.heap.size) rb rk R ys w' :=
 h.keep hk (fun _ hk => .inr hk) fun _ hk hs => .inl ⟨hs, hk⟩
theorem Fm.same (h : Fm H W mb g cap bk rb rk M R ys w) (e1 : w'.os = w.os) (e2 : w'.tape = w.tape) (e3 : w'.output = w.output) (e : w'.heap = w.heap) : Fm H W mb g cap bk rb rk M R ys w' := by
 obtain ⟨⟨S1, S2, h1, h2, h3, h4, h5⟩, a1, a2, a3, a4, a5, a6⟩ := h
 exact ⟨⟨S1, S2, h1.keep (fun k _ _ => by rw [e]) (fun k hk => h1.hS k (by rw [e] at hk; exact hk)) fun _ _ hs => hs, h2.keep (fun k _ _ => by rw [e]) (fun k hk => h2.hS k (by rw [e] at hk; exact hk)) fun _ _ hs => hs, by rw [e]; exact h3, by rw [e]; exact h4, by rw [e]; exact h5⟩, e1.trans a1, e2.trans a2, e3.trans a3, by rw [e]; exact a4, by rw [e]; exact a5, by rw [e]; exact a6⟩
/-- A call that only makes memory. -/
theorem Fm.below (h : Fm H W mb g cap bk rb rk M R ys w) (hb : Below w.heap.size w w') : Fm H W mb g cap bk rb rk M R ys w' := by
 obtain ⟨⟨S1, S2, h1, h2, h3, h4, h5⟩, a1, a2, a3, a4, a5, a6⟩ := h
 refine ⟨⟨_, _, h1.shrink (w' := w') fun k _ hk => hb.block k hk, h2.shrink (w' := w') fun k _ hk => hb.block k hk, fun k hk e1 e2 => ?_, fun k hk e1 => ?_, fun k hk e2 => ?_⟩, hb.os.trans a1, hb.tape.trans a2, hb.output.trans a3, Nat.le_trans a4 hb.size, fun k hk => (hb.block k (a6 k hk)).trans (a5 k hk), fun k hk => Nat.lt_of_lt_of_le (a6 k hk) hb.size⟩
 · exact h3 k (e1.old hk).2 (e1.old hk).1 (e2.old hk).1
 · exact h4 k (e1.old hk).2 (e1.old hk).1
 · exact h5 k (e2.old hk).2 (e2.old hk).1
/-- What is made in the world at hand is held from here on. -/
theorem Fm.hold (h : Fm H W mb g cap bk rb rk M R ys w) (o : Obj) : Fm (fun k => H k ∨ k = w.heap.size) (w.alloc o) mb g cap bk rb rk M R ys (w.alloc o) := by
 have hb := (Below.refl w.heap.size w).alloc (Nat.le_refl _) o
 obtain ⟨⟨S1, S2, h1, h2, h3, h4, h5⟩, _, _, _, _, _, a6⟩ := h
 have hsz : (w.alloc o).heap.size = w.heap.size + 1 := alloc_size w o
 refine ⟨⟨_, _, h1.shrink (w' := w.alloc o) fun k _ hk => hb.block k hk, h2.shrink (w' := w.alloc o) fun k _ hk => hb.block k hk, fun k hk e1 e2 => ?_, fun k hk e1 => ?_, fun k hk e2 => ?_⟩, rfl, rfl, rfl, Nat.le_refl _, fun _ _ => rfl, fun k hk => ?_⟩
 · exact h3 k (e1.old hk).2 (e1.old hk).1 (e2.old hk).1
 · obtain ⟨e3, e4⟩ := e1.old hk
   exact fun e5 => e5.elim (h4 k e4 e3) (by omega)
 · obtain ⟨e3, e4⟩ := e2.old hk
   exact fun e5 => e5.elim (h5 k e4 e3) (by omega)
 · rcases hk with hk | rfl
   · have := a6 k hk; omega
   · omega
theorem Fm.rest {W0 : World} (h : Fm H W mb g cap bk rb rk M R ys w) {H0 : Nat → Prop} (hH : ∀ k, H0 k → H k) (e1 : W.os = W0.os) (e2 : W.tape = W0.tape) (e3 : W.output = W0.output) (e4 : W0.heap.size ≤ W.heap.size) (e5 : ∀ k, H0 k → W.heap[k]? = W0.heap[k]?) : Fm H0 W0 mb g cap bk rb rk M R ys w := by
 obtain ⟨⟨S1, S2, h1, h2, h3, h4, h5⟩, a1, a2, a3, a4, a5, a6⟩ := h
 exact ⟨⟨S1, S2, h1, h2, h3, fun k hk e hk2 => h4 k hk e (hH k hk2), fun k hk e hk2 => h5 k hk e (hH k hk2)⟩, a1.trans e1, a2.trans e2, a3.trans e3, Nat.le_trans e4 a4, fun k hk => (a5 k (hH k hk)).trans (e5 k hk), fun k hk => a6 k (hH k hk)⟩
/-- A round's held block is let go. -/
theorem Fm.back {W0 wr : World} {o : Obj} (hF : Fm H W0 mb g cap bk rb rk M R ys wr) (h : Fm (fun k => H k ∨ k = wr.heap.size) (wr.alloc o) mb g cap bk rb rk M' R' ys' w) : Fm H W0 mb g cap bk rb rk M' R' ys' w := by
 have hb := (Below.refl wr.heap.size wr).alloc (Nat.le_refl _) o
 exact h.rest (fun k hk => .inl hk) hF.os hF.tape hF.output (Nat.le_trans hF.size hb.size) fun k hk => (hb.block k (hF.lt k hk)).trans (hF.block k hk)
theorem Fm.left {f : FuncId} {args : Array Value} {E : Ending → Prop} (h : Fm H W mb g cap bk rb rk M R ys w)
 (c : ∀ S, MC S mb g cap bk M w → Calls Try.prog f args w fun e w' => E e ∧ MC S mb g cap bk M' w' ∧ FrS S w w') : Calls Try.prog f args w fun e w' => E e ∧ Fm H W mb g cap bk rb rk M' R ys w' := by
 obtain ⟨⟨S1, S2, h1, h2, dis, l1, l2⟩, a1, a2, a3, a4, a5, a6⟩ := h
 refine (c S1 h1).mono fun e w' ⟨he, h3, f3⟩ => ⟨he, ⟨S1, ShS S2 w.heap.size w'.heap.size, h3, h2.shrink (w' := w') fun k hk hlt => f3.block k fun e => dis k hlt e hk, fun k hk e1 e2 => ?_, fun k hk e1 => ?_, fun k hk e2 => l2 k (e2.old hk).2 (e2.old hk).1⟩, f3.os.trans a1, f3.tape.trans a2, f3.output.trans a3, Nat.le_trans a4 f3.size, fun k hk => (f3.block k fun e => l1 k (a6 k hk) e hk).trans (a5 k hk), fun k hk => Nat.lt_of_lt_of_le (a6 k hk) f3.size⟩
 · obtain ⟨e3, e4⟩ := e2.old hk
   exact dis k e4 e1 e3
 · intro hH
   exact l1 k (a6 k hH) e1 hH
theorem Fm.right {f : FuncId} {args : Array Value} {E : Ending → Prop} (h : Fm H W mb g cap bk rb rk M R ys w)
 (c : ∀ S, RM S rb rk R ys w → Calls Try.prog f args w fun e w' => E e ∧ RM S rb rk R' ys' w' ∧ FrS S w w') : Calls Try.prog f args w fun e w' => E e ∧ Fm H W mb g cap bk rb rk M R' ys' w' := by
 obtain ⟨⟨S1, S2, h1, h2, dis, l1, l2⟩, a1, a2, a3, a4, a5, a6⟩ := h
 refine (c S2 h2).mono fun e w' ⟨he, h3, f3⟩ => ⟨he, ⟨ShS S1 w.heap.size w'.heap.size, S2, h1.shrink (w' := w') fun k hk hlt => f3.block k fun e => dis k hlt hk e, h3, fun k hk e1 e2 => ?_, fun k hk e1 => l1 k (e1.old hk).2 (e1.old hk).1, fun k hk e2 => ?_⟩, f3.os.trans a1, f3.tape.trans a2, f3.output.trans a3, Nat.le_trans a4 f3.size, fun k hk => (f3.block k fun e => l2 k (a6 k hk) e hk).trans (a5 k hk), fun k hk => Nat.lt_of_lt_of_le (a6 k hk) f3.size⟩
 · obtain ⟨e3, e4⟩ := e1.old hk
   exact dis k e4 e3 e2
 · intro hH
   exact l2 k (a6 k hH) e2 hH
/-- Both are new. -/
theorem Fm.first {B : Nat} {W0 w1 w2 w3 : World} (hB : Below B W0 w1) (hB0 : B = W0.heap.size) (h1 : MC (fun k => w1.heap.size ≤ k) mb g cap bk M w2) (c1 : Below w1.heap.size w1 w2) (h2 : RM (fun k => w2.heap.size ≤ k) rb rk R ys w3) (c2 : Below w2.heap.size w2 w3) : Fm (fun k => k < B) W0 mb g cap bk rb rk M R ys w3 := by
 have s1 : B ≤ w1.heap.size := by rw [hB0]; exact hB.size
 have c3 := (hB.trans (c1.mono s1)).trans (c2.mono (Nat.le_trans s1 c1.size))
 refine ⟨⟨ShS (fun k => w1.heap.size ≤ k) w2.heap.size w3.heap.size, fun k => w2.heap.size ≤ k, h1.shrink (w' := w3) fun k hk hlt => c2.block k hlt, h2, fun k hk e1 e2 => ?_, fun k hk e1 e3 => ?_, fun k hk e1 e3 => ?_⟩, c3.os, c3.tape, c3.output, c3.size, fun k hk => c3.block k hk, fun k hk => ?_⟩
 · have := (e1.old hk).2; omega
 · have := (e1.old hk).1; omega
 · have := c1.size; omega
 · have := c3.size; omega
theorem Fm.toBelow {B : Nat} {W0 : World} (h : Fm (fun k => k < B) W0 mb g cap bk rb rk M R ys w) : Below B W0 w := { os := h.os, tape := h.tape, output := h.output, size := h.size, block := h.block }

/-! ### the calls -/
/-- A mux behind Next. -/
def nextM (M : MS) : MS := if waitJ M 8 = [] then tickM M 7 else tickM (fieldM (chooseM M) (chosen M)) (chosen M)
def nextYs (M : MS) (ys : Nat → RS) : Nat → RS := if waitJ M 8 = [] then ys else nextY ys (chosen M)
/-- The frame and its error. -/
def nextS (M : MS) (wd : Nat) : ByteArray := if waitJ M 8 = [] then putT ((M.craft : Nat) : Int) 7 ((M.master : Nat) : Int) (((M.f 7).ct : Nat) : Int) 2046 (uuu M.size) ((wd : Nat) : Int) else putT ((M.craft : Nat) : Int) ((chosen M : Nat) : Int) ((M.master : Nat) : Int) ((((fieldM (chooseM M) (chosen M)).f (chosen M)).ct : Nat) : Int) ((((chooseM M).f (chosen M)).x.first idleL : Nat) : Int) ⟨⟨((chooseM M).f (chosen M)).x.data idleL⟩⟩ ((wd : Nat) : Int)
def nextE (M : MS) : Int := if waitJ M 8 = [] then putTE ((M.craft : Nat) : Int) 7 ((M.master : Nat) : Int) (((M.f 7).ct : Nat) : Int) 2046 (uuu M.size) else putTE ((M.craft : Nat) : Int) ((chosen M : Nat) : Int) ((M.master : Nat) : Int) ((((fieldM (chooseM M) (chosen M)).f (chosen M)).ct : Nat) : Int) ((((chooseM M).f (chosen M)).x.first idleL : Nat) : Int) ⟨⟨((chooseM M).f (chosen M)).x.data idleL⟩⟩
theorem data_le {x : FS} (h : OkF x N) : (⟨⟨x.data idleL⟩⟩ : ByteArray).size ≤ 1000 := by
 have h1 := h.hi
 show (((x.pad idleL).q.take x.size).length) ≤ 1000
 rw [List.length_take]; omega
theorem firstOf_le (n : Nat) : ∀ st : List Nat, Tmf.firstOf n st ≤ max n 2047
 | [] => by show 2047 ≤ _; omega
 | a :: l => by
  rw [Tmf.firstOf_cons]
  split
  · omega
  · omega
theorem first_le {x : FS} (h : OkF x N) : x.first idleL ≤ 100000 := by
 have h1 := h.hi
 have h2 := firstOf_le x.size (x.pad idleL).st
 show Tmf.firstOf x.size (x.pad idleL).st ≤ 100000
 omega
theorem fm_next (h : Fm H W mb g cap bk rb rk M R ys w) (ho : OkM N M) (wd : Nat) (hwd : wd < 2 ^ 32) : Calls Try.prog 21 #[.pointer (some ⟨mb, 0, none⟩), .int .u32 ((wd : Nat) : Int)] w fun e w' => e = .returned (.tuple #[.string (nextS M wd), .int .i64 (nextE M)]) ∧ Fm H W mb g cap bk rb rk (nextM M) R ys w' :=
 h.left (E := fun e => e = .returned (.tuple #[.string (nextS M wd), .int .i64 (nextE M)])) (M' := nextM M) fun S hS => by
  unfold nextS nextE nextM
  by_cases hw : waitJ M 8 = []
  · rw [if_pos hw, if_pos hw, if_pos hw]
    exact next_idle hS ho hw wd hwd
  · rw [if_neg hw, if_neg hw, if_neg hw]
    have hk : chosen M < 8 := bests_lt (topS_mem (bests_ne hw))
    exact next_full hS ho hw wd hwd rfl rfl rfl (data_le ((ho.choose hw).x _ hk)) (first_le ((ho.choose hw).x _ hk)) rfl
theorem fm_rnext (h : Fm H W mb g cap bk rb rk M' M ys w) (ho : OkM N M) (hN : N + 1 ≤ 2 ^ 20) (hr : Alike M ys) (wd : Nat) (hwd : wd < 2 ^ 32) : Calls Try.prog 26 #[.pointer (some ⟨rb, 0, none⟩), .int .u32 ((wd : Nat) : Int)] w fun e w' => e = .returned (.tuple #[.string (nextS M wd), .int .i64 (nextE M)]) ∧ Fm H W mb g cap bk rb rk M' (nextM M) (nextYs M ys) w' :=
 h.right (E := fun e => e = .returned (.tuple #[.string (nextS M wd), .int .i64 (nextE M)])) (R' := nextM M) (ys' := nextYs M ys) fun S hS => by
  unfold nextS nextE nextM nextYs
  by_cases hw : waitJ M 8 = []
  · rw [if_pos hw, if_pos hw, if_pos hw, if_pos hw]
    exact rnext_idle hS ho hN hr hw wd hwd
  · rw [if_neg hw, if_neg hw, if_neg hw, if_neg hw]
    have hk : chosen M < 8 := bests_lt (topS_mem (bests_ne hw))
    exact rnext_full hS ho hN hr hw wd hwd rfl rfl rfl (data_le ((ho.choose hw).x _ hk)) (first_le ((ho.choose hw).x _ hk)) rfl
def addZ (M : MS) (z : Int) (p : ByteArray) : MS := if 0 ≤ z ∧ z < 8 then addM M z.toNat p else M
def addYs (M : MS) (ys : Nat → RS) (z : Int) (p : ByteArray) : Nat → RS := if 0 ≤ z ∧ z < 8 then addY M ys z.toNat p else ys
def addZE (M : MS) (z : Int) (p : ByteArray) : Int := if 0 ≤ z ∧ z < 8 then Tmf.addE (M.f z.toNat).x p else 2
theorem fm_add (h : Fm H W mb g cap bk rb rk M R ys w) (ho : OkM N M) (z : Int) (p : ByteArray) (hp : p.size ≤ 2 ^ 40) : Calls Try.prog 19 #[.pointer (some ⟨mb, 0, none⟩), .int .i64 z, .string p] w fun e w' => e = .returned (.int .i64 (addZE M z p)) ∧ Fm H W mb g cap bk rb rk (addZ M z p) R ys w' :=
 h.left (E := fun e => e = .returned (.int .i64 (addZE M z p))) (M' := addZ M z p) fun S hS => by
  unfold addZE addZ
  by_cases hz : 0 ≤ z ∧ z < 8
  · rw [if_pos hz, if_pos hz]
    obtain ⟨k, rfl⟩ : ∃ k : Nat, z = (k : Int) := ⟨z.toNat, by omega⟩
    exact madd_at hS ho (by omega) p hp
  · rw [if_neg hz, if_neg hz]
    exact (madd_out hS (by omega) p).mono fun e w' ⟨h1, h2⟩ => ⟨h1, by rw [← h2]; exact hS, by rw [← h2]; exact FrS.refl _ _⟩
theorem fm_radd (h : Fm H W mb g cap bk rb rk M' M ys w) (ho : OkM N M) (hN : N + 1 ≤ 2 ^ 20) (hr : Alike M ys) (z : Int) (p : ByteArray) (hp : p.size ≤ 2 ^ 40) : Calls Try.prog 23 #[.pointer (some ⟨rb, 0, none⟩), .int .i64 z, .string p] w fun e w' => e = .returned (.int .i64 (addZE M z p)) ∧ Fm H W mb g cap bk rb rk M' (addZ M z p) (addYs M ys z p) w' :=
 h.right (E := fun e => e = .returned (.int .i64 (addZE M z p))) (R' := addZ M z p) (ys' := addYs M ys z p) fun S hS => by
  unfold addZE addZ addYs
  by_cases hz : 0 ≤ z ∧ z < 8
  · rw [if_pos hz, if_pos hz, if_pos hz]
    obtain ⟨k, rfl⟩ : ∃ k : Nat, z = (k : Int) := ⟨z.toNat, by omega⟩
    exact (rmadd_at hS ho hN hr (by omega) p hp).mono fun e w' ⟨h1, h2, h3⟩ => ⟨h1, h2.as (rm_turn rk M _ _), h3⟩
  · rw [if_neg hz, if_neg hz, if_neg hz]
    exact (rmadd_out z (by omega) p w).mono fun e w' ⟨h1, h2⟩ => ⟨h1, hS.below h2, fr_of h2 hS.hS⟩
theorem fm_clear (h : Fm H W mb g cap bk rb rk M R ys w) (ho : OkM N M) : Calls Try.prog 24 #[.pointer (some ⟨mb, 0, none⟩)] w fun e w' => e = .returned (.tuple #[]) ∧ Fm H W mb g cap bk rb rk (clearJ M 8) R ys w' :=
 h.left (E := fun e => e = .returned (.tuple #[])) fun _ hS => mclear_at hS ho
theorem rmC_clear (rk : Nat → Nat) (M : MS) : rmC rk (clearJ M 8) = rmC rk (clearM M) := rfl
theorem fm_rclear (h : Fm H W mb g cap bk rb rk M' M ys w) : Calls Try.prog 25 #[.pointer (some ⟨rb, 0, none⟩)] w fun e w' => e = .returned (.tuple #[]) ∧ Fm H W mb g cap bk rb rk M' (clearJ M 8) (clearY ys 8) w' :=
 h.right (E := fun e => e = .returned (.tuple #[])) fun _ hS => (rmclear_at hS).mono fun _ _ ⟨h1, h2, h3⟩ => ⟨h1, h2.as (rmC_clear rk M), h3⟩
/-- What waits in channel z. -/
def waitZ (M : MS) (z : Int) : Int := if 0 ≤ z ∧ z < 8 then (((M.f z.toNat).x.wait : Nat) : Int) else 0
theorem fm_wait (h : Fm H W mb g cap bk rb rk M R ys w) (ho : OkM N M) (z : Int) : Calls Try.prog 18 #[.pointer (some ⟨mb, 0, none⟩), .int .i64 z] w fun e w' => e = .returned (.int .i64 (waitZ M z)) ∧ Fm H W mb g cap bk rb rk M R ys w' := by
 obtain ⟨S1, S2, h1, h2, -, -, -⟩ := h.ex
 unfold waitZ
 by_cases hz : 0 ≤ z ∧ z < 8
 · rw [if_pos hz]
   obtain ⟨k, rfl⟩ : ∃ k : Nat, z = (k : Int) := ⟨z.toNat, by omega⟩
   exact (mwait_at h1 ho (by omega)).mono fun e w' ⟨q1, q2⟩ => ⟨q1, h.below q2⟩
 · rw [if_neg hz]
   exact (mwait_out h1 (by omega)).mono fun e w' ⟨q1, q2⟩ => ⟨q1, by rw [← q2]; exact h⟩
theorem fm_rwait (h : Fm H W mb g cap bk rb rk M' M ys w) (ho : OkM N M) (hN : N + 1 ≤ 2 ^ 20) (hr : Alike M ys) (z : Int) : Calls Try.prog 27 #[.pointer (some ⟨rb, 0, none⟩), .int .i64 z] w fun e w' => e = .returned (.int .i64 (waitZ M z)) ∧ Fm H W mb g cap bk rb rk M' M ys w' := by
 obtain ⟨S1, S2, h1, h2, -, -, -⟩ := h.ex
 unfold waitZ
 by_cases hz : 0 ≤ z ∧ z < 8
 · rw [if_pos hz]
   obtain ⟨k, rfl⟩ : ∃ k : Nat, z = (k : Int) := ⟨z.toNat, by omega⟩
   exact (rmwait_at h2 ho hN hr (by omega)).mono fun e w' ⟨q1, q2⟩ => ⟨q1, h.below q2⟩
 · rw [if_neg hz]
   exact (rmwait_out z (by omega) w).mono fun e w' ⟨q1, q2⟩ => ⟨q1, h.below q2⟩
end Go.Am.Cha

namespace Go.Am.Cha
open Go Go.Am Go.Am.Lib
open Go.Am.Tmf (FS RS Rel OkF idleL addE fs0 rs0)
set_option maxRecDepth 100000

variable {N : Nat} {M : MS} {ys : Nat → RS}
theorem alike_upd (h : Alike M ys) {k : Nat} (hk : k < 8) {s : Sr} {y : RS} (hs : Rel s.x y) : ∀ j, j < 8 → Rel (upd M.f k s j).x (updY ys k y j) := by
 intro j hj
 by_cases e : j = k
 · subst e; rw [upd_same, updY_same]; exact hs
 · rw [upd_other _ _ e, updY_other _ _ e]; exact h j hj
theorem alike_add (h : Alike M ys) (z : Int) (p : ByteArray) : Alike (addZ M z p) (addYs M ys z p) := by
 unfold addZ addYs
 by_cases hz : 0 ≤ z ∧ z < 8
 · rw [if_pos hz, if_pos hz]
   have hk : z.toNat < 8 := by omega
   have hr := h _ hk
   have hA := hr.added p
   rw [← hr.addE p] at hA
   exact alike_upd h hk hA
 · rw [if_neg hz, if_neg hz]; exact h
theorem alike_tick {k : Nat} (h : Alike M ys) : Alike (tickM M k) ys := by
 intro j hj
 show Rel (upd M.f k { M.f k with ct := ((M.f k).ct + 1) % 256 } j).x (ys j)
 by_cases e : j = k
 · subst e; rw [upd_same]; exact h j hj
 · rw [upd_other _ _ e]; exact h j hj
theorem alike_next (h : Alike M ys) : Alike (nextM M) (nextYs M ys) := by
 unfold nextM nextYs
 by_cases hw : waitJ M 8 = []
 · rw [if_pos hw, if_pos hw]
   exact alike_tick h
 · rw [if_neg hw, if_neg hw]
   have hk : chosen M < 8 := bests_lt (topS_mem (bests_ne hw))
   have hc : Alike (chooseM M) ys := fun j hj => by rw [chooseM_x]; exact h j hj
   have hwt : ((chooseM M).f (chosen M)).x.wait ≠ 0 := by
    rw [chooseM_x]
    have := bests_wait (topS_mem (M := filled M (bests M)) (bests_ne hw))
    have e : topS (filled M (bests M)) (bests M) = chosen M := rfl
    rw [e] at this
    omega
   have hn := (hc _ hk).nx
   have e : ((chooseM M).f (chosen M)).x.nx = ((chooseM M).f (chosen M)).x.next idleL := if_neg hwt
   rw [e] at hn
   exact alike_tick (M := fieldM (chooseM M) (chosen M)) (alike_upd hc hk hn)
theorem alike_clear (h : Alike M ys) : Alike (clearJ M 8) (clearY ys 8) := by
 intro j hj
 show Rel (if j < 8 then (⟨fs0 (M.f j).x.size, (M.f j).pr, (M.f j).sh, 0, 0⟩ : Sr) else M.f j).x (if j < 8 then rs0 (ys j).size else ys j)
 rw [if_pos hj, if_pos hj]
 have hr := h j hj
 rw [← hr.size]
 exact Rel.zero hr.lo hr.hi
theorem okI_up {N' : Nat} (h : OkI N M) (hN : N ≤ N') (h2 : N' ≤ 2 ^ 20) : OkI N' M :=
 ⟨⟨h.ok.craft, h.ok.lo, h.ok.hi, h.ok.master, fun k hk => OkF.up2 (h.ok.x k hk) hN h2, h.ok.sz, h.ok.pr, h.ok.sh, h.ok.cr, h.ok.ct⟩, h.i⟩
theorem okI_addZ (h : OkI N M) (hN : N + 1 ≤ 2 ^ 20) (z : Int) (p : ByteArray) : OkI (N + 1) (addZ M z p) := by
 unfold addZ
 split
 · exact h.add hN (by omega) p
 · exact okI_up h (Nat.le_succ N) hN
theorem okI_tick (h : OkI N M) {k : Nat} (hk : k < 8) : OkI N (tickM M k) := by
 have hu : ∀ j, (tickM M k).f j = if j = k then { M.f k with ct := ((M.f k).ct + 1) % 256 } else M.f j := fun j => rfl
 refine ⟨⟨h.ok.craft, h.ok.lo, h.ok.hi, Nat.mod_lt _ (by decide), ?_, ?_, ?_, ?_, ?_, ?_⟩, ?_⟩
 all_goals
  intro j hj
  rw [hu j]
  split
  · first
    | exact h.ok.x k hk
    | exact h.ok.sz k hk
    | exact h.ok.pr k hk
    | exact h.ok.sh k hk
    | exact h.ok.cr k hk
    | exact Nat.mod_lt _ (by decide)
    | exact h.i k hk
  · first
    | exact h.ok.x j hj
    | exact h.ok.sz j hj
    | exact h.ok.pr j hj
    | exact h.ok.sh j hj
    | exact h.ok.cr j hj
    | exact h.ok.ct j hj
    | exact h.i j hj
theorem okI_next (h : OkI N M) (hN : N + 1 ≤ 2 ^ 20) : OkI (N + 1) (nextM M) := by
 unfold nextM
 by_cases hw : waitJ M 8 = []
 · rw [if_pos hw]
   exact okI_up (okI_tick h (by decide)) (Nat.le_succ N) hN
 · rw [if_neg hw]
   exact h.next hN hw (bests_lt (topS_mem (bests_ne hw)))
theorem okI_clear (h : OkI N M) (hN : N + 1 ≤ 2 ^ 20) : OkI (N + 1) (clearJ M 8) := by
 have hu : ∀ j, j < 8 → (clearJ M 8).f j = ⟨fs0 (M.f j).x.size, (M.f j).pr, (M.f j).sh, 0, 0⟩ := fun j hj => if_pos hj
 have hx : ∀ j, j < 8 → OkF (fs0 (M.f j).x.size) (N + 1) := fun j hj => OkF.up2 (Tmf.OkF.zero (h.ok.x j hj).lo (h.ok.x j hj).hi) (Nat.zero_le _) hN
 refine ⟨⟨h.ok.craft, h.ok.lo, h.ok.hi, (by decide : 0 < 256), ?_, ?_, ?_, ?_, ?_, ?_⟩, ?_⟩
 all_goals
  intro j hj
  rw [hu j hj]
  first
   | exact hx j hj
   | exact h.ok.sz j hj
   | exact h.ok.pr j hj
   | exact h.ok.sh j hj
   | exact Nat.zero_le _
   | exact (by decide : (0 : Nat) < 256)
theorem okI_made {crf sz : Nat} {P Q : Nat → Int} (h0 : crf ≤ 255) (h1 : 32 ≤ sz) (h2 : sz ≤ 200) (h : ∀ k, k < 8 → okPQ P Q k) : OkI 0 ⟨crf, sz, 0, sr0 sz P Q⟩ := by
 refine ⟨⟨h0, h1, h2, (by decide : 0 < 256), fun _ _ => Tmf.OkF.zero h1 h2, fun _ _ => rfl, fun k hk => ?_, fun k hk => ?_, fun _ _ => Nat.zero_le _, fun _ _ => by show 0 < 256; decide⟩, fun _ _ => Nat.zero_le _⟩
 · have := h k hk
   unfold okPQ at this
   show (P k).toNat ≤ 7
   omega
 · have := h k hk
   unfold okPQ at this
   show 1 ≤ (Q k).toNat ∧ (Q k).toNat ≤ 100
   omega
theorem alike_made {crf sz : Nat} {P Q : Nat → Int} (h1 : 32 ≤ sz) (h2 : sz ≤ 200) : Alike ⟨crf, sz, 0, sr0 sz P Q⟩ (fun _ => rs0 sz) := fun _ _ => Rel.zero h1 h2
end Go.Am.Cha
