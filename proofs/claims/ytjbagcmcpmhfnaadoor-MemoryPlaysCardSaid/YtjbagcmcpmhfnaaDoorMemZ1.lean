/-
  Memory: what every method keeps. Own work.
-/
import Derived.Test.YtjbagcmcpmhfnaaDoorMemX
namespace Go.Am.Mem
open Go Go.Am Go.Am.Ham Go.Proofs
set_option maxRecDepth 100000

/-- A memory that any act may meet. -/
structure Fit (m : Mem) : Prop where
  ok : OkM m
  cnt : CntM m
theorem fit_count {m : Mem} (h : CntM m) (k : Int) : CntM (countM m k) := by
  have := h.fx0; have := h.fx1; have := h.lo0; have := h.lo1
  unfold countM
  split
  · exact ⟨by show _ ≤ iAdd .i64 m.fx 1; unfold iAdd; rw [wrap64]; split <;> omega, by show iAdd .i64 m.fx 1 ≤ _; unfold iAdd; rw [wrap64]; split <;> omega, h.lo0, h.lo1⟩
  · split
    · exact ⟨h.fx0, h.fx1, by show _ ≤ iAdd .i64 m.lo 1; unfold iAdd; rw [wrap64]; split <;> omega, by show iAdd .i64 m.lo 1 ≤ _; unfold iAdd; rw [wrap64]; split <;> omega⟩
    · exact h
theorem fit_store {m : Mem} (h : CntM m) (i c : Nat) : CntM (storeM m i c) := by
  refine ⟨?_, ?_, ?_, ?_⟩
  · rw [(store_fx _ _ _).1]; exact h.fx0
  · rw [(store_fx _ _ _).1]; exact h.fx1
  · rw [(store_fx _ _ _).2]; exact h.lo0
  · rw [(store_fx _ _ _).2]; exact h.lo1
theorem Fit.readF {m : Mem} (h : Fit m) (i : Nat) : Fit (readF m i) := by
  refine ⟨ok_readF h.ok i, ?_⟩
  unfold Mem.readF
  split
  · exact fit_store (fit_count h.cnt _) _ _
  · exact fit_count h.cnt _
theorem Fit.readS {m : Mem} (h : Fit m) (a : Int) : Fit (readS m a) := by
  unfold Mem.readS
  split
  · exact h.readF _
  · exact h
theorem Fit.writeS {m : Mem} (h : Fit m) (a : Int) (w : Nat) : Fit (writeS m a w) := by
  refine ⟨ok_writeS h.ok a w, ?_⟩
  unfold Mem.writeS
  split
  · exact fit_store h.cnt _ _
  · exact h.cnt
theorem Fit.upsS {m : Mem} (h : Fit m) (a b : Int) : Fit (upsS m a b) := by
  refine ⟨ok_upsS h.ok a b, ?_⟩
  unfold Mem.upsS
  split
  · exact ⟨h.cnt.fx0, h.cnt.fx1, h.cnt.lo0, h.cnt.lo1⟩
  · exact h.cnt
theorem Fit.fuseS {m : Mem} (h : Fit m) (n : Int) : Fit (fuseS m n) := by
  refine ⟨ok_fuseS h.ok n, ?_⟩
  unfold Mem.fuseS
  split
  · exact h.cnt
  · exact ⟨h.cnt.fx0, h.cnt.fx1, h.cnt.lo0, h.cnt.lo1⟩
theorem Fit.resetM {m : Mem} (h : Fit m) : Fit (resetM m) :=
  ⟨ok_reset h.ok, ⟨by show _ ≤ (0 : Int); omega, by show (0 : Int) ≤ _; omega, by show _ ≤ (0 : Int); omega, by show (0 : Int) ≤ _; omega⟩⟩
theorem cnt_wb (s : ByteArray) : ∀ (c : Nat) {m : Mem} (a i : Nat), CntM m → CntM (wbM c m a s i)
  | 0, _, _, _, h => h
  | c + 1, _, a, i, h => cnt_wb s c (a + 1) (i + 4) (fit_store h a _)
theorem Fit.wbS {m : Mem} (h : Fit m) (s : ByteArray) (a : Int) : Fit (if roomM m a s.size = 0 then wbM (lenW s.size) m a.toNat s 0 else m) := by
  split
  · exact ⟨(ok_wb s _ _ _ h.ok).1, cnt_wb s _ _ _ h.cnt⟩
  · exact h
theorem Fit.rbM : ∀ (c : Nat) {m : Mem} (a : Nat), Fit m → Fit (rbM c m a)
  | 0, _, _, h => h
  | c + 1, m, a, h => by
    unfold Mem.rbM
    split
    · exact h.readF _
    · exact Fit.rbM c (a + 1) (h.readF _)
theorem Fit.rbS {m : Mem} (h : Fit m) (a n : Int) : Fit (rbS m a n) := by
  unfold Mem.rbS
  split
  · exact Fit.rbM _ _ h
  · exact h
theorem Fit.scrubS {m : Mem} (h : Fit m) (n : Int) : Fit (scrubS m n) := by
  unfold Mem.scrubS
  split
  · exact h
  · exact ⟨(scrub_ok _ h.ok).1, (scrub_cnt _ h.cnt).1⟩
theorem fit_new {n s : Int} (h : newB n s = true) : Fit (newM n.toNat s) := by
  unfold newB at h
  simp only [Bool.and_eq_true, decide_eq_true_eq] at h
  exact ⟨ok_newM (by omega) (by omega) (by omega) (by omega), ⟨by show _ ≤ (0 : Int); omega, by show (0 : Int) ≤ _; omega, by show _ ≤ (0 : Int); omega, by show (0 : Int) ≤ _; omega⟩⟩
end Go.Am.Mem
