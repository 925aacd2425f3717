/-
  Memory: MemoryPlays's parts: two memories are alike. Own work.
-/
import Derived.Test.YtjbagcmcpmhfnaaDoorMemY5
import Derived.Test.YtjbagcmcpmhfnaaDoorMemY6
import Derived.Test.YtjbagcmcpmhfnaaDoorMemZ2
namespace Go.Am.Mem
open Go Go.Am Go.Am.Ham Go.Proofs
set_option maxRecDepth 100000

theorem loopAl : ∀ e h k, TAl e h k → ∃ m, loopN cAl (codeOf Tryd.f38) 0 5 m e h k := by
  intro e h k hT
  unfold TAl at hT
  split at hT
  · rename_i n i
    obtain ⟨m, tb, ty, ty2, ty3, ty4, v1, v2, v3, v4, v5, rfl, ho, rfl, rfl, hk⟩ := asBoth_elim hT (fun _ _ _ _ _ _ _ _ _ _ _ _ h => h)
    have key : ∀ d i : Nat, i + d = m.n → loopN cAl (codeOf Tryd.f38) 0 5 (d + 1) [(0, .pointer (some ⟨0, 0, some 0⟩)), (3, .int .i64 (m.n : Nat)), (5, .int .i64 (i : Nat))] (bothH m tb ty ty2 ty3 ty4 v1 v2 v3 v4 v5) k := by
      intro d
      induction d with
      | zero =>
        intro i hi
        rw [loopN_succ]
        show tAl m tb ty ty2 ty3 ty4 v1 v2 v3 v4 v5 (m.n : Nat) (i : Nat) _
        rw [tAl_eq, dF (by omega)]
        exact hk
      | succ d ih =>
        intro i hi
        rw [loopN_succ]
        show tAl m tb ty ty2 ty3 ty4 v1 v2 v3 v4 v5 (m.n : Nat) (i : Nat) _
        rw [tAl_eq, dT (by omega)]
        refine ⟨ho, fun x1 h1 x2 h2 => ?_⟩
        have hin : 0 ≤ ((i : Nat) : Int) ∧ ((i : Nat) : Int) < m.n := by omega
        obtain ⟨hl, hw, _⟩ := ho.at hin.1 hin.2
        have hr : rawR m (i : Nat) = (wordAt m i, 0) := by unfold rawR; rw [if_pos (inM_iff.2 hin), Int.toNat_natCast]
        have h1 : x1 = ((wordAt m i : Nat) : Int) := by rw [h1, hr]
        have h2 : x2 = 0 := by rw [h2, hr]; rfl
        have hle := ho.le
        rw [dT2 hin.1 hin.2, dT hl, hw, isInt_u64, cond_true, intOf_int, Int.toNat_natCast, dnT h1, dnT h2]
        intro x3 h3
        rw [iAdd_i64 (by omega) (by omega)] at h3
        obtain rfl : x3 = ((i + 1 : Nat) : Int) := by omega
        exact ih (i + 1) (by omega)
    exact ⟨_, key m.n 0 (by omega)⟩
  · exact hT.elim
theorem okAlike : SpecOk Tryd.prog G0 38 sAlike :=
  spec2 mixed tQ_ok Tryd.func38 (by kernel_rfl : Tryd.f38.body = some (codeOf Tryd.f38)) cAl rfl rfl rfl (by kernel_rfl) (ids := [5]) (by kernel_rfl) ⟨loopAl, trivial⟩ (by
    intro args h K hk
    unfold sAlike at hk
    split at hk
    · obtain ⟨m, tb, ty, ty2, ty3, ty4, v1, v2, v3, v4, v5, rfl, ho, hk⟩ := asBoth_elim hk (fun _ _ _ _ _ _ _ _ _ _ _ _ h => h)
      show bAl m tb ty ty2 ty3 ty4 v1 v2 v3 v4 v5 K
      rw [bAl_eq]
      intro x1 h1 x2 h2 x3 h3
      have e : (!(decide (m.fx = m.fx) && (decide (m.lo = m.lo) && (decide (m.st = m.st) && true)))) = false := by simp
      rw [dnT (h1.trans h3.symm), dnT h2, e, cond_false, dnT rfl]
      exact ⟨rfl, ho, h1, rfl, hk⟩
    · exact hk.elim)
end Go.Am.Mem
