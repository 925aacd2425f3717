/-
  Memory: MemoryPlays's parts: an act, and what is great. Own work.
-/
import Derived.Test.YtjbagcmcpmhfnaaDoorMemY3
import Derived.Test.YtjbagcmcpmhfnaaDoorMemY4
import Derived.Test.YtjbagcmcpmhfnaaDoorMemZ1
namespace Go.Am.Mem
open Go Go.Am Go.Am.Ham Go.Proofs
set_option maxRecDepth 100000

theorem dS {α : Type} [DecidableEq α] {x : α} : decide (x = x) = true := decide_eq_true rfl
theorem okDo : SpecOk Tryd.prog G0 37 sDo :=
  spec2 mixed tQ_ok Tryd.func37 (by kernel_rfl : Tryd.f37.body = some (codeOf Tryd.f37)) cDo rfl rfl rfl (by kernel_rfl) (ids := []) (by kernel_rfl) trivial (by
    intro args h K hk
    unfold sDo at hk
    split at hk
    · rename_i p a n w s
      obtain ⟨m, tb, ty, ty2, ty3, ty4, v1, v2, v3, v4, v5, rfl, ho, hc, w0, w1, hk⟩ := asBoth_elim hk (fun _ _ _ _ _ _ _ _ _ _ _ _ h => h)
      show bDo m tb ty ty2 ty3 ty4 v1 v2 v3 v4 v5 p a n w s K
      rw [bDo_eq]
      have f : Fit m := ⟨ho, hc⟩
      have fin : ∀ m', Fit m' → K (.bool true) (bothH m' tb ty ty2 ty3 ty4 v1 v2 v3 v4 v5) := fun m' f => hk m' f.ok f.cnt
      clear hk
      have scr : ∀ y, Fit (scrubS m y) := fun y => f.scrubS y
      intro x1 _
      by_cases c0 : x1 = 0
      · rw [dT c0]
        refine ⟨ho, w0, w1, fun x2 h2 x3 h3 => ⟨ho, w0, w1, fun x4 h4 x5 h5 => ?_⟩⟩
        rw [h4.trans h2.symm, h5.trans h3.symm, dS]
        exact fin x2 (by rw [h2]; exact f.writeS _ _)
      rw [dF c0]
      by_cases c1 : x1 = 1
      · rw [dT c1]
        refine ⟨ho, fun x2 h2 x3 h3 x4 h4 x5 h5 => ⟨ho, fun y2 g2 y3 g3 y4 g4 y5 g5 => ?_⟩⟩
        rw [g2.trans h2.symm, g3.trans h3.symm, g4.trans h4.symm, g5.trans h5.symm, dT rfl, dT rfl, dS]
        exact fin x2 (by rw [h2]; exact f.readS _)
      rw [dF c1]
      by_cases c2 : x1 = 2
      · rw [dT c2]
        refine ⟨ho, fun x2 h2 x3 h3 => ⟨ho, fun x4 h4 x5 h5 => ?_⟩⟩
        rw [h4.trans h2.symm, h5.trans h3.symm, dS]
        exact fin x2 (by rw [h2]; exact f.wbS _ _)
      rw [dF c2]
      by_cases c3 : x1 = 3
      · rw [dT c3]
        refine ⟨ho, fun x2 h2 x3 h3 x4 h4 => ⟨ho, fun y2 g2 y3 g3 y4 g4 => ?_⟩⟩
        rw [g2.trans h2.symm, g3.trans h3.symm, g4.trans h4.symm, strEq_self, cond_true, dS]
        exact fin x2 (by rw [h2]; exact f.rbS _ _)
      rw [dF c3]
      by_cases c4 : x1 = 4
      · rw [dT c4]
        refine ⟨ho, fun x2 h2 x3 h3 => ⟨ho, fun x4 h4 x5 h5 => ?_⟩⟩
        rw [h4.trans h2.symm, h5.trans h3.symm, dS]
        exact fin x2 (by rw [h2]; exact f.upsS _ _)
      rw [dF c4]
      by_cases c5 : x1 = 5
      · rw [dT c5]
        by_cases d1 : n > 1000
        · rw [dT d1]
          by_cases d2 : n ≤ 16384
          · rw [dT d2]
            intro z _
            refine ⟨ho, hc, fun x2 h2 x3 h3 x4 h4 x5 h5 => ⟨ho, hc, fun y2 g2 y3 g3 y4 g4 y5 g5 => ?_⟩⟩
            rw [g2.trans h2.symm, g3.trans h3.symm, g4.trans h4.symm, g5.trans h5.symm, dT rfl, dT rfl, dS]
            exact fin x2 (by rw [h2]; exact scr z)
          · rw [dF d2]
            refine ⟨ho, hc, fun x2 h2 x3 h3 x4 h4 x5 h5 => ⟨ho, hc, fun y2 g2 y3 g3 y4 g4 y5 g5 => ?_⟩⟩
            rw [g2.trans h2.symm, g3.trans h3.symm, g4.trans h4.symm, g5.trans h5.symm, dT rfl, dT rfl, dS]
            exact fin x2 (by rw [h2]; exact scr n)
        · rw [dF d1]
          refine ⟨ho, hc, fun x2 h2 x3 h3 x4 h4 x5 h5 => ⟨ho, hc, fun y2 g2 y3 g3 y4 g4 y5 g5 => ?_⟩⟩
          rw [g2.trans h2.symm, g3.trans h3.symm, g4.trans h4.symm, g5.trans h5.symm, dT rfl, dT rfl, dS]
          exact fin x2 (by rw [h2]; exact scr n)
      rw [dF c5]
      by_cases c6 : x1 = 6
      · rw [dT c6]
        refine ⟨ho, fun x2 h2 x3 h3 => ⟨ho, fun x4 h4 x5 h5 => ?_⟩⟩
        rw [h4.trans h2.symm, h5.trans h3.symm, dS]
        exact fin x2 (by rw [h2]; exact f.fuseS _)
      rw [dF c6]
      by_cases c7 : x1 = 7
      · rw [dT c7]
        refine ⟨ho, fun x2 h2 => ⟨ho, fun x4 h4 => ?_⟩⟩
        rw [h4.trans h2.symm]
        exact fin x2 (by rw [h2]; exact f.resetM)
      rw [dF c7]
      refine ⟨ho, fun x3 h3 x4 h4 => ⟨ho, fun y3 g3 y4 g4 => ?_⟩⟩
      rw [g3.trans h3.symm, g4.trans h4.symm, dT rfl, dS]
      exact fin m f
    · exact hk.elim)
theorem off4 (x : Nat) : cond (Nat.beq x 0) 4 (x + 4) = x + 4 := by
  cases x with
  | zero => rfl
  | succ n => rfl
theorem none_ok : AllOk Tryd.prog G0 [] := trivial
theorem loopGr : ∀ e h k, TGr e h k → ∃ m, loopN cGr (codeOf Tryd.f35) 0 2 m e h k := by
  intro e h k hT
  unfold TGr at hT
  split at hT
  · rename_i l c w i vs t
    obtain ⟨ha, hl, rfl, hr, hx⟩ := hT
    have key : ∀ d i : Nat, i + d = l → loopN cGr (codeOf Tryd.f35) 0 2 (d + 1) [(0, .slice (some ⟨0, 0, some 0⟩) l c), (1, .int .i64 w), (5, .int .i64 (i : Nat))] [.ro vs t] k := by
      intro d
      induction d with
      | zero =>
        intro i hi
        rw [loopN_succ]
        show tGr vs t l c w i _
        rw [tGr_eq]
        rintro x1 rfl
        rw [dF (by omega)]
        exact hx
      | succ d ih =>
        intro i hi
        rw [loopN_succ]
        show tGr vs t l c w i _
        rw [tGr_eq]
        rintro x1 rfl
        have hlen := ha.len
        have hl' : l ≤ 9223372036854775807 := hl
        rw [dT (by omega), dT2 (by omega) (by omega), Int.toNat_natCast, off4, dT (by omega), ha.c4 i (by omega), cond_true]
        rintro x2 h2
        by_cases c1 : x2 > 2000
        · rw [dT c1]; exact hr
        rw [dF c1]
        rintro x3 h3
        rw [iAdd_i64 (by omega) (by omega)] at h3
        obtain rfl : x3 = ((i + 1 : Nat) : Int) := by omega
        exact ih (i + 1) (by omega)
    exact ⟨_, key l 0 (by omega)⟩
  · exact hT.elim
theorem okGreat : SpecOk Tryd.prog G0 35 sGreat :=
  spec2 mixed none_ok Tryd.func35 (by kernel_rfl : Tryd.f35.body = some (codeOf Tryd.f35)) cGr rfl rfl rfl (by kernel_rfl) (ids := [2]) (by kernel_rfl) ⟨loopGr, trivial⟩ (by
    intro args h K hk
    unfold sGreat at hk
    split at hk
    · rename_i l c w vs t
      obtain ⟨ha, hl, ht, hf⟩ := hk
      show bGr vs t l c w K
      rw [bGr_eq]
      refine ⟨ha, hl, rfl, ht, ?_⟩
      rintro x1 _
      by_cases c1 : x1 > 100
      · rw [dT c1]; exact ht
      rw [dF c1]
      by_cases c2 : w > 200
      · rw [dT c2]
        cases decide (w ≤ 16384)
        · exact hf
        · exact ht
      · rw [dF c2]; exact hf
    · exact hk.elim)
theorem okGreatN : SpecOk Tryd.prog G0 35 sGreatN :=
  spec2 mixed none_ok Tryd.func35 (by kernel_rfl : Tryd.f35.body = some (codeOf Tryd.f35)) cGrN rfl rfl rfl (by kernel_rfl) (ids := [2]) (by kernel_rfl) ⟨trivial, trivial⟩ (by
    intro args h K hk
    unfold sGreatN at hk
    split at hk
    · rename_i w
      obtain ⟨ht, hf⟩ := hk
      show bGrN w K
      rw [bGrN_eq]
      rintro x1 rfl
      rw [dF (by omega)]
      rintro x2 _
      by_cases c1 : x2 > 100
      · rw [dT c1]; exact ht
      rw [dF c1]
      by_cases c2 : w > 200
      · rw [dT c2]
        cases decide (w ≤ 16384)
        · exact hf
        · exact ht
      · rw [dF c2]; exact hf
    · exact hk.elim)
end Go.Am.Mem
