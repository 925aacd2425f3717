/-
  Patches: PatchesNone answers true. Own work.
-/
import Derived.Test.YtecocfcaeenaoaaDoorPatN1
namespace Go.Am.Pat
open Go Go.Am Go.Am.Ham Go.Am.Mem Go.Proofs
set_option maxRecDepth 100000

theorem okRB2 : SpecOk Tryd.prog G0 41 sRBk :=
  spec2 mixed none_ok Tryd.func41 (by kernel_rfl : Tryd.f41.body = some (codeOf Tryd.f41)) cRB rfl rfl rfl (by kernel_rfl) (ids := []) (by kernel_rfl) trivial (by
    intro args h K hk
    unfold sRBk at hk
    split at hk
    · rename_i z
      obtain ⟨h1, h2, hk⟩ := hk
      show bRB z K
      rw [bRB_eq]
      intro x1 e1 x2 e2 x3 e3
      rw [iAdd_i64 (by omega) (by omega)] at e1
      rw [e1, Int.tdiv_eq_ediv_of_nonneg (by omega), wrap_i64 (by omega) (by omega)] at e2
      rw [iAdd_i64 (by omega) (by omega)] at e3
      exact hk x3 (by omega)
    · exact hk.elim)
theorem tRB_ok : AllOk Tryd.prog G0 tRB := ⟨okRB2, trivial⟩
theorem okRW : SpecOk Tryd.prog G0 25 sWords :=
  spec2 mixed tRB_ok Tryd.func25 (by kernel_rfl : Tryd.f25.body = some (codeOf Tryd.f25)) cRW rfl rfl rfl (by kernel_rfl) (ids := []) (by kernel_rfl) trivial (by
    intro args h K hk
    unfold sWords at hk
    split at hk
    · rename_i z
      show bRW z K
      rw [bRW_eq]
      unfold wordsN at hk
      by_cases h1 : z < 4
      · rw [if_pos (Or.inl h1)] at hk
        rw [dT h1]; exact hk
      · rw [dF h1]
        by_cases h2 : z > 8192
        · rw [if_pos (Or.inr h2)] at hk
          rw [dT h2]; exact hk
        · rw [if_neg (by omega)] at hk
          rw [dF h2]
          refine ⟨by omega, by omega, fun x1 e1 x2 e2 x3 e3 => ?_⟩
          have e4 : x2 = 5 + (z + 3) / 4 := e2.trans e1
          have e5 : iMul .i64 2 x2 = 2 * x2 := iMul_i64 (by omega) (by omega)
          rw [e3, e5, e4]; exact hk
    · exact hk.elim)
theorem okPNewN : SpecOk Tryd.prog G0 12 sPNewN := by
  intro W0 hG args h K hk
  unfold sPNewN at hk
  split at hk
  · exact inl_ok mixed tNo2_ok Tryd.func12 rfl iPNew rfl rfl rfl (by kernel_rfl) (fun _ => rfl) (fun _ => rfl) W0 hG _ _ _ hk
  · exact okPNew W0 hG _ _ _ hk
theorem tPN_ok : AllOk Tryd.prog G0 tPN := ⟨okAwk, okWords, okRW, okPick, weaken (weaken okNew (iNew _)) iNewT, okPNewN,
  inl_ok mixed tNo2_ok Tryd.func17 rfl iActive rfl rfl rfl (by kernel_rfl) (fun _ => rfl), inl_ok mixed tNo2_ok Tryd.func15 rfl iStaged rfl rfl rfl (by kernel_rfl) (fun _ => rfl),
  inl_ok mixed tNo2_ok Tryd.func19 rfl iBegin rfl rfl rfl (by kernel_rfl) (fun _ => rfl), inl_ok mixed tNo2_ok Tryd.func21 rfl iData rfl rfl rfl (by kernel_rfl) (fun _ => rfl),
  inl_ok mixed tNo2_ok Tryd.func16 rfl iCommit rfl rfl rfl (by kernel_rfl) (fun _ => rfl), inl_ok mixed tNo2_ok Tryd.func22 rfl iCancel rfl rfl rfl (by kernel_rfl) (fun _ => rfl), trivial⟩
def sPN : Spec := fun args h K => match args, h with
  | [.int .i64 _, .int .i64 _, .int .i64 _], [] => K (.bool true) []
  | _, _ => False
theorem okPN : SpecOk Tryd.prog G0 7 sPN :=
  spec2 mixed tPN_ok Tryd.func7 (by kernel_rfl : Tryd.f7.body = some (codeOf Tryd.f7)) cPN rfl rfl rfl (by kernel_rfl) rfl (eachNone (fun _ => rfl) _ 0) (by
    intro args h K hk
    unfold sPN at hk
    split at hk
    · rename_i z b n
      show bPN z b n K
      rw [bPN_eq]
      rw [dnT rfl]
      refine ⟨by omega, by omega, fun x1 h1 => ?_⟩
      have k0 : 0 ≤ x1 := by rw [h1]; exact Int.emod_nonneg _ (by omega)
      have k1 : x1 < 300 := by rw [h1]; exact Int.emod_lt_of_pos _ (by omega)
      have hw : wordsN z = if z < 4 ∨ z > 8192 then 0 else 2 * (5 + (z + 3) / 4) := rfl
      have hr : 0 ≤ wordsN z ∧ wordsN z ≤ 5000 := by rw [hw]; split <;> omega
      have hs : iSub .i64 x1 (wordsN z) = x1 - wordsN z := iSub_i64 (by omega) (by omega)
      have good : newOk (newM 300 x1) b z = (decide (4 ≤ z) && decide (z ≤ 8192) && decide (0 ≤ b) && decide (b ≤ x1 - wordsN z)) := rfl
      refine ⟨newB_iff.2 (by omega), fun x2 h2 => ?_⟩
      subst h2
      rw [hs]
      refine ⟨ok_newM (by omega) (by omega) (by omega) (by omega), fun hn x3 h3 o3 => ?_, fun hn => ?_⟩
      · rw [good] at hn
        simp only [Bool.and_eq_true, decide_eq_true_eq] at hn
        obtain ⟨⟨⟨n1, n2⟩, n3⟩, n4⟩ := hn
        rw [if_neg (by omega)] at hw
        rw [dT (by omega), dT (by omega), decide_eq_true n4]
        have := hk
        exact ⟨⟨this, this⟩, this⟩
      · by_cases c1 : wordsN z > 0
        · rw [dT c1]
          by_cases c2 : b ≥ 0
          · rw [dT c2]
            have n4 : ¬ b ≤ x1 - wordsN z := fun h => by
              have : ¬ (z < 4 ∨ z > 8192) := fun h => by rw [if_pos h] at hw; omega
              rw [good, decide_eq_true (by omega), decide_eq_true (by omega), decide_eq_true (by omega), decide_eq_true h] at hn
              cases hn
            rw [decide_eq_false n4]
            have := hk
            exact ⟨⟨this, this⟩, this⟩
          · rw [dF c2]
            exact ⟨⟨hk, hk⟩, hk⟩
        · rw [dF c1]
          exact ⟨⟨hk, hk⟩, hk⟩
    · exact hk.elim)
end Go.Am.Pat
