/-
  Memory: the small methods' summaries. Own work.
-/
import Derived.Test.YtjbagcmcpmhfnaaDoorMemA
namespace Go.Am.Mem
open Go Go.Am Go.Am.Ham Go.Proofs
set_option maxRecDepth 100000

theorem dT {p : Prop} [Decidable p] (h : p) {A B : Prop} : cond (decide p) A B = A := by rw [decide_eq_true h, cond_true]
theorem dF {p : Prop} [Decidable p] (h : ¬ p) {A B : Prop} : cond (decide p) A B = B := by rw [decide_eq_false h, cond_false]
theorem dnT {p : Prop} [Decidable p] (h : p) {A B : Prop} : cond (!decide p) A B = B := by rw [decide_eq_true h, Bool.not_true, cond_false]
theorem dnF {p : Prop} [Decidable p] (h : ¬ p) {A B : Prop} : cond (!decide p) A B = A := by rw [decide_eq_false h, Bool.not_false, cond_true]
theorem dT2 {p q : Prop} [Decidable p] [Decidable q] (hp : p) (hq : q) {A B : Prop} : cond (decide p && decide q) A B = A := by rw [decide_eq_true hp, decide_eq_true hq, Bool.and_self, cond_true]

theorem inM_iff {m : Mem} {a : Int} : inM m a = true ↔ 0 ≤ a ∧ a < m.n := by
  unfold inM; rw [Bool.and_eq_true, decide_eq_true_eq, decide_eq_true_eq]
theorem chkM_in {m : Mem} {a : Int} (h : 0 ≤ a ∧ a < m.n) : chkM m a = 0 := by unfold chkM; rw [if_pos (inM_iff.2 h)]
theorem chkM_out {m : Mem} {a : Int} (h : ¬ (0 ≤ a ∧ a < m.n)) : chkM m a = 2 := by unfold chkM; rw [if_neg (fun e => h (inM_iff.1 e))]

theorem okChk : SpecOk Tryd.prog G0 71 sChk :=
  spec2 mixed tE_ok Tryd.func71 (by kernel_rfl : Tryd.f71.body = some (codeOf Tryd.f71)) cChk rfl rfl rfl (by kernel_rfl) (ids := []) (by kernel_rfl) trivial (by
    intro args h K hk
    unfold sChk at hk
    split at hk
    · rename_i a
      replace hk := asMem_elim hk
      obtain ⟨m, ty, ty2, mv, mv2, rfl, hn, hk⟩ := hk
      show bChk m ty ty2 mv mv2 a K
      rw [bChk_eq]
      by_cases h1 : a < 0
      · rw [chkM_out (by omega)] at hk
        rw [dT h1]; exact hk
      · rw [dF h1]
        rintro _ rfl
        by_cases h2 : a ≥ (m.n : Int)
        · rw [chkM_out (by omega)] at hk
          rw [dT h2]; exact hk
        · rw [chkM_in (by omega)] at hk
          rw [dF h2]; exact hk
    · exact hk.elim)
theorem okRoom : SpecOk Tryd.prog G0 77 sRoom :=
  spec2 mixed tE_ok Tryd.func77 (by kernel_rfl : Tryd.f77.body = some (codeOf Tryd.f77)) cRoom rfl rfl rfl (by kernel_rfl) (ids := []) (by kernel_rfl) trivial (by
    intro args h K hk
    unfold sRoom at hk
    split at hk
    · rename_i a n
      replace hk := asMem_elim hk
      obtain ⟨m, ty, ty2, mv, mv2, rfl, hn, hk⟩ := hk
      show bRoom m ty ty2 mv mv2 a n K
      rw [bRoom_eq]
      unfold roomM at hk
      by_cases h1 : a < 0
      · rw [if_neg (by omega)] at hk
        rw [dT h1]; exact hk
      · rw [dF h1]
        rintro _ rfl
        by_cases h2 : a > (m.n : Int)
        · rw [if_neg (by omega)] at hk
          rw [dT h2]; exact hk
        · rw [dF h2]
          by_cases h3 : n < 0
          · rw [if_neg (by omega)] at hk
            rw [dT h3]; exact hk
          · rw [dF h3]
            rintro _ rfl x3 e3 x4 e4
            rw [iSub_i64 (by omega) (by omega)] at e3
            rw [e3, iMul_i64 (by omega) (by omega)] at e4
            by_cases h4 : n > x4
            · rw [if_neg (by omega)] at hk
              rw [dT h4]; exact hk
            · rw [if_pos (by omega)] at hk
              rw [dF h4]; exact hk
    · exact hk.elim)
theorem okThere : SpecOk Tryd.prog G0 114 sThere :=
  spec2 mixed tE_ok Tryd.func114 (by kernel_rfl : Tryd.f114.body = some (codeOf Tryd.f114)) cThere rfl rfl rfl (by kernel_rfl) (ids := []) (by kernel_rfl) trivial (by
    intro args h K hk
    unfold sThere at hk
    split at hk
    · rename_i a
      replace hk := asMem_elim hk
      obtain ⟨m, ty, ty2, mv, mv2, rfl, hk⟩ := hk
      show bThere m ty ty2 mv mv2 a K
      rw [bThere_eq]
      unfold inM at hk
      by_cases h1 : a ≥ 0
      · rw [dT h1]
        rintro _ rfl
        rw [decide_eq_true (show 0 ≤ a from h1), Bool.true_and] at hk
        exact hk
      · rw [dF h1]
        rw [decide_eq_false (show ¬ 0 ≤ a from h1), Bool.false_and] at hk
        exact hk
    · exact hk.elim)
def sFit : Spec := fun args h K => match args with
  | [.pointer (some ⟨0, 0, some 0⟩), .int .i64 a, .int .i64 n] => asMem h fun m ty ty2 mv mv2 => m.n ≤ 16384 ∧ K (.bool (decide (roomM m a n = 0))) (memH m ty ty2 mv mv2)
  | _ => False
theorem okFit : SpecOk Tryd.prog G0 117 sFit :=
  spec2 mixed tE_ok Tryd.func117 (by kernel_rfl : Tryd.f117.body = some (codeOf Tryd.f117)) cFit rfl rfl rfl (by kernel_rfl) (ids := []) (by kernel_rfl) trivial (by
    intro args h K hk
    unfold sFit at hk
    split at hk
    · rename_i a n
      replace hk := asMem_elim hk
      obtain ⟨m, ty, ty2, mv, mv2, rfl, hn, hk⟩ := hk
      show bFit m ty ty2 mv mv2 a n K
      rw [bFit_eq]
      unfold roomM at hk
      by_cases h1 : a ≥ 0
      · rw [dT h1]
        by_cases h3 : n ≥ 0
        · rw [dT h3]
          rintro _ rfl
          by_cases h2 : a ≤ (m.n : Int)
          · rw [dT h2]
            rintro _ rfl x3 e3 x4 e4
            rw [iSub_i64 (by omega) (by omega)] at e3
            rw [e3, iMul_i64 (by omega) (by omega)] at e4
            by_cases h4 : n ≤ x4
            · rw [if_pos (by omega)] at hk
              rw [decide_eq_true h4]; exact hk
            · rw [if_neg (by omega)] at hk
              rw [decide_eq_false h4]; exact hk
          · rw [if_neg (by omega)] at hk
            rw [dF h2]; exact hk
        · rw [if_neg (by omega)] at hk
          rw [dF h3]; exact hk
      · rw [if_neg (by omega)] at hk
        rw [dF h1]; exact hk
    · exact hk.elim)
theorem okCount : SpecOk Tryd.prog G0 76 sCount :=
  spec2 mixed tE_ok Tryd.func76 (by kernel_rfl : Tryd.f76.body = some (codeOf Tryd.f76)) cCount rfl rfl rfl (by kernel_rfl) (ids := []) (by kernel_rfl) trivial (by
    intro args h K hk
    unfold sCount at hk
    split at hk
    · rename_i k
      replace hk := asMem_elim hk
      obtain ⟨m, ty, ty2, mv, mv2, rfl, hk⟩ := hk
      show bCount m ty ty2 mv mv2 k K
      rw [bCount_eq]
      unfold countM at hk
      by_cases h1 : k = 1
      · rw [if_pos h1] at hk
        rw [dT h1]
        rintro _ rfl
        exact hk
      · rw [if_neg h1] at hk
        rw [dF h1]
        by_cases h2 : k = 2
        · rw [if_pos h2] at hk
          rw [dT h2]
          rintro _ rfl
          exact hk
        · rw [if_neg h2] at hk
          rw [dF h2]; exact hk
    · exact hk.elim)
theorem okStore : SpecOk Tryd.prog G0 72 sStore :=
  spec2 mixed tS_ok Tryd.func72 (by kernel_rfl : Tryd.f72.body = some (codeOf Tryd.f72)) cStore rfl rfl rfl (by kernel_rfl) (ids := []) (by kernel_rfl) trivial (by
    intro args h K hk
    unfold sStore at hk
    split at hk
    · rename_i a w
      replace hk := asMem_elim hk
      obtain ⟨m, ty, ty2, mv, mv2, rfl, hl, a0, a1, w0, w1, hk⟩ := hk
      show bStore m ty ty2 mv mv2 a w K
      rw [bStore_eq]
      unfold storeM at hk
      have w2 : w < 4294967296 := by omega
      have hle : a.toNat + 1 ≤ m.W.length := by omega
      by_cases h1 : m.fuse = 0
      · rw [if_pos h1] at hk
        rw [dT h1]; exact hk
      · rw [if_neg h1] at hk
        rw [dF h1]
        by_cases h2 : m.fuse > 0
        · rw [if_pos h2] at hk
          rw [dT h2]
          rintro _ rfl
          constructor
          all_goals
            refine ⟨w0, w2, ?_⟩
            rintro _ rfl
            rw [dT2 a0 a1, dT hle]
            rintro _ rfl
            exact hk
        · rw [if_neg h2] at hk
          rw [dF h2]
          constructor
          all_goals
            refine ⟨w0, w2, ?_⟩
            rintro _ rfl
            rw [dT2 a0 a1, dT hle]
            rintro _ rfl
            exact hk
    · exact hk.elim)
theorem okStoreC : SpecOk Tryd.prog G0 115 sStoreC :=
  spec2 mixed tE_ok Tryd.func115 (by kernel_rfl : Tryd.f115.body = some (codeOf Tryd.f115)) cStoreC rfl rfl rfl (by kernel_rfl) (ids := []) (by kernel_rfl) trivial (by
    intro args h K hk
    unfold sStoreC at hk
    split at hk
    · rename_i a c
      replace hk := asMem_elim hk
      obtain ⟨m, ty, ty2, mv, mv2, rfl, hl, a0, a1, c0, hk⟩ := hk
      show bStoreC m ty ty2 mv mv2 a c K
      rw [bStoreC_eq]
      unfold storeM at hk
      have hle : a.toNat + 1 ≤ m.W.length := by omega
      have hc : ((c.toNat : Nat) : Int) = c := Int.toNat_of_nonneg c0
      rw [hc] at hk
      by_cases h1 : m.fuse = 0
      · rw [if_pos h1] at hk
        rw [dT h1]; exact hk
      · rw [if_neg h1] at hk
        rw [dF h1, dT2 a0 a1, dT hle]
        rintro _ rfl
        by_cases h2 : m.fuse > 0
        · rw [if_pos h2] at hk
          rw [dT h2]
          rintro _ rfl
          exact hk
        · rw [if_neg h2] at hk
          rw [dF h2]; exact hk
    · exact hk.elim)
end Go.Am.Mem
