/-
  Memory: the methods' summaries. Own work.
-/
import Derived.Test.YtjbagcmcpmhfnaaDoorMemC
namespace Go.Am.Mem
open Go Go.Am Go.Am.Ham Go.Proofs
set_option maxRecDepth 100000

theorem countM_W (m : Mem) (k : Int) : (countM m k).W = m.W := by unfold countM; split <;> (try split) <;> rfl
theorem countM_n (m : Mem) (k : Int) : (countM m k).n = m.n := by unfold countM; split <;> (try split) <;> rfl
theorem inM_false {m : Mem} {a : Int} (h : ¬ (0 ≤ a ∧ a < m.n)) : inM m a = false := by rw [← Bool.not_eq_true]; exact fun e => h (inM_iff.1 e)
theorem decN_lt (c : Nat) : (decN c).1 < 2 ^ 32 ∧ (decN c).2.1 ≤ 2 := by
  unfold decN
  split
  · exact ⟨by decide, by decide⟩
  · split
    · exact ⟨wordN_lt _ 32, by show 1 ≤ 2; omega⟩
    · split
      · exact ⟨wordN_lt _ 32, by show 0 ≤ 2; omega⟩
      · exact ⟨by decide, by decide⟩
/-- A word is there. -/
theorem OkM.at {m : Mem} (h : OkM m) {a : Int} (h0 : 0 ≤ a) (h1 : a < m.n) : a.toNat + 1 ≤ m.W.length ∧ m.W.getD a.toNat undef = .int .u64 ((wordAt m a.toNat : Nat) : Int) ∧ wordAt m a.toNat < 2 ^ 39 :=
  ⟨by have := h.len; omega, h.word _ (by omega), h.lt _ (by omega)⟩

theorem isInt_u64 (n : Int) : isInt .u64 (.int .u64 n) = true := rfl
theorem intOf_int (k : IntKind) (n : Int) : intOf (.int k n) = n := rfl
theorem okReadI : SpecOk Tryd.prog G0 75 sReadI :=
  spec2 mixed tC_ok Tryd.func75 (by kernel_rfl : Tryd.f75.body = some (codeOf Tryd.f75)) cReadI rfl rfl rfl (by kernel_rfl) (ids := []) (by kernel_rfl) trivial (by
    intro args h K hk
    unfold sReadI at hk
    split at hk
    · rename_i a
      replace hk := asMem_elim hk
      obtain ⟨m, ty, ty2, mv, mv2, rfl, ho, a0, a1, hk⟩ := hk
      show bReadI m ty ty2 mv mv2 a K
      rw [bReadI_eq]
      obtain ⟨hl, hw, hlt⟩ := ho.at a0 a1
      have hlen := ho.len
      unfold readF at hk
      rw [dT2 a0 a1, dT hl, hw, isInt_u64, cond_true, intOf_int, Int.toNat_natCast]
      generalize wordAt m a.toNat = c at *
      obtain ⟨d1, d2⟩ := decN_lt c
      refine ⟨by omega, by omega, ?_⟩
      rintro _ rfl _ rfl x3 _
      by_cases h1 : (decN c).2.1 = 1
      · rw [if_pos h1] at hk
        rw [dT (show (((decN c).2.1 : Nat) : Int) = 1 by omega), countM_W, countM_n]
        refine ⟨hlen, a0, a1, by omega, by omega, ?_⟩
        rw [Int.toNat_natCast]
        exact hk
      · rw [if_neg h1] at hk
        rw [dF (show ¬ (((decN c).2.1 : Nat) : Int) = 1 by omega)]
        exact hk
    · exact hk.elim)
theorem okWrite : SpecOk Tryd.prog G0 22 sWrite :=
  spec2 mixed tC_ok Tryd.func22 (by kernel_rfl : Tryd.f22.body = some (codeOf Tryd.f22)) cWrite rfl rfl rfl (by kernel_rfl) (ids := []) (by kernel_rfl) trivial (by
    intro args h K hk
    unfold sWrite at hk
    split at hk
    · rename_i a w
      replace hk := asMem_elim hk
      obtain ⟨m, ty, ty2, mv, mv2, rfl, ho, w0, w1, hk⟩ := hk
      show bWrite m ty ty2 mv mv2 a w K
      rw [bWrite_eq]
      refine ⟨ho.le, ?_⟩
      rintro _ rfl
      unfold writeS at hk
      by_cases h1 : 0 ≤ a ∧ a < m.n
      · rw [chkM_in h1, if_pos (inM_iff.2 h1)] at hk
        rw [chkM_in h1, dT (show ((0 : Nat) : Int) = 0 from rfl)]
        exact ⟨ho.len, h1.1, h1.2, w0, by omega, hk⟩
      · rw [chkM_out h1, if_neg (fun e => h1 (inM_iff.1 e))] at hk
        rw [chkM_out h1, dF (show ¬ ((2 : Nat) : Int) = 0 by omega)]
        exact hk
    · exact hk.elim)
theorem okRWrite : SpecOk Tryd.prog G0 79 sWrite :=
  spec2 mixed tC_ok Tryd.func79 (by kernel_rfl : Tryd.f79.body = some (codeOf Tryd.f79)) cRWrite rfl rfl rfl (by kernel_rfl) (ids := []) (by kernel_rfl) trivial (by
    intro args h K hk
    unfold sWrite at hk
    split at hk
    · rename_i a w
      replace hk := asMem_elim hk
      obtain ⟨m, ty, ty2, mv, mv2, rfl, ho, w0, w1, hk⟩ := hk
      show bRWrite m ty ty2 mv mv2 a w K
      rw [bRWrite_eq]
      unfold writeS at hk
      by_cases h1 : 0 ≤ a ∧ a < m.n
      · rw [chkM_in h1, if_pos (inM_iff.2 h1)] at hk
        rw [inM_iff.2 h1, Bool.not_true, cond_false]
        refine ⟨w0, by omega, ?_⟩
        rintro _ rfl
        refine ⟨ho.len, h1.1, h1.2, by omega, ?_⟩
        rw [Int.toNat_natCast]; exact hk
      · rw [chkM_out h1, if_neg (fun e => h1 (inM_iff.1 e))] at hk
        rw [inM_false h1, Bool.not_false, cond_true]
        exact hk
    · exact hk.elim)
theorem okRRead : SpecOk Tryd.prog G0 80 sRead :=
  spec2 mixed tC_ok Tryd.func80 (by kernel_rfl : Tryd.f80.body = some (codeOf Tryd.f80)) cRRead rfl rfl rfl (by kernel_rfl) (ids := []) (by kernel_rfl) trivial (by
    intro args h K hk
    unfold sRead at hk
    split at hk
    · rename_i a
      replace hk := asMem_elim hk
      obtain ⟨m, ty, ty2, mv, mv2, rfl, ho, hk⟩ := hk
      show bRRead m ty ty2 mv mv2 a K
      rw [bRRead_eq]
      unfold readR readS at hk
      by_cases h1 : 0 ≤ a ∧ a < m.n
      · rw [if_pos (inM_iff.2 h1), if_pos (inM_iff.2 h1)] at hk
        obtain ⟨a0, a1⟩ := h1
        obtain ⟨hl, hw, hlt⟩ := ho.at a0 a1
        have hlen := ho.len
        unfold readF countM at hk
        rw [inM_iff.2 ⟨a0, a1⟩, Bool.not_true, cond_false, dT2 a0 a1, dT hl, hw, isInt_u64, cond_true, intOf_int, Int.toNat_natCast]
        generalize wordAt m a.toNat = c at *
        obtain ⟨d1, d2⟩ := decN_lt c
        refine ⟨by omega, by omega, ?_⟩
        rintro _ rfl _ rfl x3 _
        by_cases h1 : (decN c).2.1 = 1
        · rw [if_neg (show ¬ (decN c).2.1 = 2 by omega), if_pos h1, if_pos (show (((decN c).2.1 : Nat) : Int) = 1 by omega)] at hk
          rw [dT (show (((decN c).2.1 : Nat) : Int) = 1 by omega)]
          rintro _ rfl
          refine ⟨by omega, by omega, ?_⟩
          rintro _ rfl
          refine ⟨hlen, a0, a1, by omega, ?_⟩
          rw [Int.toNat_natCast, Int.toNat_natCast]
          exact hk
        · rw [if_neg h1, if_neg (show ¬ (((decN c).2.1 : Nat) : Int) = 1 by omega)] at hk
          rw [dF (show ¬ (((decN c).2.1 : Nat) : Int) = 1 by omega)]
          by_cases h2 : (decN c).2.1 = 2
          · rw [if_pos h2, if_pos (show (((decN c).2.1 : Nat) : Int) = 2 by omega)] at hk
            rw [dT (show (((decN c).2.1 : Nat) : Int) = 2 by omega)]
            rintro _ rfl
            rw [h2]; exact hk
          · rw [if_neg h2, if_neg (show ¬ (((decN c).2.1 : Nat) : Int) = 2 by omega)] at hk
            rw [dF (show ¬ (((decN c).2.1 : Nat) : Int) = 2 by omega)]
            exact hk
      · rw [if_neg (fun e => h1 (inM_iff.1 e)), if_neg (fun e => h1 (inM_iff.1 e))] at hk
        rw [inM_false h1, Bool.not_false, cond_true]
        exact hk
    · exact hk.elim)
theorem okRaw : SpecOk Tryd.prog G0 23 sRaw :=
  spec2 mixed tC_ok Tryd.func23 (by kernel_rfl : Tryd.f23.body = some (codeOf Tryd.f23)) cRaw rfl rfl rfl (by kernel_rfl) (ids := []) (by kernel_rfl) trivial (by
    intro args h K hk
    unfold sRaw at hk
    split at hk
    · rename_i a
      replace hk := asMem_elim hk
      obtain ⟨m, ty, ty2, mv, mv2, rfl, ho, hk⟩ := hk
      show bRaw m ty ty2 mv mv2 a K
      rw [bRaw_eq]
      refine ⟨ho.le, ?_⟩
      rintro _ rfl
      unfold rawR at hk
      by_cases h1 : 0 ≤ a ∧ a < m.n
      · obtain ⟨hl, hw, hlt⟩ := ho.at h1.1 h1.2
        rw [if_pos (inM_iff.2 h1)] at hk
        rw [chkM_in h1, dnT (show ((0 : Nat) : Int) = 0 from rfl), dT2 h1.1 h1.2, dT hl, hw, isInt_u64, cond_true, intOf_int]
        exact hk
      · rw [if_neg (fun e => h1 (inM_iff.1 e))] at hk
        rw [chkM_out h1, dnF (show ¬ ((2 : Nat) : Int) = 0 by omega)]
        exact hk
    · exact hk.elim)
theorem okRRaw : SpecOk Tryd.prog G0 87 sRaw :=
  spec2 mixed tC_ok Tryd.func87 (by kernel_rfl : Tryd.f87.body = some (codeOf Tryd.f87)) cRRaw rfl rfl rfl (by kernel_rfl) (ids := []) (by kernel_rfl) trivial (by
    intro args h K hk
    unfold sRaw at hk
    split at hk
    · rename_i a
      replace hk := asMem_elim hk
      obtain ⟨m, ty, ty2, mv, mv2, rfl, ho, hk⟩ := hk
      show bRRaw m ty ty2 mv mv2 a K
      rw [bRRaw_eq]
      unfold rawR at hk
      by_cases h1 : 0 ≤ a ∧ a < m.n
      · obtain ⟨hl, hw, hlt⟩ := ho.at h1.1 h1.2
        rw [if_pos (inM_iff.2 h1)] at hk
        rw [inM_iff.2 h1, Bool.not_true, cond_false, dT2 h1.1 h1.2, dT hl, hw, isInt_u64, cond_true, intOf_int]
        exact hk
      · rw [if_neg (fun e => h1 (inM_iff.1 e))] at hk
        rw [inM_false h1, Bool.not_false, cond_true]
        exact hk
    · exact hk.elim)
theorem flip_int {c : Nat} (hc : c < 2 ^ 39) {b : Int} (b0 : 0 ≤ b) (b1 : b < 39) : iXor .u64 (c : Int) (iMul .u64 (1 : Int) ((2 : Int) ^ (if b.toNat ≤ 64 then b.toNat else 64))) = (c ^^^ 2 ^ b.toNat : Nat) := by
  have := (flip_cast hc (show b.toNat < 39 by omega)).1
  rwa [Int.toNat_natCast] at this
theorem okUps : SpecOk Tryd.prog G0 25 sUps :=
  spec2 mixed tC_ok Tryd.func25 (by kernel_rfl : Tryd.f25.body = some (codeOf Tryd.f25)) cUps rfl rfl rfl (by kernel_rfl) (ids := []) (by kernel_rfl) trivial (by
    intro args h K hk
    unfold sUps at hk
    split at hk
    · rename_i a b
      replace hk := asMem_elim hk
      obtain ⟨m, ty, ty2, mv, mv2, rfl, ho, hk⟩ := hk
      show bUps m ty ty2 mv mv2 a b K
      rw [bUps_eq]
      refine ⟨ho.le, ?_⟩
      rintro _ rfl
      unfold upsR upsS at hk
      by_cases h1 : 0 ≤ a ∧ a < m.n
      · obtain ⟨hl, hw, hlt⟩ := ho.at h1.1 h1.2
        rw [chkM_in h1, dT (show ((0 : Nat) : Int) = 0 from rfl)]
        by_cases b0 : b < 0
        · rw [if_neg (by omega), if_neg (by omega)] at hk
          rw [dT b0]; exact hk
        · rw [dF b0]
          by_cases b1 : b ≥ 39
          · rw [if_neg (by omega), if_neg (by omega)] at hk
            rw [dT b1]; exact hk
          · rw [if_pos ⟨inM_iff.2 h1, by omega, by omega⟩, if_pos ⟨inM_iff.2 h1, by omega, by omega⟩] at hk
            rw [dF b1, dT (show ((0 : Nat) : Int) = 0 from rfl), dT (show 0 ≤ b by omega)]
            rintro _ rfl
            rw [dT2 h1.1 h1.2, dT hl, hw, isInt_u64, cond_true, intOf_int]
            rintro _ rfl
            rw [dT2 h1.1 h1.2, dT hl, flip_int hlt (by omega) (by omega)]
            exact hk
      · rw [if_neg (fun e => h1 (inM_iff.1 e.1)), if_neg (fun e => h1 (inM_iff.1 e.1))] at hk
        rw [chkM_out h1, dF (show ¬ ((2 : Nat) : Int) = 0 by omega), dF (show ¬ ((2 : Nat) : Int) = 0 by omega)]
        exact hk
    · exact hk.elim)
theorem okRUps : SpecOk Tryd.prog G0 83 sUps :=
  spec2 mixed tC_ok Tryd.func83 (by kernel_rfl : Tryd.f83.body = some (codeOf Tryd.f83)) cRUps rfl rfl rfl (by kernel_rfl) (ids := []) (by kernel_rfl) trivial (by
    intro args h K hk
    unfold sUps at hk
    split at hk
    · rename_i a b
      replace hk := asMem_elim hk
      obtain ⟨m, ty, ty2, mv, mv2, rfl, ho, hk⟩ := hk
      show bRUps m ty ty2 mv mv2 a b K
      rw [bRUps_eq]
      unfold upsR upsS at hk
      by_cases h1 : 0 ≤ a ∧ a < m.n
      · obtain ⟨hl, hw, hlt⟩ := ho.at h1.1 h1.2
        rw [inM_iff.2 h1, Bool.not_true, cond_false]
        by_cases b0 : b < 0
        · rw [if_neg (by omega), if_neg (by omega)] at hk
          rw [dT b0]; exact hk
        · rw [dF b0]
          by_cases b1 : b ≥ 39
          · rw [if_neg (by omega), if_neg (by omega)] at hk
            rw [dT b1]; exact hk
          · rw [if_pos ⟨inM_iff.2 h1, by omega, by omega⟩, if_pos ⟨inM_iff.2 h1, by omega, by omega⟩] at hk
            rw [dF b1, wrap_u64 (by omega) (by omega)]
            rintro x1 hx1
            rw [hx1, dT (show 0 ≤ b by omega)]
            rintro _ rfl
            rw [dT2 h1.1 h1.2, dT hl, hw, isInt_u64, cond_true, intOf_int, flip_int hlt (by omega) (by omega)]
            have hq : ∀ x3 : Int, x3 = ((wordAt m a.toNat ^^^ 2 ^ b.toNat : Nat) : Int) → bif decide (0 ≤ a) && decide (a < m.n) then (bif decide (a.toNat + 1 ≤ m.W.length) then K (.int .i64 0) [.cells false (memC m) ty mv, .cells true (m.W.set a.toNat (.int .u64 x3)) ty2 mv2] else False) else False := by
              intro x3 hx3
              rw [hx3, dT2 h1.1 h1.2, dT hl]; exact hk
            rw [dT2 h1.1 h1.2]
            exact ⟨hq, hq, hq⟩
      · rw [if_neg (fun e => h1 (inM_iff.1 e.1)), if_neg (fun e => h1 (inM_iff.1 e.1))] at hk
        rw [inM_false h1, Bool.not_false, cond_true]
        exact hk
    · exact hk.elim)
theorem chkM0 {m : Mem} (ho : OkM m) : chkM m 0 = 0 := chkM_in ⟨by omega, by have := ho.pos; omega⟩
theorem okFuse : SpecOk Tryd.prog G0 30 sFuse :=
  spec2 mixed tC_ok Tryd.func30 (by kernel_rfl : Tryd.f30.body = some (codeOf Tryd.f30)) cFuse rfl rfl rfl (by kernel_rfl) (ids := []) (by kernel_rfl) trivial (by
    intro args h K hk
    unfold sFuse at hk
    split at hk
    · rename_i n
      replace hk := asMem_elim hk
      obtain ⟨m, ty, ty2, mv, mv2, rfl, ho, hk⟩ := hk
      show bFuse m ty ty2 mv mv2 n K
      rw [bFuse_eq]
      refine ⟨ho.le, ?_⟩
      rintro _ rfl
      unfold fuseR fuseS at hk
      rw [chkM0 ho, dT (show ((0 : Nat) : Int) = 0 from rfl)]
      by_cases h1 : n < -1
      · rw [if_pos h1, if_pos h1] at hk
        rw [dT h1]; exact hk
      · rw [if_neg h1, if_neg h1] at hk
        rw [dF h1, dT (show ((0 : Nat) : Int) = 0 from rfl)]; exact hk
    · exact hk.elim)
theorem okRFuse : SpecOk Tryd.prog G0 85 sFuse :=
  spec2 mixed tC_ok Tryd.func85 (by kernel_rfl : Tryd.f85.body = some (codeOf Tryd.f85)) cRFuse rfl rfl rfl (by kernel_rfl) (ids := []) (by kernel_rfl) trivial (by
    intro args h K hk
    unfold sFuse at hk
    split at hk
    · rename_i n
      replace hk := asMem_elim hk
      obtain ⟨m, ty, ty2, mv, mv2, rfl, ho, hk⟩ := hk
      show bRFuse m ty ty2 mv mv2 n K
      rw [bRFuse_eq]
      unfold fuseR fuseS at hk
      by_cases h1 : n < -1
      · rw [if_pos h1, if_pos h1] at hk
        rw [dT h1]; exact hk
      · rw [if_neg h1, if_neg h1] at hk
        rw [dF h1]; exact hk
    · exact hk.elim)
theorem okSize : SpecOk Tryd.prog G0 39 sSize :=
  spec2 mixed tC_ok Tryd.func39 (by kernel_rfl : Tryd.f39.body = some (codeOf Tryd.f39)) cSize rfl rfl rfl (by kernel_rfl) (ids := []) (by kernel_rfl) trivial (by
    intro args h K hk
    unfold sSize at hk
    split at hk
    · replace hk := asMem_elim hk
      obtain ⟨m, ty, ty2, mv, mv2, rfl, hk⟩ := hk
      show bSize m ty ty2 mv mv2 K
      rw [bSize_eq]
      refine ⟨⟨?_, ?_⟩, ?_⟩ <;> (rintro _ rfl; exact hk)
    · exact hk.elim)
theorem okBlown : SpecOk Tryd.prog G0 31 sBlown :=
  spec2 mixed tC_ok Tryd.func31 (by kernel_rfl : Tryd.f31.body = some (codeOf Tryd.f31)) cBlown rfl rfl rfl (by kernel_rfl) (ids := []) (by kernel_rfl) trivial (by
    intro args h K hk
    unfold sBlown at hk
    split at hk
    · replace hk := asMem_elim hk
      obtain ⟨m, ty, ty2, mv, mv2, rfl, hk⟩ := hk
      show bBlown m ty ty2 mv mv2 K
      rw [bBlown_eq]
      exact hk
    · exact hk.elim)
theorem okCounts : SpecOk Tryd.prog G0 29 sCounts :=
  spec2 mixed tC_ok Tryd.func29 (by kernel_rfl : Tryd.f29.body = some (codeOf Tryd.f29)) cCounts rfl rfl rfl (by kernel_rfl) (ids := []) (by kernel_rfl) trivial (by
    intro args h K hk
    unfold sCounts at hk
    split at hk
    · replace hk := asMem_elim hk
      obtain ⟨m, ty, ty2, mv, mv2, rfl, hk⟩ := hk
      show bCounts m ty ty2 mv mv2 K
      rw [bCounts_eq]
      exact hk
    · exact hk.elim)
theorem newB_iff {n s : Int} : newB n s = true ↔ 1 ≤ n ∧ n ≤ 16384 ∧ 0 ≤ s ∧ s ≤ n := by
  unfold newB
  simp only [Bool.and_eq_true, decide_eq_true_eq]
  constructor
  · rintro ⟨⟨⟨h1, h2⟩, h3⟩, h4⟩; exact ⟨h1, h2, h3, h4⟩
  · rintro ⟨h1, h2, h3, h4⟩; exact ⟨⟨⟨h1, h2⟩, h3⟩, h4⟩
theorem newB_false {n s : Int} (h : ¬ (1 ≤ n ∧ n ≤ 16384 ∧ 0 ≤ s ∧ s ≤ n)) : newB n s = false := by rw [← Bool.not_eq_true]; exact fun e => h (newB_iff.1 e)
theorem new_room {n : Int} (h1 : 1 ≤ n) (h2 : n ≤ 16384) : (((((((decide ((0 : Int) ≤ n)) && (decide (n ≤ n))) && (decide (n ≤ (9223372036854775807 : Int)))) && (decide (((8 : Int) * n : Int) ≤ (281474976710656 : Int)))) && Bool.true) && Bool.true) && Bool.true) = true := by
  rw [decide_eq_true (show (0 : Int) ≤ n by omega), decide_eq_true (show n ≤ n by omega), decide_eq_true (show n ≤ 9223372036854775807 by omega), decide_eq_true (show 8 * n ≤ 281474976710656 by omega)]; rfl
theorem okNew : SpecOk Tryd.prog G0 21 (sNew 70) :=
  spec2 mixed tC_ok Tryd.func21 (by kernel_rfl : Tryd.f21.body = some (codeOf Tryd.f21)) cNew rfl rfl rfl (by kernel_rfl) (ids := []) (by kernel_rfl) trivial (by
    intro args h K hk
    unfold sNew at hk
    split at hk
    · rename_i n s
      show bNew n s K
      rw [bNew_eq]
      by_cases h1 : n < 1
      · rw [dT h1]; exact hk.2 (newB_false (by omega))
      · rw [dF h1]
        by_cases h2 : n > 16384
        · rw [dT h2]; exact hk.2 (newB_false (by omega))
        · rw [dF h2]
          by_cases h3 : s < 0
          · rw [dT h3]; exact hk.2 (newB_false (by omega))
          · rw [dF h3]
            by_cases h4 : s > n
            · rw [dT h4]; exact hk.2 (newB_false (by omega))
            · rw [dF h4, new_room (by omega) (by omega), cond_true]
              exact hk.1 (newB_iff.2 ⟨by omega, by omega, by omega, by omega⟩)
    · exact hk.elim)
theorem okRNew : SpecOk Tryd.prog G0 36 (sNew 148) :=
  spec2 mixed tC_ok Tryd.func36 (by kernel_rfl : Tryd.f36.body = some (codeOf Tryd.f36)) cRNew rfl rfl rfl (by kernel_rfl) (ids := []) (by kernel_rfl) trivial (by
    intro args h K hk
    unfold sNew at hk
    split at hk
    · rename_i n s
      show bRNew n s K
      rw [bRNew_eq]
      by_cases h1 : n < 1
      · rw [dT h1]; exact hk.2 (newB_false (by omega))
      · rw [dF h1]
        by_cases h2 : n > 16384
        · rw [dT h2]; exact hk.2 (newB_false (by omega))
        · rw [dF h2]
          by_cases h3 : s < 0
          · rw [dT h3]; exact hk.2 (newB_false (by omega))
          · rw [dF h3]
            by_cases h4 : s > n
            · rw [dT h4]; exact hk.2 (newB_false (by omega))
            · rw [dF h4, new_room (by omega) (by omega), cond_true]
              exact hk.1 (newB_iff.2 ⟨by omega, by omega, by omega, by omega⟩)
    · exact hk.elim)
end Go.Am.Mem
