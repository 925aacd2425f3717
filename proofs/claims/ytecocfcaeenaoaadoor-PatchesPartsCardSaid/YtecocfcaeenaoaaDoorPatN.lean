/-
  Patches: none, begun, Staged, Cancel, active, New: summaries. Own work.
-/
import Derived.Test.YtecocfcaeenaoaaDoorPatM
namespace Go.Am.Pat
open Go Go.Am Go.Am.Ham Go.Am.Mem Go.Proofs
set_option maxRecDepth 100000

theorem okNoneS : SpecOk Tryd.prog G0 31 sNone :=
  spec2 mixed none_ok Tryd.func31 (by kernel_rfl : Tryd.f31.body = some (codeOf Tryd.f31)) cNone rfl rfl rfl (by kernel_rfl) (ids := []) (by kernel_rfl) trivial (by
    intro args h K hk
    unfold sNone at hk
    split at hk
    · rcases asSto_elim hk with ⟨s, m, t, rfl, hk⟩ | ⟨s, m, g, t, rfl, hk⟩
      · show bNoneA s m t K
        rw [bNoneA_eq]; exact hk
      · show bNoneB s m g t K
        rw [bNoneB_eq]; exact hk
    · exact hk.elim)
theorem tM_ok : AllOk Tryd.prog G0 tM := ⟨okNoneS, okValid, okAt, okWords, okSize, trivial⟩
theorem okBegun : SpecOk Tryd.prog G0 32 sBegun :=
  spec2 mixed tM_ok Tryd.func32 (by kernel_rfl : Tryd.f32.body = some (codeOf Tryd.f32)) cBegun rfl rfl rfl (by kernel_rfl) (ids := []) (by kernel_rfl) trivial (by
    intro args h K hk
    unfold sBegun at hk
    split at hk
    · rcases asSto_elim hk with ⟨s, m, t, rfl, hk⟩ | ⟨s, m, g, t, rfl, hk⟩
      · show bBegunA s m t K
        rw [bBegunA_eq]; exact hk
      · show bBegunB s m g t K
        rw [bBegunB_eq]; exact hk
    · exact hk.elim)
theorem tM2_ok : AllOk Tryd.prog G0 tM2 := ⟨okBegun, tM_ok⟩
def sStaged : Spec := fun args h K => match args with
  | [.pointer (some ⟨0, 0, some 0⟩)] => asSto h (fun s m t => K (.tuple ⟨[.int .u32 0, .int .i64 0, .bool false]⟩) (stA s m t)) (fun _ _ _ _ => False)
  | _ => False
theorem okStaged : SpecOk Tryd.prog G0 15 sStaged :=
  spec2 mixed tM_ok Tryd.func15 (by kernel_rfl : Tryd.f15.body = some (codeOf Tryd.f15)) cStaged rfl rfl rfl (by kernel_rfl) (ids := []) (by kernel_rfl) trivial (by
    intro args h K hk
    unfold sStaged at hk
    split at hk
    · rcases asSto_elim hk with ⟨s, m, t, rfl, hk⟩ | ⟨s, m, g, t, rfl, hk⟩
      · show bStagedA s m t K
        rw [bStagedA_eq]; exact hk
      · exact hk.elim
    · exact hk.elim)
def stgC (g : Stg) : List Value := [.int .u32 g.id, .int .u32 g.sum, .int .i64 g.len, .int .i64 g.bank]
def sCancel : Spec := fun args h K => match args with
  | [.pointer (some ⟨0, 0, some 0⟩)] => asSto h (fun s m t => K (.int .i64 9) (stA s m t)) (fun s m g t => K (.int .i64 0) (stA1 s m t (.cells true (stgC g) t.t3 t.v3)))
  | _ => False
theorem okCancel : SpecOk Tryd.prog G0 22 sCancel :=
  spec2 mixed tM2_ok Tryd.func22 (by kernel_rfl : Tryd.f22.body = some (codeOf Tryd.f22)) cCancel rfl rfl rfl (by kernel_rfl) (ids := []) (by kernel_rfl) trivial (by
    intro args h K hk
    unfold sCancel at hk
    split at hk
    · rcases asSto_elim hk with ⟨s, m, t, rfl, hk⟩ | ⟨s, m, g, t, rfl, hk⟩
      · show bCancelA s m t K
        rw [bCancelA_eq]
        rintro x1 h1
        rw [dF (by omega), h1]; exact hk
      · show bCancelB s m g t K
        rw [bCancelB_eq]
        rintro x1 h1
        rw [dT (by omega), h1]; exact hk
    · exact hk.elim)

/-! ### the active bank -/
def acM (s : Sto) (m : Mem) : Mem := rdM s (rdM s m 0) 1
/-- its number -/
def acN (s : Sto) (m : Mem) : Option Int :=
  if rdOk s m 0 = true then (if rdOk s (rdM s m 0) 1 = true ∧ wN (rdH s m 0) 0 < wN (rdH s (rdM s m 0) 1) 0 then some 1 else some 0)
  else if rdOk s (rdM s m 0) 1 = true then some 1 else none
def acW (s : Sto) (m : Mem) : List Int := if acN s m = some 1 then rdH s (rdM s m 0) 1 else rdH s m 0
def acD (s : Sto) (m : Mem) : ByteArray := if acN s m = some 1 then rdD s (rdM s m 0) 1 else rdD s m 0
def sAct : Spec := fun args h K => match args with
  | [.pointer (some ⟨0, 0, some 0⟩)] => asSto h
      (fun s m t => OkS s ∧ OkM m ∧ Fits s m ∧ ∀ m', m' = acM s m → (acN s m = none → K (.pointer none) (stA s m' t)) ∧
        (∀ n w d, acN s m = some n → w = acW s m → d = acD s m → K (ptr 3) (stA1 s m' t (.cells true [.int .i64 n, .int .u32 (wN w 0), .int .u32 (wN w 1), .int .u32 (wN w 2), .int .u32 (wN w 3), .int .u32 (wN w 4), .string d] 79 false))))
      (fun s m g t => OkS s ∧ OkM m ∧ Fits s m ∧ ∀ m', m' = acM s m → (acN s m = none → K (.pointer none) (stB' s m' g t)) ∧
        (∀ n w d, acN s m = some n → w = acW s m → d = acD s m → K (ptr 4) (stB1 s m' g t (.cells true [.int .i64 n, .int .u32 (wN w 0), .int .u32 (wN w 1), .int .u32 (wN w 2), .int .u32 (wN w 3), .int .u32 (wN w 4), .string d] 79 false))))
  | _ => False
theorem rbS_ok {m : Mem} (a n : Int) (h : OkM m) : OkM (rbS m a n) ∧ (rbS m a n).n = m.n := by
  unfold rbS
  split
  · exact rbM_ok _ _ h
  · exact ⟨h, rfl⟩
theorem rdM_ok {s : Sto} {m : Mem} (n : Int) (h : OkM m) : OkM (rdM s m n) ∧ (rdM s m n).n = m.n := by
  have h1 := rbM_ok 5 (rdA0 s n) h
  cases hh : rdHO s m n with
  | true =>
    rw [rdM_yes hh]
    have h2 := rbS_ok (bankAt s n + 5) (wN (rdH s m n) 2) h1.1
    exact ⟨h2.1, h2.2.trans h1.2⟩
  | false => rw [rdM_no hh]; exact h1
theorem fits_eq {s : Sto} {m m' : Mem} (h : m'.n = m.n) (f : Fits s m) : Fits s m' := by unfold Fits at f ⊢; rw [h]; exact f
theorem acN_nn {s : Sto} {m : Mem} (h0 : rdOk s m 0 = false) (h1 : rdOk s (rdM s m 0) 1 = false) : acN s m = none := by
  unfold acN; rw [h0, h1, if_neg (by decide), if_neg (by decide)]
theorem acN_ny {s : Sto} {m : Mem} (h0 : rdOk s m 0 = false) (h1 : rdOk s (rdM s m 0) 1 = true) : acN s m = some 1 := by
  unfold acN; rw [h0, h1, if_neg (by decide), if_pos rfl]
theorem acN_yn {s : Sto} {m : Mem} (h0 : rdOk s m 0 = true) (h1 : rdOk s (rdM s m 0) 1 = false) : acN s m = some 0 := by
  unfold acN; rw [h0, h1, if_pos rfl, if_neg (fun h => by cases h.1)]
theorem acN_0 {s : Sto} {m : Mem} (h0 : rdOk s m 0 = true) (h : ¬ wN (rdH s m 0) 0 < wN (rdH s (rdM s m 0) 1) 0) : acN s m = some 0 := by
  unfold acN; rw [h0, if_pos rfl, if_neg (fun h' => h h'.2)]
theorem acN_1 {s : Sto} {m : Mem} (h0 : rdOk s m 0 = true) (h1 : rdOk s (rdM s m 0) 1 = true) (h : wN (rdH s m 0) 0 < wN (rdH s (rdM s m 0) 1) 0) : acN s m = some 1 := by
  unfold acN; rw [h0, h1, if_pos rfl, if_pos ⟨rfl, h⟩]
theorem acW_1 {s : Sto} {m : Mem} (h : acN s m = some 1) : acW s m = rdH s (rdM s m 0) 1 ∧ acD s m = rdD s (rdM s m 0) 1 := by
  unfold acW acD; rw [if_pos h, if_pos h]; exact ⟨rfl, rfl⟩
theorem acW_0 {s : Sto} {m : Mem} (h : acN s m = some 0) : acW s m = rdH s m 0 ∧ acD s m = rdD s m 0 := by
  unfold acW acD; rw [if_neg (by rw [h]; decide), if_neg (by rw [h]; decide)]; exact ⟨rfl, rfl⟩
def bkO (n : Int) (w : List Int) (d : ByteArray) : AObj := .cells true [.int .i64 n, .int .u32 (wN w 0), .int .u32 (wN w 1), .int .u32 (wN w 2), .int .u32 (wN w 3), .int .u32 (wN w 4), .string d] 79 false
theorem okAct : SpecOk Tryd.prog G0 35 sAct := by
  have part : ∀ {s : Sto} {m : Mem} (K1 : Mem → Prop) (K2 : Mem → Int → List Int → ByteArray → Prop), OkS s → OkM m → Fits s m → (∀ m', m' = acM s m → (acN s m = none → K1 m') ∧ (∀ n w d, acN s m = some n → w = acW s m → d = acD s m → K2 m' n w d)) →
      (OkS s ∧ OkM m ∧ Fits s m ∧ (0 : Int) ≤ 0 ∧ (0 : Int) ≤ 1 ∧ ∀ x1, x1 = rdM s m 0 → (rdOk s m 0 = false → OkS s ∧ OkM x1 ∧ Fits s x1 ∧ (0 : Int) ≤ 1 ∧ (1 : Int) ≤ 1 ∧ ∀ x2, x2 = rdM s x1 1 → (rdOk s x1 1 = false → K1 x2) ∧ (rdOk s x1 1 = true → ∀ x3 x4, x3 = rdH s x1 1 → x4 = rdD s x1 1 → K2 x2 1 x3 x4)) ∧
        (rdOk s m 0 = true → ∀ x5 x6, x5 = rdH s m 0 → x6 = rdD s m 0 → OkS s ∧ OkM x1 ∧ Fits s x1 ∧ (0 : Int) ≤ 1 ∧ (1 : Int) ≤ 1 ∧ ∀ x7, x7 = rdM s x1 1 → (rdOk s x1 1 = false → K2 x7 0 x5 x6 ∧ K2 x7 0 x5 x6) ∧
          (rdOk s x1 1 = true → ∀ x8 x9, x8 = rdH s x1 1 → x9 = rdD s x1 1 → cond (decide (wN x8 0 ≤ wN x5 0)) (K2 x7 0 x5 x6) (K2 x7 1 x8 x9)))) := by
    intro s m K1 K2 o hm f hk
    have ok1 := rdM_ok (s := s) 0 hm
    have f1 := fits_eq ok1.2 f
    refine ⟨o, hm, f, by omega, by omega, fun x1 h1 => ?_⟩
    subst h1
    refine ⟨fun h0 => ⟨o, ok1.1, f1, by omega, by omega, fun x2 h2 => ⟨fun h1 => (hk x2 h2).1 (acN_nn h0 h1), fun h1 x3 x4 h3 h4 => ?_⟩⟩, fun h0 x5 x6 h5 h6 => ⟨o, ok1.1, f1, by omega, by omega, fun x7 h7 => ⟨fun h1 => ?_, fun h1 x8 x9 h8 h9 => ?_⟩⟩⟩
    · have e := acN_ny h0 h1
      exact (hk x2 h2).2 1 x3 x4 e (h3.trans (acW_1 e).1.symm) (h4.trans (acW_1 e).2.symm)
    · have e := acN_yn h0 h1
      have := (hk x7 h7).2 0 x5 x6 e (h5.trans (acW_0 e).1.symm) (h6.trans (acW_0 e).2.symm)
      exact ⟨this, this⟩
    · by_cases c : wN x8 0 ≤ wN x5 0
      · rw [decide_eq_true c, cond_true]
        have e := acN_0 h0 (by rw [← h5, ← h8]; omega)
        exact (hk x7 h7).2 0 x5 x6 e (h5.trans (acW_0 e).1.symm) (h6.trans (acW_0 e).2.symm)
      · rw [decide_eq_false c, cond_false]
        have e := acN_1 h0 h1 (by rw [← h5, ← h8]; omega)
        exact (hk x7 h7).2 1 x8 x9 e (h8.trans (acW_1 e).1.symm) (h9.trans (acW_1 e).2.symm)
  have okA : SpecOk Tryd.prog G0 35 (fun args h K => match args with
      | [.pointer (some ⟨0, 0, some 0⟩)] => asSto h (fun _ _ _ => sAct args h K) (fun _ _ _ _ => False)
      | _ => False) :=
    spec2 mixed tM_ok Tryd.func35 (by kernel_rfl : Tryd.f35.body = some (codeOf Tryd.f35)) cActA rfl rfl rfl (by kernel_rfl) (ids := []) (by kernel_rfl) trivial (by
      intro args h K hk
      split at hk
      · rcases asSto_elim hk with ⟨s, m, t, rfl, hk⟩ | ⟨s, m, g, t, rfl, hk⟩
        · obtain ⟨o, hm, f, hk⟩ := hk
          show bActA s m t K
          rw [bActA_eq]
          exact part (fun m' => K (.pointer none) (stA s m' t)) (fun m' n w d => K (ptr 3) (stA1 s m' t (bkO n w d))) o hm f hk
        · exact hk.elim
      · exact hk.elim)
  have okB : SpecOk Tryd.prog G0 35 (fun args h K => match args with
      | [.pointer (some ⟨0, 0, some 0⟩)] => asSto h (fun _ _ _ => False) (fun _ _ _ _ => sAct args h K)
      | _ => False) :=
    spec2 mixed tM_ok Tryd.func35 (by kernel_rfl : Tryd.f35.body = some (codeOf Tryd.f35)) cActB rfl rfl rfl (by kernel_rfl) (ids := []) (by kernel_rfl) trivial (by
      intro args h K hk
      split at hk
      · rcases asSto_elim hk with ⟨s, m, t, rfl, hk⟩ | ⟨s, m, g, t, rfl, hk⟩
        · exact hk.elim
        · obtain ⟨o, hm, f, hk⟩ := hk
          show bActB s m g t K
          rw [bActB_eq]
          exact part (fun m' => K (.pointer none) (stB' s m' g t)) (fun m' n w d => K (ptr 4) (stB1 s m' g t (bkO n w d))) o hm f hk
      · exact hk.elim)
  intro W0 hG args h K hk
  have hk' := hk
  unfold sAct at hk'
  split at hk'
  · rcases asSto_elim hk' with ⟨s, m, t, rfl, h2⟩ | ⟨s, m, g, t, rfl, h2⟩
    · exact okA W0 hG _ _ _ hk
    · exact okB W0 hG _ _ _ hk
  · exact hk'.elim

/-! ### New -/
def newOk (m : Mem) (b z : Int) : Bool := decide (4 ≤ z) && decide (z ≤ 8192) && decide (0 ≤ b) && decide (b ≤ m.safe - wordsN z)
def sPNew : Spec := fun args h K => match args with
  | [.pointer (some ⟨0, 0, some 0⟩), .int .i64 b, .int .i64 z] => asMem h fun m ty ty2 mv mv2 => OkM m ∧
      (newOk m b z = true → ∀ s, s = Sto.mk b z → OkS s → K (.tuple ⟨[ptr 2, .int .i64 0]⟩) [.cells false (memC m) ty mv, .cells true m.W ty2 mv2, .cells false [ptr 0, .int .i64 s.base, .int .i64 s.size, .pointer none] 59 false]) ∧
      (newOk m b z = false → K (.tuple ⟨[.pointer none, .int .i64 2]⟩) (memH m ty ty2 mv mv2))
  | _ => False
theorem okPNew : SpecOk Tryd.prog G0 12 sPNew :=
  spec2 mixed tM_ok Tryd.func12 (by kernel_rfl : Tryd.f12.body = some (codeOf Tryd.f12)) cPNew rfl rfl rfl (by kernel_rfl) (ids := []) (by kernel_rfl) trivial (by
    intro args h K hk
    unfold sPNew at hk
    split at hk
    · rename_i b z
      replace hk := asMem_elim hk
      obtain ⟨m, ty, ty2, mv, mv2, rfl, hm, k1, k2⟩ := hk
      show bPNew m ty ty2 mv mv2 b z K
      rw [bPNew_eq]
      have := hm.pos; have := hm.le; have := hm.safe0; have := hm.safe1
      have hw : wordsN z = if z < 4 ∨ z > 8192 then 0 else 2 * (5 + (z + 3) / 4) := rfl
      intro x1 h1 x2 h2
      rw [dF (by omega)]
      intro x3 h3
      by_cases c1 : x3 = 0
      · rw [dT c1]
        refine k2 ?_
        unfold newOk
        have : z < 4 ∨ z > 8192 := by
          rcases Classical.em (z < 4 ∨ z > 8192) with h | h
          · exact h
          · rw [if_neg h] at hw; omega
        rcases this with h | h
        · rw [decide_eq_false (show ¬ 4 ≤ z by omega), Bool.false_and, Bool.false_and, Bool.false_and]
        · rw [decide_eq_false (show ¬ z ≤ 8192 by omega), Bool.and_false, Bool.false_and, Bool.false_and]
      · rw [dF c1]
        have hz : ¬ (z < 4 ∨ z > 8192) := fun h => c1 (by rw [h3, hw, if_pos h])
        rw [if_neg hz] at hw
        by_cases c2 : b < 0
        · rw [dT c2]
          refine k2 ?_
          unfold newOk
          rw [decide_eq_false (show ¬ 0 ≤ b by omega), Bool.and_false, Bool.false_and]
        · rw [dF c2]
          intro x4 h4 x5 h5
          rw [iSub_i64 (by omega) (by omega)] at h5
          by_cases c3 : b > x5
          · rw [dT c3]
            refine k2 ?_
            unfold newOk
            rw [decide_eq_false (show ¬ b ≤ m.safe - wordsN z by omega), Bool.and_false]
          · rw [dF c3]
            refine k1 ?_ _ rfl ⟨by show 0 ≤ b; omega, by show b ≤ 16384; omega, by show 4 ≤ z; omega, by show z ≤ 8192; omega⟩
            unfold newOk
            rw [decide_eq_true (show 4 ≤ z by omega), decide_eq_true (show z ≤ 8192 by omega), decide_eq_true (show 0 ≤ b by omega), decide_eq_true (show b ≤ m.safe - wordsN z by omega)]; rfl
    · exact hk.elim)
end Go.Am.Pat
