/-
  Patches: Begin, Data, Active, Commit: summaries. Own work.
-/
import Derived.Test.YtecocfcaeenaoaaDoorPatO2
namespace Go.Am.Pat
open Go Go.Am Go.Am.Ham Go.Am.Mem Go.Proofs
set_option maxRecDepth 100000

theorem acM_ok {s : Sto} {m : Mem} (h : OkM m) : OkM (acM s m) ∧ (acM s m).n = m.n := by
  have h0 := rdM_ok (s := s) 0 h
  have h1 := rdM_ok (s := s) 1 h0.1
  exact ⟨h1.1, h1.2.trans h0.2⟩
theorem acN_01 {s : Sto} {m : Mem} {n : Int} (h : acN s m = some n) : n = 0 ∨ n = 1 := by
  unfold acN at h
  split at h
  · split at h
    · injection h with h; exact Or.inr h.symm
    · injection h with h; exact Or.inl h.symm
  · split at h
    · injection h with h; exact Or.inr h.symm
    · cases h
theorem acW_u32 (s : Sto) (m : Mem) (i : Nat) : U32 (wN (acW s m) i) := by
  unfold acW; split <;> exact rdW_u32 _ _ _ _
def otherN (s : Sto) (m : Mem) : Int := match acN s m with | none => 0 | some n => 1 - n
def fullB (s : Sto) (m : Mem) : Bool := match acN s m with | none => false | some _ => decide (wN (acW s m) 0 = 4294967295)
theorem other_none {s : Sto} {m : Mem} (h : acN s m = none) : otherN s m = 0 ∧ fullB s m = false := by unfold otherN fullB; rw [h]; exact ⟨rfl, rfl⟩
theorem other_some {s : Sto} {m : Mem} {n : Int} (h : acN s m = some n) : otherN s m = 1 - n ∧ fullB s m = decide (wN (acW s m) 0 = 4294967295) := by unfold otherN fullB; rw [h]; exact ⟨rfl, rfl⟩
theorem other_01 (s : Sto) (m : Mem) : 0 ≤ otherN s m ∧ otherN s m ≤ 1 := by
  cases h : acN s m with
  | none => rw [(other_none h).1]; omega
  | some n => rw [(other_some h).1]; rcases acN_01 h with rfl | rfl <;> omega
def tyB (t : Tys) : Tys := { t with t3 := 71, v3 := false }
def sBegin : Spec := fun args h K => match args with
  | [.pointer (some ⟨0, 0, some 0⟩), .int .u32 id, .int .i64 len, .int .u32 sum] => asSto h (fun s m t => OkS s ∧ OkM m ∧ Fits s m ∧
      (¬ (0 ≤ len ∧ len ≤ s.size) → K (.int .i64 2) (stA s m t)) ∧ (0 ≤ len ∧ len ≤ s.size → ∀ m', m' = acM s m →
        (fullB s m = true → K (.int .i64 5) (stA s m' t)) ∧
        (fullB s m = false → ∀ o, o = otherN s m → ∀ m2, m2 = writeS m' (bankAt s o) 0 → K (.int .i64 0) (stB' s m2 ⟨id, sum, len, o⟩ (tyB t))))) (fun _ _ _ _ => False)
  | _ => False
theorem tO_ok : AllOk Tryd.prog G0 tO := ⟨okAct, weaken okWrite iWrite, okWB, tM2_ok⟩
theorem okBegin : SpecOk Tryd.prog G0 19 sBegin :=
  spec2 mixed tO_ok Tryd.func19 (by kernel_rfl : Tryd.f19.body = some (codeOf Tryd.f19)) cBegin rfl rfl rfl (by kernel_rfl) (ids := []) (by kernel_rfl) trivial (by
    intro args h K hk
    unfold sBegin at hk
    split at hk
    · rename_i id len sum
      rcases asSto_elim hk with ⟨s, m, t, rfl, o, hm, f, k1, k2⟩ | ⟨s, m, g, t, rfl, hk⟩
      · show bBegin s m t id len sum K
        rw [bBegin_eq]
        by_cases c1 : len < 0
        · rw [dT c1]; exact k1 (by omega)
        rw [dF c1]
        by_cases c2 : len > s.size
        · rw [dT c2]; exact k1 (by omega)
        rw [dF c2]
        replace k2 := k2 (by omega)
        have hok := (acM_ok (s := s) hm).1
        refine ⟨o, hm, f, fun x1 h1 => ?_⟩
        obtain ⟨k3, k4⟩ := k2 x1 h1
        rw [← h1] at hok
        have fin : ∀ z : Int, z = otherN s m → fullB s m = false → (OkS s ∧ 0 ≤ z ∧ z ≤ 1 ∧ ∀ x2, x2 = bankAt s z → ∀ x3, x3 = x2 → OkM x1 ∧ (0 : Int) ≤ 0 ∧ (0 : Int) < 4294967296 ∧ ∀ x4, x4 = writeS x1 x3 0 → ∀ x5, x5 = ((chkM x1 x3 : Nat) : Int) → K (.int .i64 0) (stB' s x4 ⟨id, sum, len, z⟩ (tyB t))) := by
          intro z hz hf
          have := other_01 s m
          refine ⟨o, by omega, by omega, fun x2 h2 x3 h3 => ⟨hok, by omega, by omega, fun x4 h4 x5 _ => ?_⟩⟩
          subst h3; subst h2
          exact k4 hf z hz x4 h4
        refine ⟨fun hn => ?_, fun x10 x11 x12 hn h11 _ => ?_⟩
        · have := fin 0 (other_none hn).1.symm (other_none hn).2
          exact ⟨this, this⟩
        · obtain ⟨e1, e2⟩ := other_some hn
          by_cases c : wN x11 0 = 4294967295
          · rw [dT c]; exact k3 (by rw [e2, ← h11, decide_eq_true c])
          · rw [dF c]
            intro x13 h13
            have hb := acN_01 hn
            rw [iSub_i64 (by omega) (by omega)] at h13
            have := fin x13 (by omega) (by rw [e2, ← h11, decide_eq_false c])
            exact ⟨this, this⟩
      · exact hk.elim
    · exact hk.elim)

def okDat (g : Stg) (a n : Int) : Bool := decide (0 ≤ a) && decide (a % 4 = 0) && decide (n + a ≤ g.len) && (decide (n % 4 = 0) || decide (n + a = g.len))
def sData : Spec := fun args h K => match args with
  | [.pointer (some ⟨0, 0, some 0⟩), .int .i64 a, .string d] => asSto h (fun _ _ _ => False) (fun s m g t => OkS s ∧ OkM m ∧ Fits s m ∧ g.len ≤ s.size ∧ 0 ≤ g.bank ∧ g.bank ≤ 1 ∧ -100000 ≤ a ∧ a ≤ 100000 ∧ d.size ≤ 100000 ∧
      (okDat g a ((d.size : Nat) : Int) = false → K (.int .i64 2) (stB' s m g t)) ∧ (okDat g a ((d.size : Nat) : Int) = true → ∀ m', m' = wbM (lenW d.size) m (bankAt s g.bank + 5 + a / 4).toNat d 0 → K (.int .i64 0) (stB' s m' g t)))
  | _ => False
theorem okData : SpecOk Tryd.prog G0 21 sData :=
  spec2 mixed tO_ok Tryd.func21 (by kernel_rfl : Tryd.f21.body = some (codeOf Tryd.f21)) cData rfl rfl rfl (by kernel_rfl) (ids := []) (by kernel_rfl) trivial (by
    intro args h K hk
    unfold sData at hk
    split at hk
    · rename_i a d
      rcases asSto_elim hk with ⟨s, m, t, rfl, hk⟩ | ⟨s, m, g, t, rfl, o, hm, f, z1, b0, b1, a0, a1, d1, k1, k2⟩
      · exact hk.elim
      · show bData s m g t a d K
        rw [bData_eq]
        have hz := o.z1
        have no : okDat g a ((d.size : Nat) : Int) = false → K (.int .i64 2) (stB' s m g t) := k1
        intro x1 h1
        rw [dnT (by omega)]
        intro x2 h2 x3 h3
        rw [iAdd_i64 (by omega) (by omega)] at h3
        by_cases c1 : a < 0
        · rw [dT c1]
          refine no ?_
          unfold okDat; rw [decide_eq_false (by omega), Bool.false_and, Bool.false_and, Bool.false_and]
        rw [dF c1]
        intro x4 h4
        rw [Int.tmod_eq_emod_of_nonneg (by omega)] at h4
        by_cases c2 : x4 = 0
        · rw [dnT c2]
          by_cases c3 : a > g.len
          · rw [dT c3]
            refine no ?_
            unfold okDat; rw [decide_eq_false (show ¬ ((d.size : Nat) : Int) + a ≤ g.len by omega), Bool.and_false, Bool.false_and]
          rw [dF c3]
          by_cases c4 : x3 > g.len
          · rw [dT c4]
            refine no ?_
            unfold okDat; rw [decide_eq_false (show ¬ ((d.size : Nat) : Int) + a ≤ g.len by omega), Bool.and_false, Bool.false_and]
          rw [dF c4]
          intro x5 h5 x6 h6
          rw [Int.tmod_eq_emod_of_nonneg (by omega)] at h6
          have fin : okDat g a ((d.size : Nat) : Int) = true → ∀ x7, x7 = IntKind.wrap .i64 (Int.tdiv a 4) → (OkS s ∧ 0 ≤ g.bank ∧ g.bank ≤ 1 ∧ ∀ x8, x8 = bankAt s g.bank → ∀ x9, x9 = x8 → ∀ x10, x10 = iAdd .i64 x9 5 → ∀ x11, x11 = iAdd .i64 x10 x7 → OkM m ∧ ∀ x12, x12 = ite (roomM m x11 ((d.size : Nat) : Int) = 0) (wbM (lenW d.size) m (Int.toNat x11) d 0) m →
              ∀ x13, x13 = ((roomM m x11 ((d.size : Nat) : Int) : Nat) : Int) → K (.int .i64 x13) (stB' s x12 g t)) := by
            intro hok x7 h7
            rw [Int.tdiv_eq_ediv_of_nonneg (by omega), wrap_i64 (by omega) (by omega)] at h7
            have hb : g.bank = 0 ∨ g.bank = 1 := by omega
            have f' := f
            unfold Fits at f'
            obtain ⟨r0, r1, r2⟩ := bank_range o f hm b0 b1
            have hr : bankAt s g.bank + (5 + (s.size + 3) / 4) ≤ m.n := by
              unfold bankAt at f' ⊢
              have := o.b0; have := o.z0
              rcases hb with e | e <;> rw [e] <;> omega
            refine ⟨o, b0, b1, fun x8 h8 x9 h9 x10 h10 x11 h11 => ⟨hm, fun x12 h12 x13 h13 => ?_⟩⟩
            rw [h9, h8, iAdd_i64 (by omega) (by omega)] at h10
            rw [h10, h7, iAdd_i64 (by omega) (by omega)] at h11
            have hroom : roomM m x11 ((d.size : Nat) : Int) = 0 := by
              unfold roomM; rw [if_pos]
              omega
            rw [hroom] at h13
            rw [if_pos hroom] at h12
            rw [h13]
            exact k2 hok x12 (by rw [h12, h11])
          by_cases c5 : x6 = 0
          · rw [dnT c5]
            intro x7 h7
            have := fin (by unfold okDat; rw [decide_eq_true (show (0 : Int) ≤ a by omega), decide_eq_true (show a % 4 = 0 by omega), decide_eq_true (show ((d.size : Nat) : Int) + a ≤ g.len by omega), decide_eq_true (show ((d.size : Nat) : Int) % 4 = 0 by omega)]; rfl) x7 h7
            exact ⟨this, this, this, this⟩
          · rw [dnF c5]
            by_cases c6 : x3 = g.len
            · rw [dnT c6]
              intro x7 h7
              have := fin (by unfold okDat; rw [decide_eq_true (show (0 : Int) ≤ a by omega), decide_eq_true (show a % 4 = 0 by omega), decide_eq_true (show ((d.size : Nat) : Int) + a ≤ g.len by omega), decide_eq_true (show ((d.size : Nat) : Int) + a = g.len by omega)]; simp) x7 h7
              exact ⟨this, this, this, this⟩
            · rw [dnF c6]
              refine no ?_
              unfold okDat; rw [decide_eq_false (show ¬ ((d.size : Nat) : Int) % 4 = 0 by omega), decide_eq_false (show ¬ ((d.size : Nat) : Int) + a = g.len by omega)]; simp
        · rw [dnF c2]
          refine no ?_
          unfold okDat; rw [decide_eq_false (show ¬ a % 4 = 0 by omega), Bool.and_false, Bool.false_and, Bool.false_and]
    · exact hk.elim)

def sActive : Spec := fun args h K => match args with
  | [.pointer (some ⟨0, 0, some 0⟩)] => asSto h
      (fun s m t => OkS s ∧ OkM m ∧ Fits s m ∧ ∀ m', m' = acM s m → (acN s m = none → K (.tuple ⟨[.int .u32 0, .string ⟨⟨[]⟩⟩, .int .u32 0, .int .i64 4]⟩) (stA s m' t)) ∧
        (∀ n, acN s m = some n → K (.tuple ⟨[.int .u32 (wN (acW s m) 1), .string (acD s m), .int .u32 (wN (acW s m) 0), .int .i64 0]⟩) (stA s m' t)))
      (fun s m g t => OkS s ∧ OkM m ∧ Fits s m ∧ ∀ m', m' = acM s m → (acN s m = none → K (.tuple ⟨[.int .u32 0, .string ⟨⟨[]⟩⟩, .int .u32 0, .int .i64 4]⟩) (stB' s m' g t)) ∧
        (∀ n, acN s m = some n → K (.tuple ⟨[.int .u32 (wN (acW s m) 1), .string (acD s m), .int .u32 (wN (acW s m) 0), .int .i64 0]⟩) (stB' s m' g t)))
  | _ => False
theorem okActive : SpecOk Tryd.prog G0 17 sActive := by
  have okA : SpecOk Tryd.prog G0 17 (fun args h K => match args with
      | [.pointer (some ⟨0, 0, some 0⟩)] => asSto h (fun _ _ _ => sActive args h K) (fun _ _ _ _ => False)
      | _ => False) :=
    spec2 mixed tO_ok Tryd.func17 (by kernel_rfl : Tryd.f17.body = some (codeOf Tryd.f17)) cActive rfl rfl rfl (by kernel_rfl) (ids := []) (by kernel_rfl) trivial (by
      intro args h K hk
      split at hk
      · rcases asSto_elim hk with ⟨s, m, t, rfl, hk⟩ | ⟨s, m, g, t, rfl, hk⟩
        · obtain ⟨o, hm, f, hk⟩ := hk
          show bActive s m t K
          rw [bActive_eq]
          exact ⟨o, hm, f, fun x1 h1 => ⟨(hk x1 h1).1, fun x2 x3 x4 h2 h3 h4 => by rw [h3, h4]; exact (hk x1 h1).2 x2 h2⟩⟩
        · exact hk.elim
      · exact hk.elim)
  have okB : SpecOk Tryd.prog G0 17 (fun args h K => match args with
      | [.pointer (some ⟨0, 0, some 0⟩)] => asSto h (fun _ _ _ => False) (fun _ _ _ _ => sActive args h K)
      | _ => False) :=
    spec2 mixed tO_ok Tryd.func17 (by kernel_rfl : Tryd.f17.body = some (codeOf Tryd.f17)) cActiveB rfl rfl rfl (by kernel_rfl) (ids := []) (by kernel_rfl) trivial (by
      intro args h K hk
      split at hk
      · rcases asSto_elim hk with ⟨s, m, t, rfl, hk⟩ | ⟨s, m, g, t, rfl, hk⟩
        · exact hk.elim
        · obtain ⟨o, hm, f, hk⟩ := hk
          show bActiveB s m g t K
          rw [bActiveB_eq]
          exact ⟨o, hm, f, fun x1 h1 => ⟨(hk x1 h1).1, fun x2 x3 x4 h2 h3 h4 => by rw [h3, h4]; exact (hk x1 h1).2 x2 h2⟩⟩
      · exact hk.elim)
  intro W0 hG args h K hk
  have hk' := hk
  unfold sActive at hk'
  split at hk'
  · rcases asSto_elim hk' with ⟨s, m, t, rfl, h2⟩ | ⟨s, m, g, t, rfl, h2⟩
    · exact okA W0 hG _ _ _ hk
    · exact okB W0 hG _ _ _ hk
  · exact hk'.elim
end Go.Am.Pat
