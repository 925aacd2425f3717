/-
  Patches: is, committed: summaries; the example's and the laws' texts are in further texts. Own work.
-/
import Derived.Test.YtecocfcaeenaoaaDoorPatU
namespace Go.Am.Pat
open Go Go.Am Go.Am.Ham Go.Am.Mem Go.Proofs
set_option maxRecDepth 100000

def isB (s : Sto) (m : Mem) (id : Int) (d : ByteArray) (gen : Int) : Bool := match acN s m with
  | none => false
  | some _ => decide (wN (acW s m) 1 = id) && strEq (acD s m) d && decide (wN (acW s m) 0 = gen)
def sIs : Spec := fun args h K => match args with
  | [.pointer (some ⟨0, 0, some 0⟩), .int .u32 id, .string d, .int .u32 gen] => asSto h (fun s m t => OkS s ∧ OkM m ∧ Fits s m ∧ ∀ m', m' = acM s m → ∀ b, b = isB s m id d gen → K (.bool b) (stA s m' t)) (fun s m g t => OkS s ∧ OkM m ∧ Fits s m ∧ ∀ m', m' = acM s m → ∀ b, b = isB s m id d gen → K (.bool b) (stB' s m' g t))
  | _ => False
theorem isB_none {s : Sto} {m : Mem} {id gen : Int} {d : ByteArray} (h : acN s m = none) : isB s m id d gen = false := by unfold isB; rw [h]
theorem isB_some {s : Sto} {m : Mem} {id gen n : Int} {d : ByteArray} (h : acN s m = some n) : isB s m id d gen = (decide (wN (acW s m) 1 = id) && strEq (acD s m) d && decide (wN (acW s m) 0 = gen)) := by unfold isB; rw [h]
theorem is_part {s : Sto} {m : Mem} {id gen : Int} {d : ByteArray} (Q : Mem → Bool → Prop) (hk : ∀ m', m' = acM s m → ∀ b, b = isB s m id d gen → Q m' b) : ∀ x1 : Mem, x1 = acM s m →
    (acN s m = none → ∀ x2 : Int, x2 = 0 → ∀ x3 : ByteArray, x3 = ⟨⟨[]⟩⟩ → ∀ x4 : Int, x4 = 0 → ∀ x5 : Int, x5 = 4 → cond (decide (x2 = id)) (cond (strEq x3 d) (cond (decide (x4 = gen)) (Q x1 (decide (x5 = 0))) (Q x1 false)) (Q x1 false)) (Q x1 false)) ∧
    (∀ x6 : Int, acN s m = some x6 → ∀ x7 : Int, x7 = wN (acW s m) 1 → ∀ x8 : ByteArray, x8 = acD s m → ∀ x9 : Int, x9 = wN (acW s m) 0 → ∀ x10 : Int, x10 = 0 → cond (decide (x7 = id)) (cond (strEq x8 d) (cond (decide (x9 = gen)) (Q x1 (decide (x10 = 0))) (Q x1 false)) (Q x1 false)) (Q x1 false)) := by
  intro x1 h1
  refine ⟨fun hn x2 _ x3 _ x4 _ x5 h5 => ?_, fun x6 hn x7 h7 x8 h8 x9 h9 x10 h10 => ?_⟩
  · have := hk x1 h1 false (isB_none hn).symm
    rw [decide_eq_false (show ¬ x5 = 0 by omega)]
    cases decide (x2 = id) <;> cases strEq x3 d <;> cases decide (x4 = gen) <;> exact this
  · have e := isB_some (id := id) (gen := gen) (d := d) hn
    rw [← h7, ← h8, ← h9] at e
    have := hk x1 h1 _ e.symm
    rw [decide_eq_true h10]
    cases ha : decide (x7 = id) <;> cases hb : strEq x8 d <;> cases hc : decide (x9 = gen) <;> rw [ha, hb, hc] at this <;> exact this
theorem okIs : SpecOk Tryd.prog G0 14 sIs := by
  have okA : SpecOk Tryd.prog G0 14 (fun args h K => match args with
      | [.pointer (some ⟨0, 0, some 0⟩), .int .u32 _, .string _, .int .u32 _] => asSto h (fun _ _ _ => sIs args h K) (fun _ _ _ _ => False)
      | _ => False) :=
    spec2 mixed tL_ok Tryd.func14 (by kernel_rfl : Tryd.f14.body = some (codeOf Tryd.f14)) cIs rfl rfl rfl (by kernel_rfl) (ids := []) (by kernel_rfl) trivial (by
      intro args h K hk
      split at hk
      · rename_i id d gen
        rcases asSto_elim hk with ⟨s, m, t, rfl, o, hm, f, hk⟩ | ⟨s, m, g, t, rfl, hk⟩
        · show bIsA s m t id gen d K
          rw [bIsA_eq]
          exact ⟨o, hm, f, is_part (fun x b => K (.bool b) (stA s x t)) hk⟩
        · exact hk.elim
      · exact hk.elim)
  have okB : SpecOk Tryd.prog G0 14 (fun args h K => match args with
      | [.pointer (some ⟨0, 0, some 0⟩), .int .u32 _, .string _, .int .u32 _] => asSto h (fun _ _ _ => False) (fun _ _ _ _ => sIs args h K)
      | _ => False) :=
    spec2 mixed tL_ok Tryd.func14 (by kernel_rfl : Tryd.f14.body = some (codeOf Tryd.f14)) cIsB rfl rfl rfl (by kernel_rfl) (ids := []) (by kernel_rfl) trivial (by
      intro args h K hk
      split at hk
      · rename_i id d gen
        rcases asSto_elim hk with ⟨s, m, t, rfl, hk⟩ | ⟨s, m, g, t, rfl, o, hm, f, hk⟩
        · exact hk.elim
        · show bIsB s m g t id gen d K
          rw [bIsB_eq]
          exact ⟨o, hm, f, is_part (fun x b => K (.bool b) (stB' s x g t)) hk⟩
      · exact hk.elim)
  intro W0 hG args h K hk
  have hk' := hk
  unfold sIs at hk'
  split at hk'
  · rcases asSto_elim hk' with ⟨s, m, t, rfl, h2⟩ | ⟨s, m, g, t, rfl, h2⟩
    · exact okA W0 hG _ _ _ hk
    · exact okB W0 hG _ _ _ hk
  · exact hk'.elim

/-! ### the example -/
def sAwk : Spec := fun args h K => match args, h with
  | [], [] => K (.bool true) []
  | _, _ => False
def sX : Sto := ⟨0, 8⟩
def mX : Mem := newM 100 100
def dX : ByteArray := ⟨⟨[97, 98, 99, 100]⟩⟩
theorem ax1 : fullB sX mX = false := by decide +kernel
theorem ax2 : (ldR sX mX dX).2 = 0 := by decide +kernel
theorem ax3 : crcI (ldR sX mX dX).1 = 3984772369 := by decide +kernel
theorem ax4 : fullB sX (ld4 sX mX dX) = false := by decide +kernel
def ldX : Mem := hwM 5 1 (ld5 sX mX dX) (bankAt sX (otherN sX mX)) (hdN (genN sX (ld4 sX mX dX) (otherN sX mX)) ⟨5, 3984772369, 4, otherN sX mX⟩)
theorem ax5 : acN sX ldX = some 0 := by decide +kernel
theorem ax6 : wN (acW sX ldX) 1 = 5 := by decide +kernel
theorem ax7 : strEq (acD sX ldX) dX = true := by decide +kernel
theorem ax8 : wN (acW sX ldX) 0 = 1 := by decide +kernel
theorem axO : OkS sX := ⟨by decide, by decide, by decide, by decide⟩
theorem axM : OkM mX := (good_new (n := 100) (s := 100) (by decide) (by decide) (by decide) (by decide)).ok
theorem ax_ok2 : OkM (ld2 sX mX) ∧ (ld2 sX mX).n = 100 := by
  have h1 := acM_ok (s := sX) axM
  have h2 := okW_write h1.1 (bankAt sX (otherN sX mX)) 0
  exact ⟨h2.1, h2.2.trans h1.2⟩
theorem ax_ok3 : OkM (ld3 sX mX dX) ∧ (ld3 sX mX dX).n = 100 := by
  have h := wb_ok dX (lenW dX.size) (bankAt sX (otherN sX mX) + 5 + 0 / 4).toNat 0 ax_ok2.1
  exact ⟨h.1, h.2.trans ax_ok2.2⟩
theorem ax_ok4 : OkM (ld4 sX mX dX) ∧ (ld4 sX mX dX).n = 100 := by
  have h := rbS_ok (bankAt sX (otherN sX mX) + 5) ((dX.size : Nat) : Int) ax_ok3.1
  exact ⟨h.1, h.2.trans ax_ok3.2⟩
theorem ax_ok6 : OkM ldX ∧ ldX.n = 100 := by
  have h1 := acM_ok (s := sX) ax_ok4.1
  have h2 := hwM_ok 5 1 (bankAt sX (otherN sX mX)) (hdN (genN sX (ld4 sX mX dX) (otherN sX mX)) ⟨5, 3984772369, 4, otherN sX mX⟩) h1.1
  exact ⟨h2.1, h2.2.trans (h1.2.trans ax_ok4.2)⟩
theorem ax_fit {m : Mem} (h : m.n = 100) : Fits sX m := by unfold Fits; rw [h]; decide
theorem ax9 (x o : Int) : okDat (Stg.mk 5 x 4 o) 0 4 = true := rfl
theorem ax10 (x o : Int) : okDat (Stg.mk 5 x 4 o) 2 2 = false := rfl
theorem okAwk : SpecOk Tryd.prog G0 9 sAwk :=
  spec2 mixed tL_ok Tryd.func9 (by kernel_rfl : Tryd.f9.body = some (codeOf Tryd.f9)) cAwk rfl rfl rfl (by kernel_rfl) (ids := []) (by kernel_rfl) trivial (by
    intro args h K hk
    unfold sAwk at hk
    split at hk
    · show bAwk K
      rw [bAwk_eq]
      refine ⟨fun _ => ?_, fun h => Bool.noConfusion h⟩
      intro x1 h1 x2 h2
      obtain rfl : x1 = mX := h1
      refine ⟨axM, fun hn x3 h3 o3 x4 h4 => ?_, fun hn => absurd hn (by decide +kernel)⟩
      obtain rfl : x3 = sX := h3
      rw [dnT h2, dnT h4]
      intro x5 h5
      rw [dnT h5]
      have h01 := other_01 sX mX
      refine ⟨by decide, fun x6 h6 => ⟨axO, axM, ax_fit rfl, fun hn => absurd (by decide) hn, fun _ x8 h8 => ⟨fun hf => (by rw [ax1] at hf; cases hf), fun _ x10 h10 x11 h11 x12 h12 => ?_⟩⟩⟩
      subst h8
      rw [dnT h12]
      subst h10
      obtain rfl : x11 = ld2 sX mX := h11
      refine ⟨axO, ax_ok2.1, ax_fit ax_ok2.2, by decide, h01.1, h01.2, by decide, by decide, by decide, fun hd => Bool.noConfusion ((ax9 x6 _).symm.trans hd), fun _ x13 h13 x14 h14 => ?_⟩
      rw [dnT h14]
      obtain rfl : x13 = ld3 sX mX dX := h13
      refine ⟨axO, ax_ok3.1, ax_fit ax_ok3.2, by decide, h01.1, h01.2, by decide, by decide, by decide, fun _ x15 h15 => ?_, fun hd => Bool.noConfusion ((ax10 x6 _).symm.trans hd)⟩
      rw [dnT h15]
      refine ⟨axO, ax_ok3.1, ax_fit ax_ok3.2, ⟨by decide, by decide⟩, ⟨by omega, by omega⟩, by decide, by decide, h01.1, h01.2, fun x16 h16 x17 h17 => ?_⟩
      obtain rfl : x16 = ld4 sX mX dX := h16
      obtain rfl : x17 = ldR sX mX dX := h17
      refine ⟨fun hn => absurd ax2 hn, fun _ => ⟨fun hn => absurd (ax3.trans h6.symm) hn, fun _ x39 h39 => ⟨fun hf => (by rw [ax4] at hf; cases hf), fun _ x51 h51 x52 h52 => ?_⟩⟩⟩
      rw [dnT h52]
      obtain rfl : x39 = ld5 sX mX dX := h39
      rw [h6] at h51
      obtain rfl : x51 = ldX := h51
      refine ⟨axO, ax_ok6.1, ax_fit ax_ok6.2, fun x53 h53 => ⟨fun hn => (by rw [ax5] at hn; cases hn), fun x54 h54 x55 h55 x56 h56 x57 h57 x58 h58 => ?_⟩⟩
      rw [dT (by rw [h55]; exact ax6), h56]
      show cond (strEq (acD sX ldX) dX) _ _
      rw [ax7, cond_true, dT (by rw [h57]; exact ax8), decide_eq_true h58]
      exact hk
    · exact hk.elim)
end Go.Am.Pat
