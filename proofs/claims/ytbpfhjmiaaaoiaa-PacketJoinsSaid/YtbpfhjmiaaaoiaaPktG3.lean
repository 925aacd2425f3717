/-
  Packet: PacketBack answers true. Own work.
-/
import Derived.Test.YtbpfhjmiaaaoiaaPktG
import Derived.Test.YtbpfhjmiaaaoiaaPktG2
namespace Go.Am.Pkt
open Go Go.Am Go.Proofs
set_option maxRecDepth 100000

theorem okPick : SpecOk Try.prog G0 22 sPick :=
  spec2 mixed none_ok Try.func22 (by kernel_rfl : Try.f22.body = some (codeOf Try.f22)) cPick rfl rfl rfl (by kernel_rfl) (ids := []) (by kernel_rfl) trivial (by
    intro args h K hk
    unfold sPick at hk
    split at hk
    · rename_i n m
      obtain ⟨m0, m1, hk⟩ := hk
      show bPick n m K
      rw [bPick_eq]
      rw [dnF (by omega)]
      rintro x1 h1
      have hlt := Int.emod_lt_of_pos n m0
      have hnn := Int.emod_nonneg n (by omega : m ≠ 0)
      have ht : x1 = n % m ∨ (x1 + m = n % m ∧ x1 < 0) := by
        rw [h1, Int.tmod_eq_emod]
        split
        · left; omega
        · right
          rename_i hc
          have hm : (m.natAbs : Int) = m := by omega
          have hz : n % m ≠ 0 := fun z => hc (.inr (Int.dvd_of_emod_eq_zero z))
          omega
      rcases ht with ht | ⟨ht, hneg⟩
      · rw [dF (by omega), ht]; exact hk
      · rw [dT hneg]
        rintro x2 h2
        rw [iAdd_i64 (by omega) (by omega), ht] at h2
        rw [h2]; exact hk
    · exact hk.elim)
theorem tBack_ok : AllOk Try.prog G0 tBack := ⟨okPick, tLaw_ok⟩
def sBack : Spec := fun args h K => match args, h with
  | [.agg ⟨[.bool _, .int .i64 _, .int .i64 _, .int .i64 _, .string _]⟩, .string t, .int .i64 _], [] => t.size ≤ 2 ^ 50 ∧ K (.bool true) []
  | _, _ => False
theorem okBack : SpecOk Try.prog G0 9 sBack :=
  spec2 mixed tBack_ok Try.func9 (by kernel_rfl : Try.f9.body = some (codeOf Try.f9)) cBack rfl rfl rfl (by kernel_rfl) (ids := []) (by kernel_rfl) trivial (by
    intro args h K hk
    unfold sBack at hk
    split at hk
    · rename_i c a f n d t x
      obtain ⟨ht, hk⟩ := hk
      show bBack c a f n d t x K
      rw [bBack_eq]
      simp only [forall_eq, Int.toNat_natCast]
      by_cases hb : iAdd .i64 ((d.size : Nat) : Int) ((t.size : Nat) : Int) > 20000
      · rw [dT hb]; exact hk
      rw [dF hb]
      -- what is behind the first part
      have rest : (cond (!(decide ((putE a f n d) = 0))) (cond (decide ((putE a f n d) = 2)) (K (.bool (!(validB a f n d))) []) (K (.bool false) [])) (cond (decide (((((putS c a f n d).size + t.size : Nat) : Nat) : Int) ≤ 9223372036854775807))
          (cond (!(decide (getE (putS c a f n d) = 0))) (K (.bool false) [])
          (cond (!((decide (gC (putS c a f n d) = c)) && ((decide (((gA (putS c a f n d) : Nat) : Int) = a)) && ((decide (((gF (putS c a f n d) : Nat) : Int) = f)) && ((decide (((gN (putS c a f n d) : Nat) : Int) = n)) && ((strEq (gD (putS c a f n d)) d) && true)))))) (K (.bool false) [])
          (cond (!(decide (takeE ((putS c a f n d).append t) = 0))) (K (.bool false) [])
          (cond (!((decide (pC ((putS c a f n d).append t) = c)) && ((decide (((pA ((putS c a f n d).append t) : Nat) : Int) = a)) && ((decide (((pF ((putS c a f n d).append t) : Nat) : Int) = f)) && ((decide (((pN ((putS c a f n d).append t) : Nat) : Int) = n)) && ((strEq (pD ((putS c a f n d).append t)) d) && true)))))) (K (.bool false) [])
          (cond (!(decide (((pL ((putS c a f n d).append t) : Nat) : Int) = (((putS c a f n d).size : Nat) : Int)))) (K (.bool false) [])
          ((0 : Int) < (((putS c a f n d).size : Nat) : Int) ∧ (((putS c a f n d).size : Nat) : Int) < 4611686018427387904 ∧
            cond ((decide ((0 : Int) ≤ Int.emod x (((putS c a f n d).size : Nat) : Int))) && (decide (Int.emod x (((putS c a f n d).size : Nat) : Int) ≤ (((putS c a f n d).size : Nat) : Int))))
              (cond (decide (((pL ((putS c a f n d).extract 0 (Int.toNat (Int.emod x (((putS c a f n d).size : Nat) : Int)))) : Nat) : Int) = 0)) (K (.bool (decide (takeE ((putS c a f n d).extract 0 (Int.toNat (Int.emod x (((putS c a f n d).size : Nat) : Int)))) = 4))) []) (K (.bool false) [])) False)))))) False) : Prop) := by
        cases hv : validB a f n d with
        | false =>
          have e1 : putE a f n d = 2 := by unfold putE; rw [hv]; rfl
          rw [e1, dnF (by decide), dT rfl]
          exact hk
        | true =>
          obtain ⟨a0, a1, f0, f1, n0, n1, d0, d1⟩ := validB_iff.1 hv
          obtain ⟨a, rfl⟩ := nat_of a0
          obtain ⟨f, rfl⟩ := nat_of f0
          obtain ⟨n, rfl⟩ := nat_of n0
          have e1 : putE a f n d = 0 := by unfold putE; rw [hv]; rfl
          have e2 : putS c a f n d = encS c a f n d := by unfold putS; rw [hv, if_pos rfl]; rfl
          have hs := enc_size c a f n d
          rw [e1, e2, dnT rfl]
          obtain ⟨g1, g2, g3, g4, g5, g6, g7⟩ := take_enc (c := c) (a := a) (f := f) (n := n) (d := d) (s := encS c a f n d) (r := []) (by omega) (by omega) (by omega) d0 d1 (by simp)
          obtain ⟨q1, q2, q3, q4, q5, q6, q7⟩ := take_enc (c := c) (a := a) (f := f) (n := n) (d := d) (s := (encS c a f n d).append t) (r := t.data.toList) (by omega) (by omega) (by omega) d0 d1 (app_list _ _)
          have ge : getE (encS c a f n d) = 0 := by unfold getE; rw [if_pos ⟨g1, by rw [g2, hs]⟩]
          have gc : gC (encS c a f n d) = c := by unfold gC; rw [ge, g3]; rfl
          have ga : gA (encS c a f n d) = a := by unfold gA; rw [if_pos ge, g4]
          have gf : gF (encS c a f n d) = f := by unfold gF; rw [if_pos ge, g5]
          have gn : gN (encS c a f n d) = n := by unfold gN; rw [if_pos ge, g6]
          have gd : gD (encS c a f n d) = d := by unfold gD; rw [if_pos ge, g7]
          have hx0 : 0 ≤ Int.emod x (((encS c a f n d).size : Nat) : Int) := Int.emod_nonneg x (show (((encS c a f n d).size : Nat) : Int) ≠ 0 by omega)
          have hx1 : Int.emod x (((encS c a f n d).size : Nat) : Int) < (((encS c a f n d).size : Nat) : Int) := Int.emod_lt_of_pos x (show (0 : Int) < (((encS c a f n d).size : Nat) : Int) by omega)
          obtain ⟨p1, p2⟩ := take_pre (c := c) (a := a) (f := f) (n := n) (d := d) (k := Int.toNat (Int.emod x (((encS c a f n d).size : Nat) : Int))) (by omega) (by omega) (by omega) d0 d1 (by omega)
          rw [dT (by omega), dnT ge, gc, ga, gf, gn, gd, strEq_self, dnT q1, q3, q4, q5, q6, q7, strEq_self, q2, dnT (by omega)]
          simp only [decide_true, Bool.and_self, Bool.not_true, cond_false]
          refine ⟨by omega, by omega, ?_⟩
          rw [dT2 hx0 (Int.le_of_lt hx1), p1, p2]
          exact hk
      by_cases h0 : takeE t = 0
      · rw [dT h0]
        obtain ⟨v1, v2, v3⟩ := take_back h0
        have w1 : putE ((pA t : Nat) : Int) ((pF t : Nat) : Int) ((pN t : Nat) : Int) (pD t) = 0 := by unfold putE; rw [v1]; rfl
        have w2 : putS (pC t) ((pA t : Nat) : Int) ((pF t : Nat) : Int) ((pN t : Nat) : Int) (pD t) = t.extract 0 (pL t) := by unfold putS; rw [v1, if_pos rfl]; exact v2
        rw [w1, w2, dnT rfl, dF (by omega), dT2 (by omega) (by omega), strEq_self]
        exact rest
      · rw [dF h0]
        exact rest
    · exact hk.elim)
end Go.Am.Pkt
