/-
  Joiner: the packets of messages some of which are lost. Own work; plain mathematics.
-/
import Derived.Test.YtbpfhjmiaaaoiaaJoiM
namespace Go.Am.Joi
open Go Go.Am Go.Am.Lib Go.Proofs
open Go.Am.Pkt (manyP flP)
set_option maxRecDepth 100000

theorem ans_missed (k : Option Kn) (f n : Nat) (d : ByteArray) : (ansK k f n d).missed = missK k n := by
  unfold ansK
  repeat' split
  all_goals rfl
theorem new_next (k : Option Kn) (f n : Nat) (d : ByteArray) : (newK k f n d).next = (n + 1) % 16384 := by
  unfold newK
  repeat' split
  all_goals rfl
/-- What is known of the APID before packet k of a message whose packets begin at count n; u packets were lost since the last that was fed. -/
structure Ls (n m : Nat) (s : ByteArray) (k : Nat) (K : Option Kn) (begun whole : Bool) (u : Nat) : Prop where
  none : begun = false → K = none
  some : begun = true → ∃ kn, K = some kn ∧ kn.next < 16384 ∧ (kn.next + u) % 16384 = (n + k) % 16384
  run : whole = true → 0 < k → k < manyP s m → u = 0 ∧ begun = true ∧ K = kM n m s k
  cut : whole = false → 0 < u ∨ opnK K = false
  fst : k = 0 → whole = true
variable {n m k u : Nat} {s : ByteArray} {K : Option Kn} {begun whole : Bool}
theorem Ls.zero : Ls n m s 0 Option.none false true 0 := ⟨fun _ => rfl, fun h => (by cases h), fun _ h => absurd h (Nat.lt_irrefl 0), fun h => (by cases h), fun _ => rfl⟩
theorem Ls.next (h : Ls n m s k K begun whole u) (m' : Nat) (s' : ByteArray) : Ls ((n + k) % 16384) m' s' 0 K begun true u :=
  ⟨h.none, fun hb => (by obtain ⟨kn, h1, h2, h3⟩ := h.some hb; exact ⟨kn, h1, h2, by omega⟩), fun _ h => absurd h (Nat.lt_irrefl 0), fun h => (by cases h), fun _ => rfl⟩
theorem Ls.other (h : Ls n m s 0 K begun whole u) (m' : Nat) (s' : ByteArray) : Ls n m' s' 0 K begun true u :=
  ⟨h.none, h.some, fun _ h => absurd h (Nat.lt_irrefl 0), fun h => (by cases h), fun _ => rfl⟩
theorem Ls.lost (h : Ls n m s k K begun whole u) : Ls n m s (k + 1) K begun false (u + 1) :=
  ⟨h.none, fun hb => (by obtain ⟨kn, h1, h2, h3⟩ := h.some hb; exact ⟨kn, h1, h2, by omega⟩), fun h => (by cases h), fun _ => .inl (Nat.succ_pos u), fun h => absurd h (Nat.succ_ne_zero k)⟩
theorem Ls.miss (h : Ls n m s k K begun whole u) (hu : u < 16384) : missK K ((n + k) % 16384) = if begun = true then u else 0 := by
  cases hb : begun with
  | false => rw [h.none hb]; rfl
  | true =>
    obtain ⟨kn, h1, h2, h3⟩ := h.some hb
    rw [h1, if_pos rfl]
    show ((n + k) % 16384 + (16384 - kn.next)) % 16384 = u
    omega
theorem Ls.fed (h : Ls n m s k K begun whole u) (hu : u < 16384) (m0 : 1 ≤ m) (s1 : s.size ≤ 16384) (hk : k < manyP s m) :
    (ansK K (flP (manyP s m) k) ((n + k) % 16384) (Pkt.part s m k)).missed = (if begun = true then u else 0) ∧
    (ansK K (flP (manyP s m) k) ((n + k) % 16384) (Pkt.part s m k)).whole = (whole && decide (k + 1 = manyP s m)) ∧
    (whole = true → k + 1 = manyP s m → (ansK K (flP (manyP s m) k) ((n + k) % 16384) (Pkt.part s m k)).msg = s) ∧
    Ls n m s (k + 1) (.some (newK K (flP (manyP s m) k) ((n + k) % 16384) (Pkt.part s m k))) true whole 0 := by
  have hm := h.miss hu
  have key : (ansK K (flP (manyP s m) k) ((n + k) % 16384) (Pkt.part s m k)).whole = (whole && decide (k + 1 = manyP s m)) ∧
      (whole = true → k + 1 = manyP s m → (ansK K (flP (manyP s m) k) ((n + k) % 16384) (Pkt.part s m k)).msg = s) ∧
      (whole = true → k + 1 < manyP s m → Option.some (newK K (flP (manyP s m) k) ((n + k) % 16384) (Pkt.part s m k)) = kM n m s (k + 1)) ∧
      (whole = false → (newK K (flP (manyP s m) k) ((n + k) % 16384) (Pkt.part s m k)).opn = false) := by
    obtain ⟨st1, st2⟩ := pk_step (n := n) m0 s1 hk
    cases hw : whole with
    | true =>
      cases k with
      | zero =>
        rcases Nat.lt_or_ge 1 (manyP s m) with h1 | h1
        · have hf : flP (manyP s m) 0 = 1 := by unfold flP; rw [if_pos rfl, if_neg (by omega)]
          obtain ⟨_, t2⟩ := st1 h1
          rw [hf] at t2 ⊢
          refine ⟨?_, fun _ hh => absurd hh (by omega), fun _ _ => ?_, fun hh => by cases hh⟩
          · rw [decide_eq_false (by omega)]; rfl
          · rw [← t2]; rfl
        · have h2 : 0 + 1 = manyP s m := by omega
          have hf : flP (manyP s m) 0 = 3 := by unfold flP; rw [if_pos rfl, if_pos h2]
          have t2 := st2 h2
          rw [hf] at t2 ⊢
          refine ⟨?_, fun _ _ => ?_, fun _ hh => absurd hh (by omega), fun hh => by cases hh⟩
          · rw [decide_eq_true h2]; rfl
          · exact congrArg An.msg t2
      | succ k =>
        obtain ⟨_, _, hK⟩ := h.run hw (Nat.succ_pos k) hk
        rw [hK]
        rcases Nat.lt_or_ge (k + 1 + 1) (manyP s m) with h1 | h1
        · obtain ⟨t1, t2⟩ := st1 h1
          rw [t1]
          refine ⟨?_, fun _ hh => absurd hh (by omega), fun _ _ => t2, fun hh => by cases hh⟩
          rw [decide_eq_false (by omega)]; rfl
        · have h2 : k + 1 + 1 = manyP s m := by omega
          rw [st2 h2]
          refine ⟨?_, fun _ _ => rfl, fun _ hh => absurd hh (by omega), fun hh => by cases hh⟩
          rw [decide_eq_true h2]; rfl
    | false =>
      have k0 : k ≠ 0 := fun e => by rw [h.fst e] at hw; cases hw
      have hst : ∀ f, stayK K f ((n + k) % 16384) = false := fun f => by
        unfold stayK brkK
        rcases h.cut hw with hu0 | ho
        · cases hb : begun with
          | false => rw [h.none hb]; rfl
          | true =>
            rw [hm, hb, if_pos rfl, decide_eq_true (show u ≠ 0 by omega), Bool.true_or, Bool.and_true]
            cases opnK K <;> rfl
        · rw [ho]; rfl
      have hf : flP (manyP s m) k = 0 ∨ flP (manyP s m) k = 2 := by
        unfold flP
        rw [if_neg k0]
        split
        · exact .inr rfl
        · exact .inl rfl
      have f1 : ¬ flP (manyP s m) k = 1 := by omega
      have f3 : ¬ flP (manyP s m) k = 3 := by omega
      refine ⟨?_, fun hh => (by cases hh), fun hh => (by cases hh), fun _ => ?_⟩
      · unfold ansK
        rw [if_neg f3, if_neg f1, if_neg (by rw [hst]; decide)]; rfl
      · unfold newK
        rw [if_neg f1, if_neg (by rw [hst]; intro hh; cases hh.2.1)]
  refine ⟨by rw [ans_missed, hm], key.1, key.2.1, ⟨fun hh => (by cases hh), fun _ => ⟨_, rfl, ?_, ?_⟩, fun hw _ hl => ⟨rfl, rfl, key.2.2.1 hw hl⟩, fun hw => .inr (key.2.2.2 hw), fun hh => absurd hh (Nat.succ_ne_zero k)⟩⟩
  · rw [new_next]; omega
  · rw [new_next]; omega
end Go.Am.Joi
