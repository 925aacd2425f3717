/-
  Joiner: PacketLosses: are the messages too long; Pick. Own work.
-/
import Derived.Test.YtbpfhjmiaaaoiaaJoiN
import Derived.Test.YtbpfhjmiaaaoiaaPktG3
namespace Go.Am.Joi
open Go Go.Am Go.Am.Lib Go.Lib Go.Proofs Go.RowKit
open Go.Am.Own
set_option maxRecDepth 100000

/-- The bytes of the first i messages, and one more for each. -/
def sumS (F : Nat → ByteArray) : Nat → Nat
  | 0 => 0
  | i + 1 => sumS F i + (F i).size + 1
theorem sumS_mono (F : Nat → ByteArray) {i : Nat} : ∀ {k}, i ≤ k → sumS F i ≤ sumS F k
  | 0, h => by cases h; exact Nat.le_refl _
  | k + 1, h => by
    rcases Nat.lt_or_ge i (k + 1) with h1 | h1
    · have := sumS_mono F (show i ≤ k by omega)
      show sumS F i ≤ sumS F k + (F k).size + 1
      omega
    · rw [show i = k + 1 by omega]; exact Nat.le_refl _
theorem sumS_ge (F : Nat → ByteArray) : ∀ i, i ≤ sumS F i
  | 0 => Nat.le_refl _
  | i + 1 => by
    have := sumS_ge F i
    show i + 1 ≤ sumS F i + (F i).size + 1
    omega
/-- Messages, as a law is handed them. -/
def StrsIn (w : World) (ao : Option Addr) (n : Nat) (F : Nat → ByteArray) : Prop :=
  ∀ i, i < n → ∃ a, ao = some a ∧ w.cell? (a.add i) = some (.string (F i)) ∧ (F i).size ≤ maxLen ∧ (a.add i).block < w.heap.size
theorem StrsIn.keep {w w' : World} {ao : Option Addr} {n : Nat} {F : Nat → ByteArray} (h : StrsIn w ao n F) (hb : Below w.heap.size w w') : StrsIn w' ao n F := fun i hi => by
  obtain ⟨a, h1, h2, h3, h4⟩ := h i hi
  exact ⟨a, h1, (World.cell?_of_block (hb.block _ h4)).trans h2, h3, Nat.lt_of_lt_of_le h4 hb.size⟩
set_option maxHeartbeats 1600000 in
theorem long_calls {w : World} (ao : Option Addr) (n cap : Nat) (F : Nat → ByteArray) (hcs : StrsIn w ao n F) :
    Calls Try.prog 21 #[.slice ao n cap, .int .i64 6000] w fun e w' => e = .returned (.bool (decide (6000 < sumS F n))) ∧ Below w.heap.size w w' := by
  obtain ⟨T, hT⟩ : ∃ T, decide (6000 < sumS F n) = T := ⟨_, rfl⟩
  rw [hT]
  have HT := Lib.hid hT
  clear hT
  go_enter Try.func21, Try.ntmps21
  go_wp2
  go_loopw [1, 5] (fun mv iv wr => ∃ (m i : Nat), mv = .int .i64 (m : Nat) ∧ iv = .int .i64 (i : Nat) ∧ i ≤ n ∧ Hid (sumS F i + m = 6000) ∧ m ≤ 6000 ∧ Below w.heap.size w wr)
    (fun _ iv _ => n - iOf iv)
  case atStart => exact ⟨6000, 0, rfl, rfl, Nat.zero_le _, rfl, Nat.le_refl _, Below.refl _ _⟩
  case round =>
    obtain ⟨m, i, rfl, rfl, hi, hm, hm6, hH⟩ := hrel
    have hi6 : i ≤ 6000 := by have h1 := hm.out; have h2 := sumS_ge F i; omega
    rcases Nat.lt_or_ge i n with hlt | hge
    · have hlt' : ((i : Nat) : Int) < ((n : Nat) : Int) := by omega
      obtain ⟨a, rfl, ha, hsz, hab⟩ := hcs i hlt
      have hc := (World.cell?_of_block (hH.block _ hab)).trans ha
      obtain ⟨f, hf⟩ : ∃ f, F i = f := ⟨_, rfl⟩
      rw [hf] at hc hsz
      have HFf : Hid (F i = f) := hf
      clear hcs ha hf hab
      by_cases hl : m ≤ f.size
      · have hl' : ((m : Nat) : Int) ≤ ((f.size : Nat) : Int) := by omega
        have ht : T = true := by
          have h1 := hm.out
          have h2 : sumS F (i + 1) = sumS F i + (F i).size + 1 := rfl
          rw [HFf.out] at h2
          have h3 := sumS_mono F (show i + 1 ≤ n from hlt)
          rw [← HT.out]
          exact decide_eq_true (by omega)
        clear HT hm
        subst ht
        go_wp2
        go_ret
        exact ⟨rfl, hH⟩
      · have hl' : ¬ ((m : Nat) : Int) ≤ ((f.size : Nat) : Int) := by omega
        have hmb : ((m : Nat) : Int) ≤ 6000 := by omega
        have hF2 : Hid (sumS F (i + 1) + (m - f.size - 1) = 6000) := by
          have h1 := hm.out
          have h2 : sumS F (i + 1) = sumS F i + (F i).size + 1 := rfl
          show sumS F (i + 1) + (m - f.size - 1) = 6000
          rw [h2, HFf.out]; omega
        clear hm
        go_wp2
        exact ⟨⟨m - f.size - 1, i + 1, by congr 1; omega, by push_cast; rfl, hlt, hF2, by omega, hH⟩, by show n - (i + 1) < n - i; omega⟩
    · have hge' : ¬ ((i : Nat) : Int) < ((n : Nat) : Int) := by omega
      have ht : T = false := by
        have h1 := hm.out
        have h2 : n = i := by omega
        rw [← HT.out, h2]
        exact decide_eq_false (by omega)
      clear HT hm
      subst ht
      go_wp2
      go_ret
      exact ⟨rfl, hH⟩
theorem pick_calls (n m : Int) (h0 : 0 < m) (h1 : m < 2 ^ 62) (w : World) : Calls Try.prog 22 #[.int .i64 n, .int .i64 m] w fun e w' => e = .returned (.int .i64 (n % m)) ∧ Below w.heap.size w w' :=
  flat_calls Pkt.okPick w (args := [.int .i64 n, .int .i64 m]) rfl (v := .int .i64 (n % m)) rfl ⟨h0, h1, rfl, rfl⟩
end Go.Am.Joi
