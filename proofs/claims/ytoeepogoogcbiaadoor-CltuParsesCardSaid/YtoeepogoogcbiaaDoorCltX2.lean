/-
  Cltu: the reference's Put: its summary. Own work.
-/
import Derived.Test.YtoeepogoogcbiaaDoorCltX
namespace Go.Am.Clt
open Go Go.Am Go.Am.Lib Go.Proofs Go.RowKit
set_option maxRecDepth 100000

theorem rput_none (s : ByteArray) (w : World) (h : s.size = 0) :
    Calls Tryd.prog 15 #[.string s] w fun e w' => e = .returned (.tuple #[.string ⟨#[]⟩, .int .i64 2]) ∧ Below w.heap.size w w' := by
  have he : s.toList.isEmpty = true := by
    rw [Lib.toList_data]
    have := size_list s
    rw [h] at this
    rw [List.eq_nil_of_length_eq_zero this]; rfl
  go_enter Tryd.func15, Tryd.ntmps15
  go_wp2
  go_ret2
  exact ⟨rfl, Below.refl _ _⟩
theorem rput_long (s : ByteArray) (w : World) (h : 350 < s.size) :
    Calls Tryd.prog 15 #[.string s] w fun e w' => e = .returned (.tuple #[.string ⟨#[]⟩, .int .i64 2]) ∧ Below w.heap.size w w' := by
  have he : s.toList.isEmpty = false := by
    rw [Lib.toList_data]
    cases h : s.data.toList with
    | nil => have := size_list s; rw [h] at this; simp at this; omega
    | cons x l => rfl
  have hd : 350 < ((s.size : Nat) : Int) := by omega
  go_enter Tryd.func15, Tryd.ntmps15
  go_wp2
  go_ret2
  exact ⟨rfl, Below.refl _ _⟩
theorem okRPut : SpecOk Tryd.prog G0 15 sPut := by
  intro W0 hG args h K hk
  unfold sPut at hk
  split at hk
  · rename_i s
    obtain ⟨_, hk⟩ := hk
    refine sound_flat rfl rfl hk fun w hold hsz => ?_
    by_cases hs : 0 < s.size ∧ s.size ≤ 350
    · have ho : putOk s = true := decide_eq_true hs
      unfold putR putE
      rw [if_pos ho, if_pos ho]
      exact rput_walk hG s w hold hsz hs.1 hs.2
    · have ho : ¬ putOk s = true := by unfold putOk; rw [decide_eq_true_eq]; exact hs
      unfold putR putE
      rw [if_neg ho, if_neg ho]
      rcases Nat.eq_zero_or_pos s.size with h | h
      · exact rput_none s w h
      · exact rput_long s w (by omega)
  · exact hk.elim
end Go.Am.Clt
