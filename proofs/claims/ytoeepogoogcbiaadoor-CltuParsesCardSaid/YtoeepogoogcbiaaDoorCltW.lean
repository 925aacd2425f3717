/-
  Cltu: Put's summary. Own work.
-/
import Derived.Test.YtoeepogoogcbiaaDoorCltV
namespace Go.Am.Clt
open Go Go.Am Go.Am.Lib Go.Proofs Go.RowKit
set_option maxRecDepth 100000

theorem put_none (s : ByteArray) (w : World) (h : s.size = 0) :
    Calls Tryd.prog 14 #[.string s] w fun e w' => e = .returned (.tuple #[.string ⟨#[]⟩, .int .i64 2]) ∧ Below w.heap.size w w' := by
  have he : s.toList.isEmpty = true := by
    rw [Lib.toList_data]
    have := size_list s
    rw [h] at this
    rw [List.eq_nil_of_length_eq_zero this]; rfl
  go_enter Tryd.func14, Tryd.ntmps14
  go_wp2
  go_ret2
  exact ⟨rfl, Below.refl _ _⟩
theorem put_long (s : ByteArray) (w : World) (h : 350 < s.size) :
    Calls Tryd.prog 14 #[.string s] w fun e w' => e = .returned (.tuple #[.string ⟨#[]⟩, .int .i64 2]) ∧ Below w.heap.size w w' := by
  have he : s.toList.isEmpty = false := by
    rw [Lib.toList_data]
    cases h : s.data.toList with
    | nil => have := size_list s; rw [h] at this; simp at this; omega
    | cons x l => rfl
  have hd : 350 < ((s.size : Nat) : Int) := by omega
  go_enter Tryd.func14, Tryd.ntmps14
  go_wp2
  go_ret2
  exact ⟨rfl, Below.refl _ _⟩
def putOk (s : ByteArray) : Bool := decide (0 < s.size ∧ s.size ≤ 350)
def putR (s : ByteArray) : ByteArray := if putOk s then ⟨(putL s).toArray⟩ else ⟨⟨[]⟩⟩
def putE (s : ByteArray) : Int := if putOk s then 0 else 2
def sPut : Spec := fun args h K => match args, h with
  | [.string s], [] => s.size < 2 ^ 62 ∧ K (.tuple ⟨[.string (putR s), .int .i64 (putE s)]⟩) []
  | _, _ => False
theorem okPut : SpecOk Tryd.prog G0 14 sPut := by
  intro W0 hG args h K hk
  unfold sPut at hk
  split at hk
  · rename_i s
    obtain ⟨_, hk⟩ := hk
    refine sound_flat rfl rfl hk fun w hold hsz => ?_
    by_cases hs : 0 < s.size ∧ s.size ≤ 350
    · have ho : putOk s = true := decide_eq_true hs
      unfold putR putE
      rw [if_pos ho, if_pos ho]
      exact put_walk hG s w hold hsz hs.1 hs.2
    · have ho : ¬ putOk s = true := by unfold putOk; rw [decide_eq_true_eq]; exact hs
      unfold putR putE
      rw [if_neg ho, if_neg ho]
      rcases Nat.eq_zero_or_pos s.size with h | h
      · exact put_none s w h
      · exact put_long s w (by omega)
  · exact hk.elim
end Go.Am.Clt
