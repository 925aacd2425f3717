/-
  Cltu: parsers that are none; are the streams too long. Own work.
-/
import Derived.Test.YtoeepogoogcbiaaDoorCltCC
namespace Go.Am.Clt
open Go Go.Am Go.Am.Lib Go.Lib Go.Proofs Go.RowKit
set_option maxRecDepth 100000

set_option maxHeartbeats 1600000 in
theorem feed_nil (s : ByteArray) (w : World) : Calls Tryd.prog 19 #[.pointer none, .string s] w fun e w' => e = .returned (.slice none 0 0) ∧ w' = w := by
  go_enter Tryd.func19, Tryd.ntmps19
  go_wp2_with (go_at_call 35; refine (none_nil w).mono ?_)
  rintro e W1 ⟨rfl, rfl⟩
  go_wp2
  go_ret
  exact ⟨rfl, rfl⟩
set_option maxHeartbeats 1600000 in
theorem feed_zero (b : Nat) (s : ByteArray) (w : World) (hb : w.cell? ⟨b, 0, none⟩ = some .nilFunc) : Calls Tryd.prog 19 #[.pointer (some ⟨b, 0, none⟩), .string s] w fun e w' => e = .returned (.slice none 0 0) ∧ w' = w := by
  go_enter Tryd.func19, Tryd.ntmps19
  go_wp2_with (go_at_call 35; refine (none_zero b w hb).mono ?_)
  rintro e W1 ⟨rfl, rfl⟩
  go_wp2
  go_ret
  exact ⟨rfl, rfl⟩
set_option maxHeartbeats 1600000 in
theorem lock_nil (w : World) : Calls Tryd.prog 20 #[.pointer none] w fun e w' => e = .returned (.bool false) ∧ w' = w := by
  go_enter Tryd.func20, Tryd.ntmps20
  go_wp2_with (go_at_call 35; refine (none_nil w).mono ?_)
  rintro e W1 ⟨rfl, rfl⟩
  go_wp2
  go_ret
  exact ⟨rfl, rfl⟩
set_option maxHeartbeats 1600000 in
theorem lock_zero (b : Nat) (w : World) (hb : w.cell? ⟨b, 0, none⟩ = some .nilFunc) : Calls Tryd.prog 20 #[.pointer (some ⟨b, 0, none⟩)] w fun e w' => e = .returned (.bool false) ∧ w' = w := by
  go_enter Tryd.func20, Tryd.ntmps20
  go_wp2_with (go_at_call 35; refine (none_zero b w hb).mono ?_)
  rintro e W1 ⟨rfl, rfl⟩
  go_wp2
  go_ret
  exact ⟨rfl, rfl⟩
set_option maxHeartbeats 1600000 in
theorem reset_nil (w : World) : Calls Tryd.prog 24 #[.pointer none] w fun e w' => e = .returned (.tuple #[]) ∧ w' = w := by
  go_enter Tryd.func24, Tryd.ntmps24
  go_wp2_with (go_at_call 35; refine (none_nil w).mono ?_)
  rintro e W1 ⟨rfl, rfl⟩
  go_wp2
  go_end0
  exact ⟨rfl, rfl⟩
set_option maxHeartbeats 1600000 in
theorem reset_walk {S : Nat → Prop} {b : Nat} {p : PS} {w : World} (h : PAt S b p w) : Calls Tryd.prog 24 #[.pointer (some ⟨b, 0, none⟩)] w fun e w' => e = .returned (.tuple #[]) ∧ OnlyB b w w' ∧ PAt S b ⟨false, false, p.last, ⟨#[]⟩, ⟨#[]⟩, p.found⟩ w' := by
  obtain ⟨v1, v2, v3, hc⟩ := h
  have hc0 := hc
  rw [take_val] at hc
  have c0 := hc.c0
  go_enter Tryd.func24, Tryd.ntmps24
  go_wp2_with (go_at_call 35; refine (none_walk b w _ c0).mono ?_)
  rintro e W1 ⟨rfl, rfl⟩
  go_wp2_with (go_at_call 34; refine (search_walk b _ _ _ _ _ _ _ _ hc.cell).mono ?_)
  first | rintro e W2 rfl i1 i2 | rintro e W2 ⟨rfl, i1, i2⟩
  go_wp2
  go_end0
  exact ⟨rfl, i1, _, _, _, hc0.cells_nil i1 i2⟩
end Go.Am.Clt

namespace Go.Am.Clt
open Go Go.Am Go.Am.Lib Go.Lib Go.Proofs Go.RowKit
set_option maxRecDepth 100000

set_option maxHeartbeats 1600000 in
theorem long_walk {w : World} (ao : Option Addr) (n cap : Nat) (F : Nat → ByteArray) (hcs : ∀ i, i < n → ∃ a, ao = some a ∧ w.cell? (a.add i) = some (.string (F i)) ∧ (F i).size ≤ maxLen) :
    Calls Tryd.prog 22 #[.slice ao n cap, .int .i64 5000] w fun e w' => ∃ t : Bool, e = .returned (.bool t) ∧ OnlyH w w' ∧ (t = false → n ≤ 5000 ∧ ∀ i, i < n → (F i).size < 5000) := by
  go_enter Tryd.func22, Tryd.ntmps22
  go_wp2
  go_loopw [1, 5] (fun mv iv wr => ∃ (m i : Nat), mv = .int .i64 (m : Nat) ∧ iv = .int .i64 (i : Nat) ∧ i ≤ n ∧ i + m ≤ 5000 ∧ OnlyH w wr ∧ ∀ j, j < i → (F j).size < 5000)
    (fun _ iv _ => n - iOf iv)
  case atStart => exact ⟨5000, 0, rfl, rfl, Nat.zero_le _, by omega, OnlyH.refl _, fun j hj => by omega⟩
  case round =>
    obtain ⟨m, i, rfl, rfl, hi, hm, hH, hF⟩ := hrel
    have HF : Hid (∀ j, j < i → (F j).size < 5000) := hF
    clear hF
    rcases Nat.lt_or_ge i n with hlt | hge
    · have hlt' : ((i : Nat) : Int) < ((n : Nat) : Int) := by omega
      obtain ⟨a, rfl, ha, hsz⟩ := hcs i hlt
      have hc := (hH.cell (a.add i)).trans ha
      obtain ⟨f, hf⟩ : ∃ f, F i = f := ⟨_, rfl⟩
      rw [hf] at hc hsz
      have HFf : Hid (F i = f) := hf
      clear hcs ha hf
      by_cases hl : m ≤ f.size
      · have hl' : ((m : Nat) : Int) ≤ ((f.size : Nat) : Int) := by omega
        go_wp2
        go_ret
        exact ⟨true, rfl, hH, fun h => by cases h⟩
      · have hl' : ¬ ((m : Nat) : Int) ≤ ((f.size : Nat) : Int) := by omega
        have hmb : ((m : Nat) : Int) ≤ 5000 := by omega
        have hF2 : Hid (∀ j, j < i + 1 → (F j).size < 5000) := fun j hj => by
          rcases (by omega : j < i ∨ j = i) with h | h
          · exact HF.out j h
          · rw [h, HFf.out]; omega
        clear HF
        go_wp2
        exact ⟨⟨m - f.size - 1, i + 1, by congr 1; omega, by push_cast; rfl, hlt, by omega, hH, hF2.out⟩, by show n - (i + 1) < n - i; omega⟩
    · have hge' : ¬ ((i : Nat) : Int) < ((n : Nat) : Int) := by omega
      go_wp2
      go_ret
      exact Or.inl ⟨rfl, hH, by omega, fun j hj => HF.out j (by omega)⟩
end Go.Am.Clt
