/-
  Tmframe: Clear; calls on a filler that is none; the reference's Waiting. Own work.
-/
import Derived.Test.YtkhlicfnfiopnaaTmfQ
namespace Go.Am.Tmf
open Go Go.Am Go.Am.Lib Go.Lib Go.Proofs Go.RowKit
open Go.Am.Own
set_option maxRecDepth 100000

theorem grown_refl (w : World) (row : Option Nat) : w.grownBy w row := ⟨rfl, rfl, rfl, Nat.le_refl _, fun _ _ _ => rfl⟩
theorem clear_calls {S : Nat → Prop} {b N : Nat} {x : FS} {w : World} (h : FAt S b x w) (ho : OkF x N) :
    Calls Try.prog 25 #[.pointer (some ⟨b, 0, none⟩)] w fun e w' => e = .returned (.tuple #[]) ∧ FAt S b (fs0 x.size) w' ∧ FrS S w w' := by
  have hn := nones h ho
  obtain ⟨v1, v2, h⟩ := h
  have c0 := h.c0
  have c1 := h.c1
  have c3 := h.c3
  have f0 := h.fz 0
  have f1 := h.fz 1
  have f3 := h.fz 3
  unfold intV at c3
  have h1 := h.setQ (w' := w) (v' := .slice none 0 0) (q' := []) (row := none) (vrow_nil w) (grown_refl w none) (fun k e => by cases e) (by cases v2.ownBlock <;> simp) (fun k hk => by cases hk)
  have h2 := h1.setS (w' := (w.setCell ⟨b, 0, none⟩ (.slice none 0 0))) (v' := .slice none 0 0) (st' := []) (row := none) (World.ownsRow_nil _ _ _ _) (grown_refl _ none) (fun k e => by cases e) (.inl rfl) (fun k hk => by cases hk)
  have h3 := h2.setI 0
  have b2 : OnlyB b w (((w.setCell ⟨b, 0, none⟩ (.slice none 0 0)).setCell ⟨b, 1, none⟩ (.slice none 0 0)).setCell ⟨b, 3, none⟩ (intV 0)) := (((OnlyB.refl b w).setCell 0 _).setCell 1 _).setCell 3 _
  go_enter Try.func25, Try.ntmps25
  go_wp2_with (go_at_call 40; refine hn.mono ?_; rintro e W1 ⟨rfl, rfl⟩)
  go_wp2
  go_end0
  exact ⟨rfl, ⟨_, _, h3⟩, b2.fr h.hb⟩
theorem take_snoc {α : Type} {l : List α} {i : Nat} {x : α} (h : l[i]? = some x) : l.take (i + 1) = l.take i ++ [x] := by
  rw [List.take_add_one, h]; rfl
theorem lenS_snoc (L : List L8) (p : L8) : lenS (L ++ [p]) = lenS L + p.length := by
  unfold lenS cat
  rw [List.flatten_append, List.length_append]; simp
theorem lenS_take (L : List L8) (i : Nat) : lenS (L.take i) ≤ lenS L := by
  have h := List.take_append_drop i L
  conv => rhs; rw [← h]
  unfold lenS cat
  rw [List.flatten_append, List.length_append]; omega
set_option maxHeartbeats 1600000 in
theorem rwait_calls {S : Nat → Prop} {b : Nat} {v : Value} {y : RS} {w : World} (h : RC S b v y w) (hl : y.L.length ≤ 2 ^ 30) (hq : y.wait ≤ 2 ^ 30) :
    Calls Try.prog 28 #[.pointer (some ⟨b, 0, none⟩)] w fun e w' => e = .returned (.int .i64 ((y.wait : Nat) : Int)) ∧ w = w' := by
  obtain ⟨ao, cap, rfl⟩ := ownsRow_slice h.r
  have c1 := h.c1
  obtain ⟨L, hL⟩ : ∃ L, y.L = L := ⟨_, rfl⟩
  have hstr : ∀ i l, L[i]? = some l → ∃ g, ao = some ⟨g, 0, none⟩ ∧ i < cap ∧ w.cell? ⟨g, i, none⟩ = some (.string (strB l)) := by
    intro i l hi
    have hil := (List.getElem?_eq_some_iff.1 hi).1
    rw [← hL] at hil
    obtain ⟨hcap, g, e⟩ := ownsRow_base h.r (by omega)
    exact ⟨g, e, by omega, h.str (g := g) (cap := cap) (by rw [e]) (by rw [hL]; exact hi)⟩
  have hw : y.wait = lenS L := by unfold RS.wait; rw [hL]
  rw [hw] at hq ⊢
  rw [hL] at c1 hl
  clear h hw hL
  obtain ⟨n, hn⟩ : ∃ n, L.length = n := ⟨_, rfl⟩
  rw [hn] at c1 hl
  go_enter Try.func28, Try.ntmps28
  go_wp2
  go_loop [3, 4] (fun a i => ∃ k : Nat, k ≤ n ∧ i = .int .i64 (k : Nat) ∧ a = .int .i64 ((lenS (L.take k) : Nat) : Int)) (fun _ i => n - iOf i)
  case atStart => exact ⟨0, Nat.zero_le _, rfl, rfl⟩
  case round =>
    obtain ⟨k, hk, rfl, rfl⟩ := hrel
    rcases Nat.lt_or_ge k n with hlt | hge
    · obtain ⟨l, hl2⟩ : ∃ l, L[k]? = some l := ⟨L[k], List.getElem?_eq_getElem (by omega)⟩
      obtain ⟨g, rfl, hkc, hc⟩ := hstr k l hl2
      have hlt' : ((k : Nat) : Int) < ((n : Nat) : Int) := by omega
      have hsz : (strB l).size = l.length := rfl
      have htk := lenS_take L (k + 1)
      rw [take_snoc hl2, lenS_snoc] at htk
      obtain ⟨A, hA⟩ : ∃ A, lenS (L.take k) = A := ⟨_, rfl⟩
      rw [hA] at htk ⊢
      go_wp2
      refine ⟨⟨k + 1, by omega, by congr 1, ?_⟩, ?_⟩
      · rw [take_snoc hl2, lenS_snoc, hA]; congr 1
      · show n - (((k : Nat) : Int) + 1).toNat < n - (((k : Nat) : Int)).toNat
        omega
    · have hge' : ¬ ((k : Nat) : Int) < ((n : Nat) : Int) := by omega
      go_wp2
      go_ret
      rw [List.take_of_length_le (by omega)]
      exact ⟨rfl, rfl⟩
theorem rwaits {S : Nat → Prop} {b N : Nat} {y : RS} {w : World} (h : RAt S b y w) (hl : y.L.length ≤ N) (hn : N ≤ 2 ^ 20) (hq : y.wait ≤ 2 ^ 30) :
    Calls Try.prog 28 #[.pointer (some ⟨b, 0, none⟩)] w fun e w' => e = .returned (.int .i64 ((y.wait : Nat) : Int)) ∧ w = w' := by
  obtain ⟨v, h⟩ := h
  exact rwait_calls h (by omega) hq
end Go.Am.Tmf
