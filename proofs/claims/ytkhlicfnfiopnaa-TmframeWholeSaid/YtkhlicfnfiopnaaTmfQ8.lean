/-
  Tmframe: Next of both fillers answers alike. Own work.
-/
import Derived.Test.YtkhlicfnfiopnaaTmfQ7
import Derived.Test.YtkhlicfnfiopnaaTmfQ4
namespace Go.Am.Tmf
open Go Go.Am Go.Am.Lib Go.Lib Go.Proofs Go.RowKit
open Go.Am.Own
set_option maxRecDepth 100000

def FS.nx (x : FS) : FS := if x.wait = 0 then x else x.next idleL
def RS.nx (y : RS) : RS := if y.wait = 0 then y else y.next idleL
def nxE (d : L8) (f wt : Nat) : Value := if wt = 0 then .tuple #[.string ⟨#[]⟩, .int .i64 0, .bool false] else .tuple #[.string ⟨⟨d⟩⟩, .int .i64 ((f : Nat) : Int), .bool true]
theorem next_at {S : Nat → Prop} {b N : Nat} {x : FS} {w : World} (h : FAt S b x w) (ho : OkF x N) :
    Calls Try.prog 20 #[.pointer (some ⟨b, 0, none⟩)] w fun e w' => e = .returned (nxE (x.data idleL) (x.first idleL) x.wait) ∧ FAt S b x.nx w' ∧ FrS S w w' := by
  unfold FS.nx nxE
  by_cases h0 : x.wait = 0
  · rw [if_pos h0, if_pos h0]
    exact next_none h ho h0
  · rw [if_neg h0, if_neg h0]
    exact next_some h ho h0
theorem stOf_len : ∀ (L : List L8) (b : Nat), (stOf b false L).length = L.length
  | [], _ => rfl
  | p :: r, b => by rw [stOf, List.length_cons, List.length_cons, stOf_len r]
theorem stOf_len1 (L : List L8) (b : Nat) (bg : Bool) : L.length ≤ (stOf b bg L).length + 1 := by
  cases bg with
  | false => rw [stOf_len]; omega
  | true =>
    cases L with
    | nil => exact Nat.zero_le _
    | cons p r => rw [stOf, stOf_len, List.length_cons]; omega
theorem rnext_at {S : Nat → Prop} {b N : Nat} {x : FS} {y : RS} {w : World} (h : RAt S b y w) (hr : Rel x y) (ho : OkF x N) (hN : N + 1 ≤ 2 ^ 20) :
    Calls Try.prog 24 #[.pointer (some ⟨b, 0, none⟩)] w fun e w' => e = .returned (nxE (x.data idleL) (x.first idleL) x.wait) ∧ RAt S b y.nx w' ∧ FrS S w w' := by
  have hl : y.L.length ≤ N + 1 := by
    have h1 := stOf_len1 y.L y.rest.length y.begun
    have h2 := ho.st
    rw [hr.st] at h2
    omega
  have hw := hr.wait
  have hwb : y.wait ≤ 66000 := by rw [← hw]; exact Nat.le_trans (Nat.sub_le _ _) ho.q
  have hn := hr.next (idle := idleL) fun n h7 h2 => idleL_len h7 (by omega)
  unfold RS.nx nxE
  rw [hw]
  by_cases h0 : y.wait = 0
  · rw [if_pos h0, if_pos h0]
    exact (rnext_none h hl hN h0).mono fun e w' ⟨e1, e2⟩ => ⟨e1, by rw [← e2]; exact h, by rw [← e2]; exact FrS.refl _ _⟩
  · rw [if_neg h0, if_neg h0, hn.1, hn.2.1]
    obtain ⟨sz, L, bg, rest⟩ := y
    have hsz : x.size = sz := hr.size
    exact (rnext_some h (by rw [← hsz]; exact hr.lo) (by rw [← hsz]; exact hr.hi) hr.rest hl hN (Nat.le_trans hwb (by decide)) h0 hr.ne).mono fun e w' ⟨e1, e2, e3⟩ => ⟨e1, e2, e3⟩
theorem Rel.nx {x : FS} {y : RS} (h : Rel x y) : Rel x.nx y.nx := by
  unfold FS.nx RS.nx
  rw [h.wait]
  by_cases h0 : y.wait = 0
  · rw [if_pos h0, if_pos h0]; exact h
  · rw [if_neg h0, if_neg h0]
    exact (h.next (idle := idleL) fun n h7 h2 => idleL_len h7 (by omega)).2.2
theorem OkF.up {x : FS} {N N' : Nat} (h : OkF x N) (hN : N ≤ N') (h2 : N' ≤ 2 ^ 20) : OkF x N' := { lo := h.lo, hi := h.hi, idle := h.idle, q := h.q, st := Nat.le_trans h.st hN, sv := h.sv, n := h2 }
theorem OkF.nx {x : FS} {N : Nat} (h : OkF x N) (hN : N + 1 ≤ 2 ^ 20) : OkF x.nx (N + 1) := by
  unfold FS.nx
  split
  · exact h.up (Nat.le_succ N) hN
  · exact h.next hN
theorem OkF.added {x : FS} {y : RS} {N : Nat} (h : OkF x N) (hr : Rel x y) (p : ByteArray) (hN : N + 1 ≤ 2 ^ 20) : OkF (if addE x p = 0 then x.add p.data.toList else x) (N + 1) := by
  by_cases h0 : addE x p = 0
  · rw [if_pos h0]
    refine h.add hN (by have := hr.idle; have := hr.rest; omega) ?_
    unfold addE at h0
    split at h0
    · cases h0
    · split at h0
      · cases h0
      · assumption
  · rw [if_neg h0]
    exact h.up (Nat.le_succ N) hN
theorem OkF.zero {n : Nat} (lo : 32 ≤ n) (hi : n ≤ 200) : OkF (fs0 n) 0 := { lo := lo, hi := hi, idle := Nat.zero_le _, q := Nat.zero_le _, st := Nat.zero_le _, sv := fun a h => (by cases h), n := Nat.zero_le _ }
end Go.Am.Tmf
