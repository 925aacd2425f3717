/-
  Tmframe: both fillers. Own work.
-/
import Derived.Test.YtlgpalokjckdcaaTmfQX
import Derived.Test.YtlgpalokjckdcaaTmfQ4
namespace Go.Am.Tmf
open Go Go.Am Go.Am.Lib Go.Lib Go.Proofs Go.RowKit
open Go.Am.Own
set_option maxRecDepth 100000

end Go.Am.Tmf

namespace Go.Am.Tmf
open Go Go.Am Go.Am.Lib Go.Proofs
set_option maxRecDepth 100000

theorem Rel.zero {n : Nat} (lo : 32 ≤ n) (hi : n ≤ 200) : Rel (fs0 n) (rs0 n) :=
 { size := rfl, lo := lo, hi := hi, q := rfl, idle := rfl, rest := Nat.zero_le _, st := rfl, ne := fun p hp => (by cases hp), bg := fun _ => rfl }
theorem Rel.addE {x : FS} {y : RS} (h : Rel x y) (p : ByteArray) : Tmf.addE x p = raddE y p := by
 unfold Tmf.addE raddE
 rw [h.wait]
theorem getE_ne {p : ByteArray} (h : Pkt.getE p = 0) : p.data.toList ≠ [] := by
 intro e
 have hs := size_list p
 rw [e] at hs
 have h0 : p.size = 0 := by simpa using hs.symm
 have h1 : Pkt.takeE p = 0 ∧ Pkt.pL p = p.size := by
  unfold Pkt.getE at h
  split at h
  · assumption
  · cases h
 have h2 : Pkt.takeE p ≠ 0 := by
  unfold Pkt.takeE
  split
  · decide
  · rw [if_pos (by omega)]; decide
 exact h2 h1.1
/-- After an Add the two are alike again. -/
theorem Rel.added {x : FS} {y : RS} (h : Rel x y) (p : ByteArray) : Rel (if Tmf.addE x p = 0 then x.add p.data.toList else x) (if raddE y p = 0 then y.add p.data.toList else y) := by
 rw [← h.addE p]
 by_cases h0 : Tmf.addE x p = 0
 · rw [if_pos h0, if_pos h0]
   refine h.add (getE_ne ?_)
   unfold Tmf.addE at h0
   split at h0
   · cases h0
   · rename_i hn
     rcases getE_cases p with e | e
     · exact e
     · exact absurd (.inl (by rw [e]; decide)) hn
 · rw [if_neg h0, if_neg h0]; exact h
end Go.Am.Tmf

namespace Go.Am.Tmf
open Go Go.Am Go.Am.Lib Go.Lib Go.Proofs Go.RowKit
open Go.Am.Own
set_option maxRecDepth 100000

/-- What a filler in a later world needs: no more than it holds, and what is new then. -/
def ShS (S : Nat → Prop) (n m : Nat) : Nat → Prop := fun k => (S k ∧ k < n) ∨ m ≤ k
theorem ShS.old {S : Nat → Prop} {n m k : Nat} (h : ShS S n m k) (hk : k < m) : S k ∧ k < n := by
 rcases h with h | h
 · exact h
 · omega
theorem RAt.shrink {S : Nat → Prop} {b : Nat} {y : RS} {w w' : World} (h : RAt S b y w) (hk : ∀ k, S k → k < w.heap.size → w'.heap[k]? = w.heap[k]?) : RAt (ShS S w.heap.size w'.heap.size) b y w' := by
 obtain ⟨v, h⟩ := h
 exact ⟨v, { hS := fun k hk => .inr hk, hb := .inl ⟨h.hb, h.lt⟩, cell := (hk b h.hb h.lt).trans h.cell, r := ownsRow_keep h.r fun k hv => hk k (h.s k hv) (h.r.lt k hv).2, s := fun k hv => .inl ⟨h.s k hv, (h.r.lt k hv).2⟩ }⟩
/-- The two fillers of the law, after N calls; B: where they begin. -/
structure Two (B b1 b2 N : Nat) (x : FS) (y : RS) (w : World) : Prop where
 ex : ∃ S1 S2 : Nat → Prop, FAt S1 b1 x w ∧ RAt S2 b2 y w ∧ (∀ k, k < w.heap.size → S1 k → ¬ S2 k) ∧ (∀ k, k < w.heap.size → S1 k → B ≤ k) ∧ (∀ k, k < w.heap.size → S2 k → B ≤ k)
 rel : Rel x y
 ok : OkF x N
end Go.Am.Tmf

namespace Go.Am.Tmf
open Go Go.Am Go.Am.Lib Go.Lib Go.Proofs Go.RowKit
open Go.Am.Own
set_option maxRecDepth 100000

def FS.nx (x : FS) : FS := if x.wait = 0 then x else x.next idleL
def RS.nx (y : RS) : RS := if y.wait = 0 then y else y.next idleL
def nxE (d : L8) (f wt : Nat) : Value := if wt = 0 then .tuple #[.string ⟨#[]⟩, .int .i64 0, .bool false] else .tuple #[.string ⟨⟨d⟩⟩, .int .i64 ((f : Nat) : Int), .bool true]
theorem stOf_len : ∀ (L : List L8) (b : Nat), (stOf b false L).length = L.length
 | [], _ => rfl
 | p :: r, b => by rw [stOf, List.length_cons, List.length_cons, stOf_len r]
theorem stOf_len1 (L : List L8) (b : Nat) (bg : Bool) : L.length ≤ (stOf b bg L).length + 1 := by
 cases bg with
 | false => rw [stOf_len]; omega
 | true =>
  cases L with
  | nil => exact Nat.zero_le _
  | cons p r => rw [stOf, stOf_len, List.length_cons]; omega
theorem rnext_at {S : Nat → Prop} {b N : Nat} {x : FS} {y : RS} {w : World} (h : RAt S b y w) (hr : Rel x y) (ho : OkF x N) (hN : N + 1 ≤ 2 ^ 20) :
 Calls Try.prog 50 #[.pointer (some ⟨b, 0, none⟩)] w fun e w' => e = .returned (nxE (x.data idleL) (x.first idleL) x.wait) ∧ RAt S b y.nx w' ∧ FrS S w w' := by
 have hl : y.L.length ≤ N + 1 := by
  have h1 := stOf_len1 y.L y.rest.length y.begun
  have h2 := ho.st
  rw [hr.st] at h2
  omega
 have hw := hr.wait
 have hwb : y.wait ≤ 66000 := by rw [← hw]; exact Nat.le_trans (Nat.sub_le _ _) ho.q
 have hn := hr.next (idle := idleL) fun n h7 h2 => idleL_len h7 (by omega)
 unfold RS.nx nxE
 rw [hw]
 by_cases h0 : y.wait = 0
 · rw [if_pos h0, if_pos h0]
   exact (rnext_none h hl hN h0).mono fun e w' ⟨e1, e2⟩ => ⟨e1, by rw [← e2]; exact h, by rw [← e2]; exact FrS.refl _ _⟩
 · rw [if_neg h0, if_neg h0, hn.1, hn.2.1]
   obtain ⟨sz, L, bg, rest⟩ := y
   have hsz : x.size = sz := hr.size
   exact (rnext_some h (by rw [← hsz]; exact hr.lo) (by rw [← hsz]; exact hr.hi) hr.rest hl hN (Nat.le_trans hwb (by decide)) h0 hr.ne).mono fun e w' ⟨e1, e2, e3⟩ => ⟨e1, e2, e3⟩
theorem Rel.nx {x : FS} {y : RS} (h : Rel x y) : Rel x.nx y.nx := by
 unfold FS.nx RS.nx
 rw [h.wait]
 by_cases h0 : y.wait = 0
 · rw [if_pos h0, if_pos h0]; exact h
 · rw [if_neg h0, if_neg h0]
   exact (h.next (idle := idleL) fun n h7 h2 => idleL_len h7 (by omega)).2.2
theorem OkF.zero {n : Nat} (lo : 32 ≤ n) (hi : n ≤ 200) : OkF (fs0 n) 0 := { lo := lo, hi := hi, idle := Nat.zero_le _, q := Nat.zero_le _, st := Nat.zero_le _, sv := fun a h => (by cases h), n := Nat.zero_le _ }
end Go.Am.Tmf
