/-
  Cltu: a parser as plain data; what a byte does with it. Own work.
-/
import Derived.Test.YtoeepogoogcbiaaDoorCltAE
import Derived.Test.YtoeepogoogcbiaaDoorCltAF
import Derived.Test.YtoeepogoogcbiaaDoorCltAG
namespace Go.Am.Clt
open Go Go.Am Go.Am.Lib Go.Lib Go.Proofs Go.RowKit
set_option maxRecDepth 100000

structure PS where
  begun : Bool
  known : Bool
  last : UInt8
  data : ByteArray
  block : ByteArray
  found : List ByteArray
def ps0 : PS := ⟨false, false, 0, ⟨#[]⟩, ⟨#[]⟩, []⟩
def stepP (p : PS) (x : UInt8) : PS :=
  if p.begun = true then
    if p.block.size < 7 then ⟨true, p.known, p.last, p.data, p.block.push x, p.found⟩
    else if chkE (p.block.push x) = 0 ∧ (p.data ++ chkS (p.block.push x)).size < 350 then ⟨true, p.known, p.last, p.data ++ chkS (p.block.push x), ⟨#[]⟩, p.found⟩
    else ⟨false, false, p.last, ⟨#[]⟩, ⟨#[]⟩, if (p.data ++ chkS (p.block.push x)).size = 0 then p.found else p.found ++ [p.data ++ chkS (p.block.push x)]⟩
  else if (p.known && nearV p.last.toNat x.toNat) = true then ⟨true, true, p.last, p.data, p.block, p.found⟩
  else ⟨false, true, x, p.data, p.block, p.found⟩
def feedP (p : PS) (l : List UInt8) : PS := l.foldl stepP p
structure OkP (p : PS) (N : Nat) : Prop where
  block : p.block.size ≤ 7
  data : p.data.size < 350
  found : p.found.length ≤ N
theorem ok_step {p : PS} {N : Nat} (h : OkP p N) (x : UInt8) : OkP (stepP p x) (N + 1) := by
  have h1 := h.block; have h2 := h.data; have h3 := h.found
  unfold stepP
  split
  · split
    · exact ⟨by show (p.block.push x).size ≤ 7; rw [ByteArray.size_push]; omega, h2, by show p.found.length ≤ N + 1; omega⟩
    · split
      · rename_i hc; exact ⟨Nat.zero_le _, hc.2, by show p.found.length ≤ N + 1; omega⟩
      · refine ⟨Nat.zero_le _, by show 0 < 350; omega, ?_⟩
        show (if _ then _ else _ : List ByteArray).length ≤ N + 1
        split
        · omega
        · rw [List.length_append]; exact Nat.succ_le_succ h3
  · split
    · exact ⟨h1, h2, by show p.found.length ≤ N + 1; omega⟩
    · exact ⟨h1, h2, by show p.found.length ≤ N + 1; omega⟩
def PAt (S : Nat → Prop) (b : Nat) (p : PS) (w : World) : Prop := ∃ v1 v2 v3, PC S b (if p.begun then F49 else F42) (.bool p.known) (.int .u8 (p.last.toNat : Int)) v1 v2 (.bool p.begun) v3 p.data p.block p.found w
theorem PAt.drew {S : Nat → Prop} {b : Nat} {p : PS} {w : World} (h : PAt S b p w) : PAt S b p w.drew := by
  obtain ⟨v1, v2, v3, h⟩ := h; exact ⟨v1, v2, v3, h.drew⟩
theorem PAt.keep {S : Nat → Prop} {b : Nat} {p : PS} {w w' : World} (h : PAt S b p w) (hs : w.heap.size ≤ w'.heap.size) (hk : ∀ k, S k → k < w.heap.size → w'.heap[k]? = w.heap[k]?) : PAt S b p w' := by
  obtain ⟨v1, v2, v3, h⟩ := h; exact ⟨v1, v2, v3, h.keep hs hk⟩
theorem PAt.below {S : Nat → Prop} {b : Nat} {p : PS} {w w' : World} (h : PAt S b p w) (hb : Below w.heap.size w w') : PAt S b p w' := h.keep hb.size fun k _ hk => hb.block k hk
/-- The start's two bytes. -/
theorem start_cells {W0 w : World} (hG : GOk G0 W0) (hold : ∀ n, n < W0.heap.size → w.heap[n]? = W0.heap[n]?) : w.cell? ⟨0, 0, none⟩ = some (.int .u8 235) ∧ w.cell? ⟨0, 1, none⟩ = some (.int .u8 144) := by
  obtain ⟨_, h1, cs, t, fr, rest, h2, h3⟩ := hG 0 startV rfl
  have hw : w.heap[0]? = some (.cells cs t fr) := (hold 0 h1).trans h2
  have hc : ∀ (j : Nat) (u : Value), startV[j]? = some u → cs[j]? = some u := by
    intro j u hu
    have hj : j < startV.length := by
      rcases Nat.lt_or_ge j startV.length with h | h
      · exact h
      · rw [List.getElem?_eq_none h] at hu; cases hu
    rw [← Array.getElem?_toList, h3, List.getElem?_append_left hj]
    exact hu
  exact ⟨(cell_of hw).trans (hc 0 _ rfl), (cell_of hw).trans (hc 1 _ rfl)⟩
theorem take_step {W0 : World} (hG : GOk G0 W0) {S : Nat → Prop} {b : Nat} {p : PS} {w : World} (x : UInt8) (h : PAt S b p w) (hp : OkP p (2 ^ 39)) (hW : ∀ k, k < W0.heap.size → ¬ S k) (hold : ∀ n, n < W0.heap.size → w.heap[n]? = W0.heap[n]?) :
    Calls Tryd.prog (if p.begun then 49 else 42) #[.pointer (some ⟨b, 0, none⟩), .int .u8 (x.toNat : Int)] w fun e w' => e = .returned (.tuple #[]) ∧ PAt S b (stepP p x) w' ∧ FrS S w w' := by
  obtain ⟨bg, kn, la, d, bl, fs⟩ := p
  obtain ⟨v1, v2, v3, h⟩ := h
  have h1 := hp.block
  have h2 := hp.data
  have h3 := hp.found
  simp only at h h1 h2 h3
  cases bg with
  | true =>
    rcases Nat.lt_or_ge bl.size 7 with hb | hb
    · refine (b1_short x h hb).mono ?_
      rintro e w' ⟨rfl, v2', q1, q2⟩
      refine ⟨rfl, ?_, q2⟩
      have hs : stepP ⟨true, kn, la, d, bl, fs⟩ x = ⟨true, kn, la, d, bl.push x, fs⟩ := by
        unfold stepP; rw [if_pos rfl, if_pos hb]
      rw [hs]; exact ⟨_, _, _, q1⟩
    · have hb7 : bl.size = 7 := by omega
      have hqs : (bl.push x).size = 8 := by rw [ByteArray.size_push]; omega
      by_cases hc : chkE (bl.push x) = 0 ∧ (d ++ chkS (bl.push x)).size < 350
      · refine (b1_more hG x h hb7 hc.1 hc.2 (by omega) (by omega) hW hold).mono ?_
        rintro e w' ⟨rfl, v1', v2', q1, q2⟩
        refine ⟨rfl, ?_, q2⟩
        have hs : stepP ⟨true, kn, la, d, bl, fs⟩ x = ⟨true, kn, la, d ++ chkS (bl.push x), ⟨#[]⟩, fs⟩ := by
          unfold stepP; rw [if_pos rfl, if_neg (show ¬ bl.size < 7 by omega), if_pos hc]
        rw [hs]; exact ⟨_, _, _, q1⟩
      · by_cases hd : (d ++ chkS (bl.push x)).size = 0
        · have hE : chkE (bl.push x) = 6 := by
            rcases chkE_cases _ hqs with h | h
            · exact absurd ⟨h.1, by omega⟩ hc
            · exact h.1
          refine (b1_none hG x h hb7 hE hd (by omega) (by omega) hW hold).mono ?_
          rintro e w' ⟨rfl, q1, q2⟩
          refine ⟨rfl, ?_, q2⟩
          have hs : stepP ⟨true, kn, la, d, bl, fs⟩ x = ⟨false, false, la, ⟨#[]⟩, ⟨#[]⟩, fs⟩ := by
            unfold stepP; rw [if_pos rfl, if_neg (show ¬ bl.size < 7 by omega), if_neg hc, if_pos hd]
          rw [hs]; exact ⟨_, _, _, q1⟩
        · have hE : (chkE (bl.push x) = 0 ∧ ¬ (d ++ chkS (bl.push x)).size < 350) ∨ chkE (bl.push x) = 6 := by
            rcases chkE_cases _ hqs with h | h
            · exact Or.inl ⟨h.1, fun hl => hc ⟨h.1, hl⟩⟩
            · exact Or.inr h.1
          refine (b1_found hG x h hb7 rfl hE (by omega) (by omega) (by omega) hW hold).mono ?_
          rintro e w' ⟨rfl, v3', q1, q2⟩
          refine ⟨rfl, ?_, q2⟩
          have hs : stepP ⟨true, kn, la, d, bl, fs⟩ x = ⟨false, false, la, ⟨#[]⟩, ⟨#[]⟩, fs ++ [d ++ chkS (bl.push x)]⟩ := by
            unfold stepP; rw [if_pos rfl, if_neg (show ¬ bl.size < 7 by omega), if_neg hc, if_neg hd]
          rw [hs]; exact ⟨_, _, _, q1⟩
  | false =>
    obtain ⟨g0, g1⟩ := start_cells hG hold
    by_cases hn : (kn && nearV la.toNat x.toNat) = true
    · have hk : kn = true := by cases kn <;> simp_all
      subst hk
      have hn' : nearV la.toNat x.toNat = true := by simpa using hn
      refine (search1_yes b w _ la.toNat x.toNat _ _ _ _ hn' g0 g1 h.cell).mono ?_
      rintro e w' ⟨rfl, q1, q2⟩
      refine ⟨rfl, ?_, q1.fr h.hb⟩
      have hs : stepP ⟨false, true, la, d, bl, fs⟩ x = ⟨true, true, la, d, bl, fs⟩ := by
        unfold stepP; rw [if_neg (by simp), if_pos hn]
      rw [hs]; exact ⟨_, _, _, h.cells q1 q2⟩
    · have hn' : (kn && nearV la.toNat x.toNat) = false := by simpa using hn
      refine (search1_no b w _ kn la.toNat x.toNat _ _ _ _ hn' g0 g1 h.cell).mono ?_
      rintro e w' ⟨rfl, q1, q2⟩
      refine ⟨rfl, ?_, q1.fr h.hb⟩
      have hs : stepP ⟨false, kn, la, d, bl, fs⟩ x = ⟨false, true, x, d, bl, fs⟩ := by
        unfold stepP; rw [if_neg (by simp), if_neg hn]
      rw [hs]; exact ⟨_, _, _, h.cells q1 q2⟩
end Go.Am.Clt
