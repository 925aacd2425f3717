/-
  Cltu: the reference's parser: plain data, and where it lies. Own work.
-/
import Derived.Test.YtoeepogoogcbiaaDoorCltCAB
import Derived.Test.YtoeepogoogcbiaaDoorCltAU
namespace Go.Am.Clt
open Go Go.Am Go.Am.Lib Go.Lib Go.Proofs Go.RowKit
set_option maxRecDepth 100000

structure RS where
  begun : Bool
  data : ByteArray
  block : ByteArray
  has : Bool
  last : UInt8
def rs0 : RS := ⟨false, ⟨#[]⟩, ⟨#[]⟩, false, 0⟩
structure Sim13 (p : PS) (r : RS) : Prop where
  begun : r.begun = p.begun
  on : p.begun = true → r.data = p.data ∧ r.block = p.block
  off : p.begun = false → p.data = ⟨#[]⟩ ∧ p.block = ⟨#[]⟩ ∧ r.has = p.known ∧ (p.known = true → r.last = p.last)
theorem sim0 : Sim13 ps0 rs0 := ⟨rfl, fun h => (by cases h), fun _ => ⟨rfl, rfl, rfl, fun h => (by cases h)⟩⟩
theorem sim_clr {p : PS} {r : RS} (h : Sim13 p r) : Sim13 (clr p) r := ⟨h.begun, h.on, h.off⟩
section
variable {q : PS} {d bl : ByteArray} {has : Bool} {la : UInt8} (x : UInt8)
theorem sim_begin (h : Sim13 q ⟨false, d, bl, true, la⟩) (hn : nearV la.toNat x.toNat = true) : Sim13 (stepP q x) ⟨true, ⟨#[]⟩, ⟨#[]⟩, false, 0⟩ ∧ (stepP q x).found = q.found := by
  have hb : q.begun = false := h.begun.symm
  obtain ⟨o1, o2, o3, o4⟩ := h.off hb
  have hk : q.known = true := o3.symm
  have hl : la = q.last := o4 hk
  have hs : stepP q x = ⟨true, true, q.last, q.data, q.block, q.found⟩ := by
    unfold stepP
    rw [if_neg (by rw [hb]; simp), if_pos (by rw [hk, ← hl, hn]; rfl)]
  rw [hs]
  exact ⟨⟨rfl, fun _ => ⟨o1.symm, o2.symm⟩, fun h => (by cases h)⟩, rfl⟩
theorem sim_no (h : Sim13 q ⟨false, d, bl, has, la⟩) (hn : (has && nearV la.toNat x.toNat) = false) : Sim13 (stepP q x) ⟨false, d, bl, true, x⟩ ∧ (stepP q x).found = q.found := by
  have hb : q.begun = false := h.begun.symm
  obtain ⟨o1, o2, o3, o4⟩ := h.off hb
  have o3 : has = q.known := o3
  have hs : stepP q x = ⟨false, true, x, q.data, q.block, q.found⟩ := by
    unfold stepP
    rw [if_neg (by rw [hb]; simp), if_neg]
    cases hk : q.known with
    | false => simp
    | true =>
      have hl : la = q.last := o4 hk
      rw [o3, hk, hl] at hn
      rw [hn]; simp
  rw [hs]
  exact ⟨⟨rfl, fun h => (by cases h), fun _ => ⟨o1, o2, rfl, fun _ => rfl⟩⟩, rfl⟩
theorem sim_take (h : Sim13 q ⟨true, d, bl, has, la⟩) (hb7 : bl.size < 7) : Sim13 (stepP q x) ⟨true, d, bl.push x, has, la⟩ ∧ (stepP q x).found = q.found := by
  have hb : q.begun = true := h.begun.symm
  obtain ⟨o1, o2⟩ := h.on hb
  have o1 : d = q.data := o1
  have o2 : bl = q.block := o2
  have hs : stepP q x = ⟨true, q.known, q.last, q.data, q.block.push x, q.found⟩ := by
    unfold stepP
    rw [if_pos hb, if_pos (by rw [← o2]; exact hb7)]
  rw [hs]
  exact ⟨⟨rfl, fun _ => ⟨o1, by rw [o2]⟩, fun h => (by cases h)⟩, rfl⟩
theorem sim_more (h : Sim13 q ⟨true, d, bl, has, la⟩) (hb7 : bl.size = 7) (hc : chkE (bl.push x) = 0 ∧ (d ++ chkS (bl.push x)).size < 350) : Sim13 (stepP q x) ⟨true, d ++ chkS (bl.push x), ⟨#[]⟩, has, la⟩ ∧ (stepP q x).found = q.found := by
  have hb : q.begun = true := h.begun.symm
  obtain ⟨o1, o2⟩ := h.on hb
  have o1 : d = q.data := o1
  have o2 : bl = q.block := o2
  subst o1 o2
  have hs : stepP q x = ⟨true, q.known, q.last, q.data ++ chkS (q.block.push x), ⟨#[]⟩, q.found⟩ := by
    unfold stepP
    rw [if_pos hb, if_neg (by omega), if_pos hc]
  rw [hs]
  exact ⟨⟨rfl, fun _ => ⟨rfl, rfl⟩, fun h => (by cases h)⟩, rfl⟩
theorem sim_end (h : Sim13 q ⟨true, d, bl, has, la⟩) (hb7 : bl.size = 7) (hc : ¬ (chkE (bl.push x) = 0 ∧ (d ++ chkS (bl.push x)).size < 350)) : Sim13 (stepP q x) rs0 ∧ (stepP q x).found = if (d ++ chkS (bl.push x)).size = 0 then q.found else q.found ++ [d ++ chkS (bl.push x)] := by
  have hb : q.begun = true := h.begun.symm
  obtain ⟨o1, o2⟩ := h.on hb
  have o1 : d = q.data := o1
  have o2 : bl = q.block := o2
  subst o1 o2
  have hs : stepP q x = ⟨false, false, q.last, ⟨#[]⟩, ⟨#[]⟩, if (q.data ++ chkS (q.block.push x)).size = 0 then q.found else q.found ++ [q.data ++ chkS (q.block.push x)]⟩ := by
    unfold stepP
    rw [if_pos hb, if_neg (by omega), if_neg hc]
  rw [hs]
  exact ⟨⟨rfl, fun h => (by cases h), fun _ => ⟨rfl, rfl, rfl, fun h => (by cases h)⟩⟩, rfl⟩
end
/-! ### where it lies -/
def RAt (R : Nat) (r : RS) (w : World) : Prop := w.heap[R]? = some (.cells #[.bool r.begun, .string r.data, .string r.block, .bool r.has, .int .u8 (r.last.toNat : Int)] 45 (0, 0))
theorem RAt.lt {R : Nat} {r : RS} {w : World} (h : RAt R r w) : R < w.heap.size := (Array.getElem?_eq_some_iff.1 h).1
/-- What the reference's Feed may change. -/
def RSet (R n k : Nat) : Prop := k = R ∨ n ≤ k
structure RI (w : World) (R : Nat) (r : RS) (ov : Value) (L : List ByteArray) (wr : World) : Prop where
  fr : FrS (RSet R w.heap.size) w wr
  at' : RAt R r wr
  row : wr.ownsRow w.heap.size 9 1 ov L.length (L.map .string)
section
variable {w wr w' : World} {R : Nat} {r r' : RS} {ov : Value} {L : List ByteArray}
theorem RI.only (h : RI w R r ov L wr) (ho : OnlyB R wr w') (ha : RAt R r' w') : RI w R r' ov L w' :=
  { fr := h.fr.trans (ho.fr (Or.inl rfl)), at' := ha, row := ownsRow_keep h.row fun k hk => ho.rest k fun e => ownsRow_neb h.row h.at' (by decide) (by rw [hk, e]) }
theorem RI.below (h : RI w R r ov L wr) (hb : Below wr.heap.size wr w') : RI w R r ov L w' :=
  { fr := h.fr.trans (fr_of hb fun k hk => Or.inr (by have := h.fr.size; omega)), at' := (hb.block R h.at'.lt).trans h.at', row := ownsRow_keep h.row fun k hk => hb.block k (h.row.lt k hk).2 }
theorem RI.drew (h : RI w R r ov L wr) : RI w R r ov L wr.drew := { fr := h.fr.drew, at' := h.at', row := h.row }
theorem RI.old (h : RI w R r ov L wr) {W0 : World} (hold : Below W0.heap.size W0 w) (hR : W0.heap.size ≤ R) : Below W0.heap.size W0 wr :=
  hold.trans (h.fr.below fun k hk hq => by have := hold.size; rcases hq with e | e <;> omega)
theorem RI.grow (h : RI w R r ov L wr) {v' : Value} {L' : List ByteArray} (hr : w'.ownsRow w.heap.size 9 1 v' L'.length (L'.map .string)) (hg : wr.grownBy w' ov.ownBlock) : RI w R r v' L' w' :=
  { fr := h.fr.grown hg (fun k hk => Or.inr (by have := h.fr.size; omega)) (fun k hk => Or.inr (h.row.lt k hk).1), at' := (hg.block R h.at'.lt (fun e => ownsRow_neb h.row h.at' (by decide) e.symm)).trans h.at', row := hr }
end
theorem rchk_at {W0 : World} (hG : GOk G0 W0) {w : World} (hold : Below W0.heap.size W0 w) (s : ByteArray) (hs : s.size < 2 ^ 62) :
    Calls Tryd.prog 13 #[.string s] w fun e w' => e = .returned (.tuple #[.string (chkS s), .int .i64 (chkW s), .int .i64 (chkE s)]) ∧ Below w.heap.size w w' :=
  calls_flat okRCk hG (fun k hk => hold.block k hk) hold.size (args := [.string s]) rfl (v := .tuple ⟨[.string (chkS s), .int .i64 (chkW s), .int .i64 (chkE s)]⟩) rfl ⟨hs, rfl, rfl⟩
theorem bytes_ext13 {a b : ByteArray} (h : a.data.toList = b.data.toList) : a = b := ByteArray.ext (Array.toList_inj.1 h)
theorem one_at {s : ByteArray} {i : Nat} (hi : i < s.size) : s.extract i (i + 1) = ⟨#[s[i]]⟩ := by
  apply bytes_ext13
  rw [ByteArray.data_extract, Array.toList_extract, List.extract_eq_take_drop, show i + 1 - i = 1 by omega]
  have hl : i < s.data.toList.length := by rw [size_list]; exact hi
  rw [List.drop_eq_getElem_cons hl]
  rfl
end Go.Am.Clt
