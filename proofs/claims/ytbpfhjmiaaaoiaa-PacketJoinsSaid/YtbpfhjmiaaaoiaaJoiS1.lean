/-
  Joiner: the reference's joiner in memory; how many messages have begun, both ways. Own work.
-/
import Derived.Test.YtbpfhjmiaaaoiaaJoiS
namespace Go.Am.Joi
open Go Go.Am Go.Am.Lib Go.Lib Go.Proofs Go.RowKit
open Go.Am.Own
set_option maxRecDepth 100000

def rnC (x : Rn) : List Value := [.int .i64 ((x.ap : Nat) : Int), .int .i64 ((x.next : Nat) : Int), .bool x.opn, .string x.txt]
def flR (L : List Rn) : List Value := L.flatMap rnC
theorem flR_cons (x : Rn) (L : List Rn) : flR (x :: L) = rnC x ++ flR L := rfl
theorem flR_len : ∀ L : List Rn, (flR L).length = L.length * 4
  | [] => rfl
  | x :: L => by rw [flR_cons, List.length_append, flR_len L, List.length_cons]; show 4 + _ = _; omega
theorem flR_app (L : List Rn) (x : Rn) : flR (L ++ [x]) = flR L ++ rnC x := by
  unfold flR
  rw [List.flatMap_append]; simp
theorem flR_get : ∀ {L : List Rn} {i : Nat} {x : Rn} {q : Nat}, L[i]? = some x → q < 4 → (flR L)[i * 4 + q]? = (rnC x)[q]?
  | [], i, x, q, h, _ => by simp at h
  | y :: L, 0, x, q, h, hq => by
    injection h with h
    subst h
    rw [flR_cons, List.getElem?_append_left (by show 0 * 4 + q < 4; omega), Nat.zero_mul, Nat.zero_add]
  | y :: L, i + 1, x, q, h, hq => by
    rw [flR_cons, List.getElem?_append_right (by show 4 ≤ _; omega), ← flR_get (L := L) (i := i) h hq]
    congr 1
    show (i + 1) * 4 + q - 4 = _
    omega
theorem flR_set {L : List Rn} {i : Nat} {x x' : Rn} (h : L[i]? = some x) (ha : x'.ap = x.ap) :
    (((flR L).set (i * 4 + 1) (.int .i64 ((x'.next : Nat) : Int))).set (i * 4 + 2) (.bool x'.opn)).set (i * 4 + 3) (.string x'.txt) = flR (L.set i x') := by
  have hi := (List.getElem?_eq_some_iff.1 h).1
  have hfl := flR_len L
  apply List.ext_getElem?
  intro j
  simp only [List.getElem?_set, List.length_set]
  rcases Nat.lt_or_ge j (L.length * 4) with hj | hj
  · obtain ⟨q, r, hr, rfl⟩ : ∃ q r, r < 4 ∧ j = q * 4 + r := ⟨j / 4, j % 4, by omega, by omega⟩
    have hq : q < L.length := by omega
    by_cases e : i = q
    · subst e
      have h' : (L.set i x')[i]? = some x' := by rw [List.getElem?_set, if_pos rfl, if_pos hi]
      rw [flR_get h' hr]
      match r, hr with
      | 0, _ => rw [if_neg (by omega), if_neg (by omega), if_neg (by omega), flR_get h (by omega)]; show some _ = some _; rw [ha]
      | 1, _ => rw [if_neg (by omega), if_neg (by omega), if_pos rfl, if_pos (by omega)]; rfl
      | 2, _ => rw [if_neg (by omega), if_pos rfl, if_pos (by omega)]; rfl
      | 3, _ => rw [if_pos rfl, if_pos (by omega)]; rfl
    · obtain ⟨y, hy⟩ : ∃ y, L[q]? = some y := ⟨_, List.getElem?_eq_getElem hq⟩
      have hy' : (L.set i x')[q]? = some y := by rw [List.getElem?_set, if_neg e]; exact hy
      rw [flR_get hy' hr, if_neg (by omega), if_neg (by omega), if_neg (by omega), flR_get hy hr]
  · have e1 : (flR (L.set i x'))[j]? = none := List.getElem?_eq_none (by rw [flR_len, List.length_set]; exact hj)
    rw [e1, if_neg (by omega), if_neg (by omega), if_neg (by omega), List.getElem?_eq_none (by omega)]
/-- The reference's joiner; S: what may change. -/
structure RC (S : Nat → Prop) (b : Nat) (v : Value) (L : List Rn) (w : World) : Prop where
  hS : ∀ k, w.heap.size ≤ k → S k
  cell : w.heap[b]? = some (.cells #[v] 35 (0, 0))
  hb : S b
  row : w.ownsRow 0 74 4 v L.length (flR L)
  rs : ∀ g, v.ownBlock = some g → S g
  bd : ∀ (i : Nat) (x : Rn), L[i]? = some x → x.ap < 2047 ∧ x.next < 16384 ∧ (x.opn = true → x.txt.size ≤ 16384)
def RAt (S : Nat → Prop) (b : Nat) (L : List Rn) (w : World) : Prop := ∃ v, RC S b v L w
variable {S : Nat → Prop} {b N : Nat} {v : Value} {J : Js} {L : List Rn} {w w' : World}
theorem RC.lt (h : RC S b v L w) : b < w.heap.size := (Array.getElem?_eq_some_iff.1 h.cell).1
theorem RC.below (h : RC S b v L w) (hb : Below w.heap.size w w') : RC S b v L w' :=
  ⟨fun k hk => h.hS k (Nat.le_trans hb.size hk), (hb.block b h.lt).trans h.cell, h.hb, ownsRow_keep h.row fun k hk => hb.block k (h.row.lt k hk).2, h.rs, h.bd⟩
theorem RAt.below (h : RAt S b L w) (hb : Below w.heap.size w w') : RAt S b L w' := by
  obtain ⟨v, h⟩ := h
  exact ⟨v, h.below hb⟩
theorem openN_succ {i : Nat} {x : Rn} (h : L[i]? = some x) : openN (L.take (i + 1)) = openN (L.take i) + (if x.opn = true then 1 else 0) := by
  unfold openN
  rw [List.take_add_one, h, List.filter_append, List.length_append]
  congr 1
  show (List.filter Rn.opn [x]).length = _
  cases hx : x.opn <;> simp [List.filter, hx]
set_option maxHeartbeats 1600000 in
theorem ropen_calls (h : RAt S b L w) (hn : L.length < 2 ^ 40) : Calls Try.prog 19 #[.pointer (some ⟨b, 0, none⟩)] w fun e w' => e = .returned (.int .i64 ((openN L : Nat) : Int)) ∧ Below w.heap.size w w' := by
  obtain ⟨v, h⟩ := h
  obtain ⟨ao, cap, rfl⟩ := ownsRow_slice h.row
  have hc : w.cell? ⟨b, 0, none⟩ = some (.slice ao L.length cap) := cell_of h.cell
  obtain ⟨n, hnn⟩ : ∃ n, L.length = n := ⟨_, rfl⟩
  obtain ⟨O, hO⟩ : ∃ O : Nat → Nat, (fun i => openN (L.take i)) = O := ⟨_, rfl⟩
  have hOi : ∀ i, openN (L.take i) = O i := fun i => congrFun hO i
  have hOn : openN L = O n := by rw [← hOi, ← hnn, List.take_length]
  have hO0 : O 0 = 0 := by rw [← hOi]; rfl
  have hOb : ∀ i, O i ≤ i := fun i => by rw [← hOi]; exact Nat.le_trans (openN_le _) (by rw [List.length_take]; omega)
  have HO := Lib.hid (fun i (x : Rn) (hx : L[i]? = some x) => openN_succ hx)
  have HR := Lib.hid h.row
  rw [hOn]
  rw [hnn] at hc hn
  clear h
  go_enter Try.func19, Try.ntmps19
  go_wp2
  go_loopw [3, 4] (fun cv iv wr => ∃ (i : Nat), cv = .int .i64 ((O i : Nat) : Int) ∧ iv = .int .i64 (i : Nat) ∧ i ≤ n ∧ wr = w)
    (fun _ iv _ => n - iOf iv)
  case atStart => exact ⟨0, by rw [hO0]; rfl, rfl, Nat.zero_le _, rfl⟩
  case round =>
    obtain ⟨i, rfl, rfl, hi, rfl⟩ := hrel
    rcases Nat.lt_or_ge i n with hlt | hge
    · have hlt' : ((i : Nat) : Int) < ((n : Nat) : Int) := by omega
      obtain ⟨x, hx⟩ : ∃ x, L[i]? = some x := ⟨_, List.getElem?_eq_getElem (by omega)⟩
      have hs := HO.out i x hx
      rw [hOi, hOi] at hs
      obtain ⟨_, g, rfl⟩ := ownsRow_base HR.out (by omega)
      have h2 : wr.cell? ⟨g, i * 4 + 2, none⟩ = some (.bool x.opn) := by
        rw [HR.out.cellAt (i * 4 + 2) (by omega), flR_get hx (by decide)]; rfl
      have hb := hOb i
      obtain ⟨o1, ho1⟩ : ∃ k, O i = k := ⟨_, rfl⟩
      obtain ⟨o2, ho2⟩ : ∃ k, O (i + 1) = k := ⟨_, rfl⟩
      rw [ho1] at hs hb
      rw [ho1]
      rw [ho2] at hs
      have hm : n - (i + 1) < n - i := by omega
      cases hxo : x.opn with
      | true =>
        rw [hxo] at h2 hs
        have hs : o2 = o1 + 1 := hs
        clear hO hOi hOb
        go_wp2
        exact ⟨⟨i + 1, by rw [ho2, hs]; push_cast; rfl, by push_cast; rfl, hlt, trivial⟩, hm⟩
      | false =>
        rw [hxo] at h2 hs
        have hs : o2 = o1 := hs
        clear hO hOi hOb
        go_wp2
        exact ⟨⟨i + 1, by rw [ho2, hs], by push_cast; rfl, hlt, trivial⟩, hm⟩
    · have hge' : ¬ ((i : Nat) : Int) < ((n : Nat) : Int) := by omega
      have he : i = n := by omega
      subst he
      clear hO hOi hOb
      go_wp2
      go_ret
      exact ⟨rfl, Below.refl _ _⟩
end Go.Am.Joi
