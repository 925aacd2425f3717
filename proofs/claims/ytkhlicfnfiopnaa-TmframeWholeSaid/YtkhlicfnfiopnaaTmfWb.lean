/-
  Tmframe: TmframeWhole: the packets are found again in the stream, and where the first one of a field begins. Own work; plain mathematics.
-/
import Derived.Test.YtkhlicfnfiopnaaTmfWa
namespace Go.Am.Tmf
open Go Go.Am Go.Am.Lib Go.Proofs
set_option maxRecDepth 100000

theorem cat_split {T : List L8} {j : Nat} {p : L8} (h : T[j]? = some p) : cat T = cat (T.take j) ++ (p ++ cat (T.drop (j + 1))) := by
  have hj : j < T.length := (List.getElem?_eq_some_iff.1 h).1
  have e : T = T.take j ++ (p :: T.drop (j + 1)) := by
    have := (List.getElem?_eq_some_iff.1 h).2
    rw [← this, List.getElem_cons_drop, List.take_append_drop]
  conv => lhs; rw [e]
  unfold cat
  rw [List.flatten_append, List.flatten_cons]
theorem parse_at {n : Nat} {x : FS} {A : L8} {T : List L8} {fs : List Nat} (h : Str0 n x A T fs) {j : Nat} (hlt : lenS (T.take j) < A.length) :
    ∃ p, T[j]? = some p ∧ Itm p ∧ A.drop (lenS (T.take j)) = (p ++ cat (T.drop (j + 1))).take (A.length - lenS (T.take j)) := by
  have hj : j < T.length := by
    apply Nat.lt_of_not_le
    intro hge
    rw [List.take_of_length_le hge, lenS_eq h] at hlt
    omega
  refine ⟨T[j], List.getElem?_eq_getElem hj, h.itm _ (List.getElem_mem _), ?_⟩
  have e1 := cat_split (List.getElem?_eq_getElem hj)
  have e2 : A = (cat T).take A.length := by rw [← h.flat, List.take_left]
  have e3 : (cat T).drop (lenS (T.take j)) = T[j] ++ cat (T.drop (j + 1)) := by
    rw [e1]; unfold lenS; rw [List.drop_left]
  conv => lhs; rw [e2]
  rw [List.drop_take, e3]
theorem lenS_succ {T : List L8} {j : Nat} {p : L8} (h : T[j]? = some p) : lenS (T.take (j + 1)) = lenS (T.take j) + p.length := by
  have hj : j < T.length := (List.getElem?_eq_some_iff.1 h).1
  rw [List.take_add_one, h]
  unfold lenS cat
  rw [List.flatten_append, List.length_append]; simp
theorem take_succ_some {T : List L8} {j : Nat} {p : L8} (h : T[j]? = some p) : T.take (j + 1) = T.take j ++ [p] := by rw [List.take_add_one, h]; rfl
/-- A whole packet follows. -/
theorem parse_whole {A : L8} {T : List L8} {j : Nat} {p : L8} (hA : A.drop (lenS (T.take j)) = (p ++ cat (T.drop (j + 1))).take (A.length - lenS (T.take j))) (hle : lenS (T.take j) + p.length ≤ A.length) :
    ∃ r, A.drop (lenS (T.take j)) = p ++ r ∧ (A.drop (lenS (T.take j))).take p.length = p := by
  have e : A.drop (lenS (T.take j)) = p ++ (cat (T.drop (j + 1))).take (A.length - lenS (T.take j) - p.length) := by
    rw [hA, List.take_append, List.take_of_length_le (by omega)]
  exact ⟨_, e, by rw [e, List.take_left]⟩
theorem short_nil {T : List L8} (hi : ∀ p ∈ T, Itm p) (h : lenS T ≤ 6) : T = [] := by
  cases T with
  | nil => rfl
  | cons p r =>
    exfalso
    have h1 := (itm_len (hi p List.mem_cons_self)).1
    unfold lenS cat at h
    rw [List.flatten_cons, List.length_append] at h
    omega
/-- The last, idle one was cut. -/
theorem parse_part {n : Nat} {x : FS} {A : L8} {T want : List L8} {fs : List Nat} (h : Str n x A T want fs) (hw : x.wait = 0) {j : Nat} {p : L8} (hp : T[j]? = some p) (hgt : A.length < lenS (T.take j) + p.length) :
    T.take (j + 1) = T ∧ real p = false := by
  have hl := lenS_eq h.toStr0
  have hq : x.q.length = x.idle := by have := h.qi; unfold FS.wait at hw; omega
  have h6 := h.idle
  have hs := lenS_succ hp
  have hsp : lenS T = lenS (T.take (j + 1)) + lenS (T.drop (j + 1)) := by
    conv => lhs; rw [← List.take_append_drop (j + 1) T]
    unfold lenS cat
    rw [List.flatten_append, List.length_append]
  have hd : T.drop (j + 1) = [] := short_nil (fun q hq => h.itm q (List.mem_of_mem_drop hq)) (by omega)
  have ht : T.take (j + 1) = T := by
    have := List.take_append_drop (j + 1) T
    rw [hd, List.append_nil] at this
    exact this
  refine ⟨ht, ?_⟩
  rcases h.last with h0 | ⟨T0, m, T2, e1, e2, m0, m1⟩
  · exfalso
    rw [hd] at hsp
    have : lenS ([] : List L8) = 0 := rfl
    omega
  · have e3 : x.q.take x.idle = x.q := List.take_of_length_le (by omega)
    rw [e3, h.flat, e1] at e2
    have e4 : T2 = [] := by
      refine short_nil (fun q hq => h.itm q (by rw [e1]; exact List.mem_append_right _ (List.mem_cons_of_mem _ hq))) ?_
      have := congrArg List.length e2
      unfold cat at this
      rw [List.flatten_append, List.flatten_append, List.flatten_cons, List.flatten_cons, List.length_append, List.length_append, List.length_append, List.length_append] at this
      unfold lenS cat
      simp at this
      rw [List.length_flatten, this]; exact Nat.zero_le _
    rw [e4] at e1
    have hj : j + 1 = T.length := by
      have h1 := congrArg List.length ht
      rw [List.length_take] at h1
      have h2 := (List.getElem?_eq_some_iff.1 hp).1
      omega
    have : p = idleL m := by
      have h2 : T[T0.length]? = some (idleL m) := by rw [e1, List.getElem?_append_right (Nat.le_refl _), Nat.sub_self]; rfl
      have h3 : j = T0.length := by
        rw [e1, List.length_append] at hj; simp at hj; exact hj
      rw [← h3, hp] at h2
      injection h2
    rw [this]; exact real_idle m0 m1
/-- Nothing is left. -/
theorem parse_done {n : Nat} {x : FS} {A : L8} {T want : List L8} {fs : List Nat} (h : Str n x A T want fs) (hw : x.wait = 0) {j : Nat} (hge : A.length ≤ lenS (T.take j)) : T.take j = T := by
  have hl := lenS_eq h.toStr0
  have hq : x.q.length = x.idle := by have := h.qi; unfold FS.wait at hw; omega
  have h6 := h.idle
  have hsp : lenS T = lenS (T.take j) + lenS (T.drop j) := by
    conv => lhs; rw [← List.take_append_drop j T]
    unfold lenS cat
    rw [List.flatten_append, List.length_append]
  have hd : T.drop j = [] := short_nil (fun q hq => h.itm q (List.mem_of_mem_drop hq)) (by omega)
  have := List.take_append_drop j T
  rw [hd, List.append_nil] at this
  exact this
theorem st_take {T : List L8} {j : Nat} {p : L8} (h : T[j]? = some p) : stOf 0 false (T.take (j + 1)) = stOf 0 false (T.take j) ++ [lenS (T.take j)] := by
  rw [take_succ_some h, stOf_snoc _ _ _ _ (fun _ => rfl), Nat.zero_add]
theorem filter_succ {T : List L8} {j : Nat} {p : L8} (h : T[j]? = some p) : (T.take (j + 1)).filter real = (T.take j).filter real ++ (if real p = true then [p] else []) := by
  rw [take_succ_some h, List.filter_append, List.filter_cons, List.filter_nil]

/-! ### where the first packet of a field begins -/
def pickF (a n : Nat) : List Nat → Nat
  | [] => 2047
  | s :: l => if a ≤ s ∧ s < a + n then s - a else pickF a n l
theorem pickF_far {a n : Nat} : ∀ {l : List Nat}, (∀ s ∈ l, a + n ≤ s) → pickF a n l = 2047
  | [], _ => rfl
  | s :: l, h => by
    have h1 := h s List.mem_cons_self
    rw [pickF, if_neg (by omega)]
    exact pickF_far fun t ht => h t (List.mem_cons_of_mem _ ht)
theorem pickF_eq (a n : Nat) : ∀ {l : List Nat}, l.Pairwise (· ≤ ·) → pickF a n l = firstOf n (cutS a l)
  | [], _ => rfl
  | s :: l, h => by
    obtain ⟨h1, h2⟩ := List.pairwise_cons.1 h
    rw [pickF]
    by_cases ha : a ≤ s
    · have e1 : cutS a (s :: l) = (s - a) :: cutS a l := by unfold cutS; rw [List.filter_cons, decide_eq_true ha, if_pos rfl, List.map_cons]
      rw [e1, firstOf_cons]
      by_cases hb : s < a + n
      · rw [if_pos ⟨ha, hb⟩, if_pos (by omega)]
      · rw [if_neg (fun hh => hb hh.2), if_neg (by omega)]
        exact pickF_far fun t ht => by have := h1 t ht; omega
    · rw [if_neg (fun hh => ha hh.1), cutS_drop (by omega)]
      exact pickF_eq a n h2
theorem stOf_rise : ∀ (L : List L8) (b : Nat), (stOf b false L).Pairwise (· ≤ ·)
  | [], _ => List.Pairwise.nil
  | p :: r, b => by
    rw [stOf]
    exact List.pairwise_cons.2 ⟨fun a ha => by have := stOf_ge r _ _ a ha; omega, stOf_rise r _⟩
theorem pick_st (a n : Nat) (T : List L8) : pickF a n (stOf 0 false T) = firstOf n (cutS a (stOf 0 false T)) := pickF_eq a n (stOf_rise T 0)
theorem pickF_drop {a n k : Nat} {l : List Nat} {s : Nat} (h : l[k]? = some s) : pickF a n (l.drop k) = if a ≤ s ∧ s < a + n then s - a else pickF a n (l.drop (k + 1)) := by
  obtain ⟨hk, e⟩ := List.getElem?_eq_some_iff.1 h
  rw [List.drop_eq_getElem_cons hk, e, pickF]
end Go.Am.Tmf
