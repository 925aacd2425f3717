/-
  Joiner: the reference's joiner as plain data, and the program's beside it. Own work; plain mathematics.
-/
import Derived.Test.YtbpfhjmiaaaoiaaJoiN
namespace Go.Am.Joi
open Go Go.Am
/-- What the reference's joiner knows of an APID. -/
structure Rn where
  ap : Nat
  next : Nat
  opn : Bool
  txt : ByteArray
def RelK (x : Rn) (k : Kn) : Prop := k.next = x.next ∧ k.opn = x.opn ∧ (x.opn = true → k.text = x.txt.data.toList)
/-- Both know the same. -/
structure Rel (J : Js) (L : List Rn) : Prop where
  nd : (L.map Rn.ap).Nodup
  mem : ∀ (i : Nat) (x : Rn), L[i]? = some x → ∃ k, J x.ap = some k ∧ RelK x k
  all : ∀ a k, J a = some k → a ∈ L.map Rn.ap
variable {J : Js} {L : List Rn}
theorem Rel.zero : Rel js0 [] := ⟨List.nodup_nil, fun i x h => by simp at h, fun a k h => by cases h⟩
theorem nodup_get {A : List Nat} (h : A.Nodup) {i j : Nat} {x : Nat} (hi : A[i]? = some x) (hj : A[j]? = some x) : i = j := by
  have h1 := List.pairwise_iff_getElem.1 h
  obtain ⟨a1, a2⟩ := List.getElem?_eq_some_iff.1 hi
  obtain ⟨b1, b2⟩ := List.getElem?_eq_some_iff.1 hj
  rcases Nat.lt_trichotomy i j with e | e | e
  · exact absurd (a2.trans b2.symm) (h1 i j a1 b1 e)
  · exact e
  · exact absurd (b2.trans a2.symm) (h1 j i b1 a1 e)
theorem map_set_same {i : Nat} {x x' : Rn} (hi : L[i]? = some x) (h : x'.ap = x.ap) : (L.set i x').map Rn.ap = L.map Rn.ap := by
  rw [List.map_set, h]
  apply List.ext_getElem?
  intro j
  rw [List.getElem?_set]
  split
  · rename_i e
    subst e
    obtain ⟨h1, h2⟩ := List.getElem?_eq_some_iff.1 hi
    rw [List.getElem?_map, hi, if_pos (by rw [List.length_map]; exact h1)]; rfl
  · rfl
/-- A known APID's entry turns. -/
theorem Rel.set (h : Rel J L) {i : Nat} {x x' : Rn} {k' : Kn} (hi : L[i]? = some x) (ha : x'.ap = x.ap) (hr : RelK x' k') : Rel (J.set x.ap k') (L.set i x') := by
  refine ⟨by rw [map_set_same hi ha]; exact h.nd, fun j y hj => ?_, fun a k hk => ?_⟩
  · rw [List.getElem?_set] at hj
    split at hj
    · split at hj
      · injection hj with hj
        subst hj
        exact ⟨k', by rw [ha]; exact Js.set_same _ _ _, hr⟩
      · cases hj
    · rename_i hne
      have hya : y.ap ≠ x.ap := fun e => hne (nodup_get h.nd (x := x.ap) (i := i) (j := j) (by rw [List.getElem?_map, hi]; rfl) (by rw [List.getElem?_map, hj, ← e]; rfl))
      obtain ⟨k, h1, h2⟩ := h.mem j y hj
      exact ⟨k, by rw [Js.set_other _ _ hya]; exact h1, h2⟩
  · rw [map_set_same hi ha]
    by_cases e : a = x.ap
    · rw [e]; exact List.mem_map.2 ⟨x, List.mem_iff_getElem?.2 ⟨i, hi⟩, rfl⟩
    · rw [Js.set_other _ _ e] at hk
      exact h.all a k hk
/-- An APID that is new. -/
theorem Rel.push (h : Rel J L) {a : Nat} {x' : Rn} {k' : Kn} (hn : J a = none) (ha : x'.ap = a) (hr : RelK x' k') : Rel (J.set a k') (L ++ [x']) := by
  have hnot : a ∉ L.map Rn.ap := fun hm => by
    obtain ⟨y, hy, e⟩ := List.mem_map.1 hm
    obtain ⟨j, hj⟩ := List.mem_iff_getElem?.1 hy
    obtain ⟨k, h1, _⟩ := h.mem j y hj
    rw [e, hn] at h1; cases h1
  refine ⟨?_, fun j y hj => ?_, fun b k hk => ?_⟩
  · rw [List.map_append, List.nodup_append]
    refine ⟨h.nd, by simp, fun b hb c hc => ?_⟩
    simp only [List.map_cons, List.map_nil, List.mem_singleton] at hc
    rw [hc, ha]
    exact fun e => hnot (e ▸ hb)
  · rw [List.getElem?_append] at hj
    split at hj
    · obtain ⟨k, h1, h2⟩ := h.mem j y hj
      have hya : y.ap ≠ a := fun e => hnot (e ▸ List.mem_map.2 ⟨y, List.mem_iff_getElem?.2 ⟨j, hj⟩, rfl⟩)
      exact ⟨k, by rw [Js.set_other _ _ hya]; exact h1, h2⟩
    · have : y = x' := by
        cases hjl : j - L.length with
        | zero => rw [hjl] at hj; injection hj with hj; exact hj.symm
        | succ m => rw [hjl] at hj; simp at hj
      subst this
      exact ⟨k', by rw [ha]; exact Js.set_same _ _ _, hr⟩
  · rw [List.map_append, List.mem_append]
    by_cases e : b = a
    · right; rw [e, ← ha]; simp
    · rw [Js.set_other _ _ e] at hk
      exact .inl (h.all b k hk)
/-- The messages that have begun. -/
def openN (L : List Rn) : Nat := (L.filter Rn.opn).length
theorem nodup_le : ∀ {A B : List Nat}, A.Nodup → (∀ a, a ∈ A → a ∈ B) → A.length ≤ B.length
  | [], _, _, _ => Nat.zero_le _
  | a :: A, B, h, hs => by
    have h1 := List.nodup_cons.1 h
    have hb := hs a (List.mem_cons_self ..)
    have h2 : A.length ≤ (B.erase a).length := nodup_le h1.2 fun x hx => (List.mem_erase_of_ne (fun e => h1.1 (by rw [← e]; exact hx))).2 (hs x (List.mem_cons_of_mem _ hx))
    have h3 := List.length_erase_of_mem hb
    have h4 : 0 < B.length := List.length_pos_of_mem hb
    show A.length + 1 ≤ _
    omega
theorem nodup_len {A B : List Nat} (hA : A.Nodup) (hB : B.Nodup) (h : ∀ a, a ∈ A ↔ a ∈ B) : A.length = B.length :=
  Nat.le_antisymm (nodup_le hA fun a => (h a).1) (nodup_le hB fun a => (h a).2)
/-- However the entries are counted. -/
theorem Rel.count (h : Rel J L) {ks : List Nat} (hk : ks.Nodup) (hm : ∀ a, a ∈ ks ↔ ∃ k, J a = some k) : (ks.filter fun a => opnK (J a)).length = openN L := by
  have e : (L.filter Rn.opn).map Rn.ap = (L.map Rn.ap).filter fun a => opnK (J a) := by
    rw [List.filter_map]
    congr 1
    refine List.filter_congr fun x hx => ?_
    obtain ⟨j, hj⟩ := List.mem_iff_getElem?.1 hx
    obtain ⟨k, h1, _, h2, _⟩ := h.mem j x hj
    show x.opn = opnK (J x.ap)
    rw [h1]; exact h2.symm
  unfold openN
  have e2 : (L.filter Rn.opn).length = ((L.filter Rn.opn).map Rn.ap).length := (List.length_map _).symm
  rw [e2, e]
  refine nodup_len (hk.filter _) (h.nd.filter _) fun a => ?_
  rw [List.mem_filter, List.mem_filter, hm]
  refine and_congr_left fun _ => ⟨fun ⟨k, hk⟩ => h.all a k hk, fun hx => ?_⟩
  obtain ⟨x, h1, h2⟩ := List.mem_map.1 hx
  obtain ⟨j, hj⟩ := List.mem_iff_getElem?.1 h1
  obtain ⟨k, h3, _⟩ := h.mem j x hj
  exact ⟨k, by rw [← h2]; exact h3⟩
theorem openN_le (L : List Rn) : openN L ≤ L.length := List.length_filter_le _ _
end Go.Am.Joi
