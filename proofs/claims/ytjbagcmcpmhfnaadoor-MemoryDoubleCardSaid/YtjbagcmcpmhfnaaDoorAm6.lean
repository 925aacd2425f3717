/-
  The abstract machine, part 6: what the model's loads and stores do to a world, in lists. Own work; plain lemmas.
-/
import Derived.Test.YtjbagcmcpmhfnaaDoorAm5
namespace Go.Am
open Go

theorem bind_run {α β : Type} (P : Program) (s : Sem α) (f : α → Sem β) : ∀ w, (s.bind f).run P w = match s.run P w with | .ok a w' => (f a).run P w' | .halt x w' => .halt x w' := by
  induction s with
  | pure a => intro w; rfl
  | load m a k ih =>
    intro w
    simp only [Sem.bind, Sem.run]
    split
    · exact ih _ w
    · split
      · exact ih _ w
      · rfl
  | store m a v k ih =>
    intro w
    cases v <;> simp only [Sem.bind, Sem.run] <;> (try rfl) <;> (split <;> (try (split <;> (try rfl)))) <;> first | exact ih _ | rfl
  | new o k ih => intro w; exact ih _ _
  | shape r k ih => intro w; exact ih _ _
  | freeze a n k ih => intro w; exact ih _
  | frozen a k ih => intro w; exact ih _ _
  | getObj r k ih =>
    intro w
    simp only [Sem.bind, Sem.run]
    split
    · rfl
    · exact ih _ _
    · rfl
  | setObj r o k ih =>
    intro w
    simp only [Sem.bind, Sem.run]
    split
    · rfl
    · exact ih _
    · rfl
  | choose q k ih =>
    intro w
    simp only [Sem.bind, Sem.run]
    split
    · exact ih _ _
    · exact ih _ _
  | sys c k ih => intro w; exact ih _ _
  | program k ih => intro w; exact ih _ _
  | mark m k ih => intro w; exact ih _
  | halt x => intro w; rfl

theorem run_bind {α β : Type} (P : Program) (s : Sem α) (f : α → Sem β) (w : World) : (s >>= f).run P w = match s.run P w with | .ok a w' => (f a).run P w' | .halt x w' => .halt x w' := bind_run P s f w
theorem run_pure {α : Type} (P : Program) (a : α) (w : World) : (pure a : Sem α).run P w = .ok a w := rfl

theorem run_program (P : Program) (w : World) : program.run P w = .ok P w := rfl
theorem run_typeInfo {P : Program} {t : TypeId} {i : TypeInfo} (h : P.info? t = some i) (w : World) : (typeInfo t).run P w = .ok i w := by
  simp only [typeInfo, run_bind, run_program, h, run_pure]
theorem run_underlying {P : Program} {t : TypeId} {d : TypeDesc} (h : P.underlying t = some d) (w : World) : (underlying t).run P w = .ok d w := by
  simp only [underlying, run_bind, run_program, h, run_pure]
theorem run_sizeOf {P : Program} {t : TypeId} {i : TypeInfo} (h : P.info? t = some i) (w : World) : (sizeOf t).run P w = .ok i.size w := by
  simp only [sizeOf, run_bind, run_typeInfo h, run_pure]
theorem run_zeroValue {P : Program} {t : TypeId} {i : TypeInfo} {z : Value} (h : P.info? t = some i) (hz : i.zero = some z) (w : World) : (zeroValue t).run P w = .ok z w := by
  simp only [zeroValue, run_bind, run_typeInfo h, hz, run_pure]

theorem run_isAgg {P : Program} {t : TypeId} {b : Bool} (h : aggO P t = some b) (w : World) : (isAgg t).run P w = .ok b w := by
  unfold aggO at h
  split at h <;> cases h
  · rename_i hu; simp only [isAgg, run_bind, run_underlying hu, run_pure]
  · rename_i hu; simp only [isAgg, run_bind, run_underlying hu, run_pure]
  · rename_i d h1 h2 hu
    simp only [isAgg, run_bind, run_underlying hu]
    cases d <;> first | rfl | exact absurd hu (h1 _) | exact absurd hu (h2 _ _)

/-- A row of cells, and a place in it. -/
def Row (w : World) (b : Nat) (cs : Array Value) : Prop := ∃ t fr, w.heap[b]? = some (.cells cs t fr)

theorem run_load {P : Program} {w : World} {b : Nat} {cs : Array Value} (h : Row w b cs) {off : Nat} {v : Value} (hv : cs.toList[off]? = some v) :
    (load ⟨b, off, none⟩).run P w = .ok v w := by
  obtain ⟨t, fr, h⟩ := h
  have : w.cell? ⟨b, off, none⟩ = some v := by simp only [World.cell?, h]; simpa using hv
  simp only [load, Sem.run, this]

theorem add_none (b off n : Nat) : (⟨b, off, none⟩ : Addr).add n = ⟨b, off + n, none⟩ := by
  unfold Addr.add; split
  · rename_i h; subst h; rfl
  · rfl

theorem run_loadCellsFrom {P : Program} {w : World} {b : Nat} {cs : Array Value} (h : Row w b cs) (off : Nat) : ∀ (n i : Nat) (acc : Array Value), off + i + n ≤ cs.size →
    ∃ r : Array Value, (loadCellsFrom ⟨b, off, none⟩ i n acc).run P w = .ok r w ∧ r.toList = acc.toList ++ (cs.toList.drop (off + i)).take n := by
  intro n
  induction n with
  | zero => intro i acc _; exact ⟨acc, rfl, by simp⟩
  | succ n ih =>
    intro i acc hle
    obtain ⟨v, hv⟩ : ∃ v, cs.toList[off + i]? = some v := ⟨_, List.getElem?_eq_getElem (by simp; omega)⟩
    obtain ⟨r, h1, h2⟩ := ih (i + 1) (acc.push v) (by omega)
    refine ⟨r, ?_, ?_⟩
    · rw [loadCellsFrom, run_bind, add_none, run_load h hv]; exact h1
    · rw [h2, Array.toList_push, List.append_assoc]
      congr 1
      have : cs.toList.drop (off + i) = v :: cs.toList.drop (off + (i + 1)) := by
        rw [List.drop_eq_getElem_cons (by simp; omega)]
        congr 1
        rw [List.getElem?_eq_getElem (by simp; omega)] at hv
        exact Option.some.inj hv
      rw [this, List.take_succ_cons]
      rfl
theorem run_loadCells {P : Program} {w : World} {b : Nat} {cs : Array Value} (h : Row w b cs) {off n : Nat} (hle : off + n ≤ cs.size) :
    (loadCells ⟨b, off, none⟩ n).run P w = .ok ⟨(cs.toList.drop off).take n⟩ w := by
  obtain ⟨r, h1, h2⟩ := run_loadCellsFrom (P := P) h off n 0 #[] (by omega)
  rw [loadCells, h1]
  congr 1
  cases r
  simpa using h2

theorem run_loadVar {P : Program} {w : World} {b : Nat} {cs : Array Value} (h : Row w b cs) {off : Nat} {t : TypeId} {i : TypeInfo} {ag : Bool} (hi : P.info? t = some i) (ha : aggO P t = some ag)
    (hle : off + i.size ≤ cs.size) (h1 : ag = false → i.size = 1) :
    ∃ v, (loadVar t ⟨b, off, none⟩).run P w = .ok v w ∧ (ag = true → v = .agg ⟨(cs.toList.drop off).take i.size⟩) ∧ (ag = false → [v] = (cs.toList.drop off).take i.size) := by
  cases ag with
  | true => exact ⟨_, by simp only [loadVar, run_bind, run_isAgg ha, if_true, run_sizeOf hi, run_loadCells h hle, run_pure], fun _ => rfl, fun h => by cases h⟩
  | false =>
    have hs := h1 rfl
    obtain ⟨v, hv⟩ : ∃ v, cs.toList[off]? = some v := ⟨_, List.getElem?_eq_getElem (by simp; omega)⟩
    refine ⟨v, ?_, (fun h => by cases h), fun _ => ?_⟩
    · simp only [loadVar, run_bind, run_isAgg ha, Bool.false_eq_true, if_false]; exact run_load h hv
    · rw [hs, List.drop_eq_getElem_cons (by simp; omega)]
      rw [List.getElem?_eq_getElem (by simp; omega)] at hv
      simp only [List.take_succ_cons, List.take_zero]
      rw [Option.some.inj hv]

/-- A value of one cell, as the model's store asks. -/
theorem run_store {P : Program} {w : World} {b : Nat} {cs : Array Value} {t : TypeId} {fr : Nat × Nat} (h : w.heap[b]? = some (.cells cs t fr)) {off : Nat} (ho : off < cs.size)
    (hf : ¬ (fr.1 ≤ off ∧ off < fr.2)) {v : Value} (hv : (∀ c, v ≠ .agg c) ∧ (∀ c, v ≠ .tuple c)) :
    (store ⟨b, off, none⟩ v).run P w = .ok () (w.setCell ⟨b, off, none⟩ v) := by
  have hc : w.cell? ⟨b, off, none⟩ = some cs[off] := by simp only [World.cell?, h]; simp [ho]
  have hfz : w.frozen? ⟨b, off, none⟩ = false := by
    simp only [World.frozen?, h]
    rw [Bool.eq_false_iff]; intro e; simp at e; exact hf e
  have key : ∀ k : Sem Unit, Sem.run P (.store .plain ⟨b, off, none⟩ v k) w = k.run P (w.setCell ⟨b, off, none⟩ v) := by
    intro k
    cases v <;> first | exact absurd rfl (hv.1 _) | exact absurd rfl (hv.2 _) | simp only [Sem.run, hc, hfz, Bool.false_eq_true, if_false]
  rw [store, key]; rfl

structure Wrote (w w' : World) (b : Nat) : Prop where
  os : w'.os = w.os
  tape : w'.tape = w.tape
  out : w'.output = w.output
  size : w'.heap.size = w.heap.size
  rest : ∀ n, n ≠ b → w'.heap[n]? = w.heap[n]?

theorem Wrote.refl (w : World) (b : Nat) : Wrote w w b := ⟨rfl, rfl, rfl, rfl, fun _ _ => rfl⟩
theorem Wrote.trans {a b c : World} {n : Nat} (h : Wrote a b n) (k : Wrote b c n) : Wrote a c n :=
  ⟨k.os.trans h.os, k.tape.trans h.tape, k.out.trans h.out, k.size.trans h.size, fun i hi => (k.rest i hi).trans (h.rest i hi)⟩

theorem wrote_setCell (w : World) (b off : Nat) (v : Value) : Wrote w (w.setCell ⟨b, off, none⟩ v) b where
  os := rfl
  tape := rfl
  out := rfl
  size := by simp [World.setCell]
  rest n hn := by simp only [World.setCell, Array.getElem?_modify]; rw [if_neg (fun e => hn e.symm)]
theorem setCell_row {w : World} {b : Nat} {cs : Array Value} {t : TypeId} {fr : Nat × Nat} (h : w.heap[b]? = some (.cells cs t fr)) (off : Nat) (v : Value) :
    (w.setCell ⟨b, off, none⟩ v).heap[b]? = some (.cells (cs.setIfInBounds off v) t fr) := by
  simp [World.setCell, Array.getElem?_modify, h]

theorem setCells_length : ∀ (l vs : List Value) (off : Nat), (setCells vs off l).length = vs.length
  | [], _, _ => rfl
  | x :: r, vs, off => by rw [setCells, setCells_length r]; simp

theorem run_storeCells {P : Program} {b : Nat} {t : TypeId} {fr : Nat × Nat} (off : Nat) : ∀ (l : List Value) (w : World) (cs : Array Value) (i : Nat), w.heap[b]? = some (.cells cs t fr) →
    off + i + l.length ≤ cs.size → (∀ j, j < cs.size → ¬ (fr.1 ≤ j ∧ j < fr.2)) → (∀ v ∈ l, (∀ c, v ≠ .agg c) ∧ (∀ c, v ≠ .tuple c)) →
    ∃ w' cs', (storeCells ⟨b, off, none⟩ l i).run P w = .ok () w' ∧ Wrote w w' b ∧ w'.heap[b]? = some (.cells cs' t fr) ∧ cs'.size = cs.size ∧ cs'.toList = setCells cs.toList (off + i) l := by
  intro l
  induction l with
  | nil => intro w cs i h _ _ _; exact ⟨w, cs, rfl, Wrote.refl _ _, h, rfl, rfl⟩
  | cons x r ih =>
    intro w cs i h hle hf hv
    have hr := run_store (P := P) h (off := off + i) (by simp at hle; omega) (hf _ (by simp at hle; omega)) (hv x (by simp))
    obtain ⟨w', cs', h1, h2, h3, h4, h5⟩ := ih (w.setCell ⟨b, off + i, none⟩ x) (cs.setIfInBounds (off + i) x) (i + 1) (setCell_row h _ _) (by simp at hle ⊢; omega)
      (fun j hj => hf j (by simpa using hj)) (fun v hm => hv v (by simp [hm]))
    refine ⟨w', cs', ?_, (wrote_setCell w b _ x).trans h2, h3, by rw [h4]; simp, ?_⟩
    · rw [storeCells, run_bind, add_none, hr]; exact h1
    · rw [h5, setCells, show off + (i + 1) = off + i + 1 from by omega, Array.toList_setIfInBounds]

/-! ### lists in the relation -/
theorem VRL_length {φ : Phi} : ∀ {l l' : List Value}, VRL φ l l' → l'.length = l.length
  | [], _, h => by simp only [VRL] at h; subst h; rfl
  | v :: vs, _, h => by
    obtain ⟨u, us, rfl, _, h2⟩ := h
    simp [VRL_length h2]
theorem VRL_get {φ : Phi} : ∀ {l l' : List Value} {j : Nat} {v : Value}, VRL φ l l' → l[j]? = some v → ∃ v', l'[j]? = some v' ∧ VR φ v v'
  | [], _, _, _, _, h => by simp at h
  | x :: xs, _, 0, v, h, hv => by
    obtain ⟨u, us, rfl, h1, _⟩ := h
    simp at hv; subst hv
    exact ⟨u, rfl, h1⟩
  | x :: xs, _, j + 1, v, h, hv => by
    obtain ⟨u, us, rfl, _, h2⟩ := h
    simp only [List.getElem?_cons_succ] at hv ⊢
    exact VRL_get h2 hv
theorem VRL_append {φ : Phi} : ∀ {a a' b b' : List Value}, VRL φ a a' → VRL φ b b' → VRL φ (a ++ b) (a' ++ b')
  | [], _, _, _, h, k => by simp only [VRL] at h; subst h; exact k
  | v :: vs, _, _, _, h, k => by
    obtain ⟨u, us, rfl, h1, h2⟩ := h
    exact ⟨u, us ++ _, rfl, h1, VRL_append h2 k⟩
theorem VRL_drop {φ : Phi} : ∀ {l l' : List Value} (n : Nat), VRL φ l l' → VRL φ (l.drop n) (l'.drop n)
  | [], _, n, h => by simp only [VRL] at h; subst h; simp [VRL]
  | v :: vs, _, 0, h => h
  | v :: vs, _, n + 1, h => by
    obtain ⟨u, us, rfl, _, h2⟩ := h
    exact VRL_drop n h2
theorem VRL_take {φ : Phi} : ∀ {l l' : List Value} (n : Nat), VRL φ l l' → VRL φ (l.take n) (l'.take n)
  | [], _, n, h => by simp only [VRL] at h; subst h; simp [VRL]
  | v :: vs, _, 0, h => by simp [VRL]
  | v :: vs, _, n + 1, h => by
    obtain ⟨u, us, rfl, h1, h2⟩ := h
    exact ⟨u, us.take n, rfl, h1, VRL_take n h2⟩
theorem VRL_set {φ : Phi} : ∀ {l l' : List Value} (n : Nat) {v v' : Value}, VRL φ l l' → VR φ v v' → VRL φ (l.set n v) (l'.set n v')
  | [], _, n, _, _, h, _ => by simp only [VRL] at h; subst h; simp [VRL]
  | x :: xs, _, 0, v, v', h, hv => by
    obtain ⟨u, us, rfl, _, h2⟩ := h
    exact ⟨v', us, rfl, hv, h2⟩
  | x :: xs, _, n + 1, v, v', h, hv => by
    obtain ⟨u, us, rfl, h1, h2⟩ := h
    exact ⟨u, us.set n v', rfl, h1, VRL_set n h2 hv⟩
theorem VRL_setCells {φ : Phi} : ∀ {x x' l l' : List Value} (n : Nat), VRL φ x x' → VRL φ l l' → VRL φ (setCells l n x) (setCells l' n x')
  | [], _, _, _, n, h, k => by simp only [VRL] at h; subst h; exact k
  | v :: vs, _, l, l', n, h, k => by
    obtain ⟨u, us, rfl, h1, h2⟩ := h
    exact VRL_setCells (n + 1) h2 (VRL_set n k h1)

theorem getD_eq {α : Type} (l : List α) (i : Nat) (d : α) : l.getD i d = (l[i]?).getD d := List.getD_eq_getElem?_getD

theorem listAt_eq : ∀ (n off : Nat) (vs : List Value), off + n ≤ vs.length → listAt vs off n = cellsAt vs off n
  | 0, _, _, _ => by simp [listAt, cellsAt]
  | n + 1, off, vs, h => by
    rw [listAt, listAt_eq n (off + 1) vs (by omega), cellsAt, cellsAt, List.drop_eq_getElem_cons (i := off) (show off < vs.length by omega), List.take_succ_cons]
    congr 1
    rw [getD_eq, List.getElem?_eq_getElem (show off < vs.length by omega)]; rfl

theorem coer_sound {z v : Value} {k : Value → Prop} (h : coer z v k) : k v := by
  cases z <;> simp only [coer] at h <;> try exact h
  case int kd n =>
    cases v <;> simp only [isInt, intOf] at h <;> try exact h.elim
    rename_i kd' n'
    by_cases e : kd' = kd
    · subst e; simpa using h
    · simp [e] at h
  case bool => cases v <;> simp only [isBool, boolOf, cond_true, cond_false] at h <;> first | exact h | exact h.elim
  case string => cases v <;> simp only [isStr, strOf, cond_true, cond_false] at h <;> first | exact h | exact h.elim
theorem coerL_sound : ∀ {zs vs : List Value} {k : List Value → Prop}, coerL zs vs k → k vs ∧ vs.length = zs.length
  | [], [], _, h => ⟨h, rfl⟩
  | [], _ :: _, _, h => h.elim
  | _ :: _, [], _, h => h.elim
  | z :: zs, v :: vs, k, h => by
    simp only [coerL] at h
    have := coerL_sound (coer_sound h)
    exact ⟨this.1, by simp [this.2]⟩
end Go.Am
