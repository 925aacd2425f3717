/-
  Cltu: a list appended to another; a parser in a later world; what is fed in parts. Own work.
-/
import Derived.Test.YtoeepogoogcbiaaDoorCltAQ
namespace Go.Am.Clt
open Go Go.Am Go.Am.Lib Go.Lib Go.Proofs Go.RowKit
set_option maxRecDepth 100000

section
variable {P : Program} {w : World}
theorem append_nil_src {base : Nat} {t ty e : TypeId} {i : TypeInfo} {size : Nat} (ht : P.underlying t = some (.slice e)) (hi : P.info? e = some i)
    {v : Value} {n : Nat} {xs : List Value} (hown : w.ownsRow base e size v n xs) (c : Nat) : (Builtin.append_ #[t, t] ty #[v, .slice none 0 c]).run P w = .ok v w := by
  rcases hown.2 with ⟨rfl, rfl⟩ | ⟨g, cap, cur, rfl, _, _, hnc, _⟩
  · simp [Builtin.append_, run_underlying ht, sizeOf, typeInfo, hi, Builtin.lenOf, Builtin.firstCells]
  · simp [Builtin.append_, run_underlying ht, sizeOf, typeInfo, hi, Builtin.lenOf, Builtin.firstCells, hnc, storeCells]
/-- A row of strings behind another. -/
theorem run_append_rows {base B : Nat} {t ty e : TypeId} {i : TypeInfo} {z : Value} {bytes : Nat} (ht : P.underlying t = some (.slice e)) (hi : P.info? e = some i) (hz : i.zero = some z)
    (hsize : i.size = 1) (hby : i.bytes = bytes) (hzs : z.cells.size = 1)
    {v : Value} {n : Nat} {xs : List Value} (hown : w.ownsRow base e 1 v n xs) {u : Value} {m : Nat} {ys : List Value} (hu : w.ownsRow B e 1 u m ys) (h1 : ∀ y ∈ ys, y.oneCell' = true)
    (h63 : n + m ≤ maxLen) (hbytes : (n + m) * bytes ≤ 140737488355328) (hbase : base ≤ w.heap.size) :
    ∃ v' w', (Builtin.append_ #[t, t] ty #[v, u]).run P w = .ok v' w' ∧ w'.ownsRow base e 1 v' (n + m) (xs ++ ys) ∧ w.grownBy w' v.ownBlock ∧ (v'.ownBlock = v.ownBlock ∨ v'.ownBlock = some w.heap.size) := by
  rcases hu.2 with ⟨rfl, rfl⟩ | ⟨g, cap, cur, rfl, _, hg, hnc, _⟩
  · have hy : ys = [] := List.eq_nil_of_length_eq_zero (by simpa using hu.1)
    subst hy
    exact ⟨v, w, append_nil_src ht hi hown 0, by simpa using hown, ⟨rfl, rfl, rfl, Nat.le_refl _, fun _ _ _ => rfl⟩, Or.inl rfl⟩
  · obtain ⟨v', w', hr, h2, h3, h4⟩ := run_append_own (P := P) w base t ty e i z 1 bytes ht hi hz hsize hby hzs (by omega) v n xs hown ⟨g, 0, none⟩ m cap ys hu.1 (hu.cells rfl) h1 h63 hbytes hbase
    refine ⟨v', w', hr, h2, h3, ?_⟩
    rcases Nat.eq_zero_or_pos m with h0 | h0
    · subst h0
      rcases hown.2 with ⟨rfl, rfl⟩ | ⟨g', cap', cur', rfl, _, hg', hnc', hcm', hcs', _⟩
      · exact Or.inl (by rw [h4.2 ⟨rfl, rfl⟩])
      · have hy : ys = [] := List.eq_nil_of_length_eq_zero (by simpa using hu.1)
        subst hy
        have hq := run_append_room (P := P) w t ty e i ht hi g' n cap' cur' hg' ⟨g, 0, none⟩ 0 cap [] (by simp) (hu.cells rfl) (fun u hu => by cases hu) (by omega) (by rw [hsize, hcs']; simp; omega)
        rw [hq] at hr
        injection hr with e1 e2
        exact Or.inl (by rw [← e1]; rfl)
    · exact where_row ht hi hz hsize hby hown hu.1 (hu.cells rfl) h1 h0 h63 hbytes hr
end
theorem wpList_append_rows {P : Program} {w : World} {ops : Array Oper} {rest : List Oper} {o : Oper} {a : Act} {Q : Exit → Act → World → Prop} (hgd : o.guard = none) (s x : Operand) (t : TypeId)
    (ho : o.op = .call { callee := .builtin .append, args := #[s, x], argTypes := #[t, t] })
    (base B : Nat) (e : TypeId) (i : TypeInfo) (z : Value) (bytes : Nat) (ht : P.underlying t = some (.slice e)) (hi : P.info? e = some i) (hz : i.zero = some z)
    (hsize : i.size = 1) (hby : i.bytes = bytes) (hzs : z.cells.size = 1)
    (v : Value) (n : Nat) (xs : List Value) (hs : a.eval s = v) (hown : w.ownsRow base e 1 v n xs)
    (u : Value) (m : Nat) (ys : List Value) (hx : a.eval x = u) (hu : w.ownsRow B e 1 u m ys) (h1 : ∀ y ∈ ys, y.oneCell' = true)
    (h63 : n + m ≤ maxLen) (hbytes : (n + m) * bytes ≤ 140737488355328) (hbase : base ≤ w.heap.size)
    (h : ∀ v' w', w'.ownsRow base e 1 v' (n + m) (xs ++ ys) → w.grownBy w' v.ownBlock → (v'.ownBlock = v.ownBlock ∨ v'.ownBlock = some w.heap.size) → wpList P ops Q rest (a.put o.dst v') w') : wpList P ops Q (o :: rest) a w := by
  refine wpList_plain hgd fun K hK => ?_
  obtain ⟨v', w', hr, h2, h3, hw⟩ := run_append_rows (P := P) (ty := o.type) ht hi hz hsize hby hzs hown hu h1 h63 hbytes hbase
  unfold Oper.wp execOp
  simp only [ho, resolve, invoke, builtin, Sem.run_bind, Sem.run_pure, Result.andThen_ok, List.map_toArray, List.map_cons, List.map_nil, hs, hx, hr]
  exact hK _ _ (h v' w' h2 h3 hw)
/-- A parser in a later world: it needs no more than it holds. -/
theorem PAt.shrink {S : Nat → Prop} {b : Nat} {p : PS} {w w' : World} (h : PAt S b p w) (hk : ∀ k, S k → k < w.heap.size → w'.heap[k]? = w.heap[k]?) : ∃ S', PAt S' b p w' ∧ ∀ k, k < w'.heap.size → S' k → S k ∧ k < w.heap.size := by
  obtain ⟨v1, v2, v3, h⟩ := h
  have hf : ∀ k, foot b v1 v2 v3 w.heap.size k → S k := by
    rintro k (e | e | e | e | e)
    · rw [e]; exact h.hb
    · exact h.s1 k e
    · exact h.s2 k e
    · exact h.s3 k e
    · exact h.hS k e
  refine ⟨_, ⟨v1, v2, v3, h.shrink fun k hk' hlt => hk k (hf k hk') hlt⟩, ?_⟩
  rintro k hlt (e | e | e | e | e)
  · rw [e]; exact ⟨h.hb, h.lt⟩
  · exact ⟨h.s1 k e, (h.r1.lt k e).2⟩
  · exact ⟨h.s2 k e, (h.r2.lt k e).2⟩
  · exact ⟨h.s3 k e, (h.r3.lt k e).2⟩
  · omega
/-- A new parser. -/
theorem PAt.new {S : Nat → Prop} {b : Nat} {w : World} (hS : ∀ k, w.heap.size ≤ k → S k) (hb : S b) (hc : w.heap[b]? = some (.cells #[F42, .bool false, .int .u8 0, .slice none 0 0, .slice none 0 0, .bool false, .slice none 0 0] 49 (0, 0))) : PAt S b ps0 w :=
  ⟨_, _, _, { hS := hS, hb := hb, s1 := fun k hk => (by cases hk), s2 := fun k hk => (by cases hk), s3 := fun k hk => (by cases hk), cell := hc, r1 := World.ownsRow_nil _ _ _ _, r2 := World.ownsRow_nil _ _ _ _, r3 := World.ownsRow_nil _ _ _ _, dis := fun k hk => by cases hk }⟩
theorem PAt.bound {S : Nat → Prop} {b : Nat} {p : PS} {w : World} (h : PAt S b p w) : b < w.heap.size := by
  obtain ⟨_, _, _, h⟩ := h; exact h.lt
theorem PAt.inS {S : Nat → Prop} {b : Nat} {p : PS} {w : World} (h : PAt S b p w) : S b := by
  obtain ⟨_, _, _, h⟩ := h; exact h.hb
theorem PAt.newS {S : Nat → Prop} {b : Nat} {p : PS} {w : World} (h : PAt S b p w) : ∀ k, w.heap.size ≤ k → S k := by
  obtain ⟨_, _, _, h⟩ := h; exact h.hS
theorem lock_at {S : Nat → Prop} {b : Nat} {p : PS} {w : World} (h : PAt S b p w) : Calls Tryd.prog 20 #[.pointer (some ⟨b, 0, none⟩)] w fun e w' => e = .returned (.bool p.begun) ∧ w' = w := by
  obtain ⟨v1, v2, v3, h⟩ := h
  have hc := h.cell
  rw [take_val] at hc
  exact locked_walk b w _ _ _ _ _ _ _ hc

/-! ### what is fed in parts -/
def clr (p : PS) : PS := { p with found := [] }
def withF (fs : List ByteArray) (p : PS) : PS := { p with found := fs ++ p.found }
theorem step_withF (fs : List ByteArray) (p : PS) (x : UInt8) : stepP (withF fs p) x = withF fs (stepP p x) := by
  unfold stepP withF
  dsimp only
  by_cases h1 : p.begun = true
  · rw [if_pos h1, if_pos h1]
    by_cases h2 : p.block.size < 7
    · rw [if_pos h2, if_pos h2]
    · rw [if_neg h2, if_neg h2]
      by_cases h3 : chkE (p.block.push x) = 0 ∧ (p.data ++ chkS (p.block.push x)).size < 350
      · rw [if_pos h3, if_pos h3]
      · rw [if_neg h3, if_neg h3]
        dsimp only
        by_cases h4 : (p.data ++ chkS (p.block.push x)).size = 0
        · rw [if_pos h4, if_pos h4]
        · rw [if_neg h4, if_neg h4, List.append_assoc]
  · rw [if_neg h1, if_neg h1]
    by_cases h2 : (p.known && nearV p.last.toNat x.toNat) = true
    · rw [if_pos h2, if_pos h2]
    · rw [if_neg h2, if_neg h2]
theorem feed_withF (fs : List ByteArray) : ∀ (l : List UInt8) (p : PS), feedP (withF fs p) l = withF fs (feedP p l)
  | [], _ => rfl
  | x :: l, p => by
    show feedP (stepP (withF fs p) x) l = withF fs (feedP (stepP p x) l)
    rw [step_withF, feed_withF fs l]
theorem withF_clr (p : PS) : withF p.found (clr p) = p := by unfold withF clr; dsimp only; rw [List.append_nil]
theorem feed_clr (p : PS) (l : List UInt8) : feedP p l = withF p.found (feedP (clr p) l) := by
  rw [← feed_withF, withF_clr]
theorem clr_withF (fs : List ByteArray) (p : PS) : clr (withF fs p) = clr p := rfl
theorem feedP_app (p : PS) (a b : List UInt8) : feedP p (a ++ b) = feedP (feedP p a) b := List.foldl_append
theorem ok_feed {N : Nat} : ∀ (l : List UInt8) {p : PS}, OkP p N → OkP (feedP p l) (N + l.length)
  | [], p, h => h
  | x :: l, p, h => by
    have := ok_feed (N := N + 1) l (ok_step h x)
    show OkP (feedP (stepP p x) l) (N + (l.length + 1))
    rw [show N + (l.length + 1) = N + 1 + l.length by omega]
    exact this
theorem ok_clr {N : Nat} {p : PS} (h : OkP p N) : OkP (clr p) 0 := ⟨h.block, h.data, Nat.le_refl _⟩
theorem ok_ps0 : OkP ps0 0 := ⟨by decide, by decide, by decide⟩
end Go.Am.Clt
