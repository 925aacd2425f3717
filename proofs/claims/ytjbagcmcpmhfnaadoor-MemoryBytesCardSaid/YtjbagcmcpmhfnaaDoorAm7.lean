/-
  The abstract machine, part 7: one operation does in the model what the abstract machine says (loads, stores, places, new blocks). Own work; plain lemmas.
-/
import Derived.Test.YtjbagcmcpmhfnaaDoorAm6
namespace Go.Am
open Go

structure EnvR (N : Nat) (φ : Phi) (e : Env) (a : Act) : Prop where
  size : a.tmps.size = N
  defers : a.defers = []
  get : ∀ k v, eget e k = some v → k < N ∧ VR φ v (a.tmps.getD k undef)

theorem ev_sound {N : Nat} {φ : Phi} {e : Env} {a : Act} (E : EnvR N φ e a) {x : Operand} {v : Value} (h : ev e x = some v) : VR φ v (a.eval x) := by
  cases x with
  | tmp t => exact (E.get t v h).2
  | const c =>
    simp only [ev] at h
    cases hf : flat c with
    | true => rw [hf] at h; cases h; exact (VR_flat φ _ _ hf).2 rfl
    | false => rw [hf] at h; cases h
  | global g => simp only [ev] at h; cases h; simp [VR, Act.eval]
  | func f => simp only [ev] at h; cases h; exact ⟨_, _, rfl, rfl, rfl⟩

theorem evL_sound {N : Nat} {φ : Phi} {e : Env} {a : Act} (E : EnvR N φ e a) : ∀ {l : List Operand} {vs : List Value}, evL e l = some vs → VRL φ vs (l.map a.eval)
  | [], _, h => by simp only [evL] at h; cases h; rfl
  | x :: r, vs, h => by
    simp only [evL] at h
    split at h
    · split at h
      · cases h; exact ⟨_, _, rfl, ev_sound E ‹_›, evL_sound E ‹_›⟩
      · cases h
    · cases h

/-- What an operation leaves. -/
def OpPost (W0 : World) (φ : Phi) (h : AHeap) (w : World) (k : Value → AHeap → List Nat → Prop) (v' : Value) (w' : World) : Prop :=
  ∃ v h' mv φ', k v h' mv ∧ VR φ' v v' ∧ Sim W0 φ' h' w' ∧ Ext φ h w φ' h' w' ∧ ∀ u u', VR φ u u' → VR φ' (pzVs mv u) u'

theorem OpPost.quiet {W0 : World} {φ : Phi} {h : AHeap} {w : World} {k : Value → AHeap → List Nat → Prop} {v v' : Value} (S : Sim W0 φ h w) (hk : k v h []) (hv : VR φ v v') : OpPost W0 φ h w k v' w :=
  ⟨v, h, [], φ, hk, hv, S, Ext.refl _ _ _, fun _ _ h => h⟩

/-- The operation runs to Q. -/
def Does (P : Program) (o : Oper) (a : Act) (w : World) (Q : Value → World → Prop) : Prop :=
  ∃ n w', (execOp a.eval o).run P w = .ok n w' ∧ match n with
    | .value v => Q v w'
    | .skip => Q undef w'
    | .enter f args => Calls P f args w' fun e w'' => ∃ v, e = .returned v ∧ Q v w''
    | _ => False

theorem Does.value {P : Program} {o : Oper} {a : Act} {w w' : World} {Q : Value → World → Prop} {v : Value} (h : (execOp a.eval o).run P w = .ok (.value v) w') (hq : Q v w') : Does P o a w Q :=
  ⟨_, _, h, hq⟩

theorem Does.wp {P : Program} {o : Oper} {a : Act} {w : World} {Q : Value → World → Prop} {next : Act → World → Prop} {Q' : Exit → Act → World → Prop} (h : Does P o a w Q)
    (hn : ∀ v w', Q v w' → next (a.put o.dst v) w') : o.wp P a w next Q' := by
  obtain ⟨n, w', hr, hq⟩ := h
  unfold Oper.wp
  rw [hr]
  cases n <;> simp only at hq <;> first
    | exact hn _ _ hq
    | exact Calls.mono hq (fun e w'' ⟨v, he, hv⟩ => by subst he; exact hn _ _ hv)
    | exact hq.elim

theorem run_v {P : Program} {s : Sem Value} {v : Value} {w w' : World} (h : s.run P w = .ok v w') : (do pure (Next.value (← s)) : Sem Next).run P w = .ok (.value v) w' := by
  simp only [run_bind, h, run_pure]

theorem run_newRow {P : Program} (el : TypeId) (cs : Array Value) (w : World) : (newRow el cs).run P w = .ok ⟨w.heap.size, 0, none⟩ { w with heap := w.heap.push (.cells cs el) } := rfl

/-- A new row of cells. -/
theorem push_cells {W0 : World} {φ : Phi} {h : AHeap} {w w' : World} (S : Sim W0 φ h w) {fl : Bool} {vs : List Value} {t : TypeId} {cs : Array Value} {us rest : List Value} {fr : Nat × Nat}
    (hcs : cs.toList = us ++ rest) (h1 : ∀ u ∈ us, OneC u) (hv : VRL φ vs us) (hfl : fl = true → flatL vs = true) (hfr : ∀ j, j < cs.size → ¬ (fr.1 ≤ j ∧ j < fr.2))
    (hos : w'.os = w.os) (ht : w'.tape = w.tape) (hout : w'.output = w.output) (hheap : w'.heap = w.heap.push (.cells cs t fr)) :
    Sim W0 (φ ++ [⟨w.heap.size, cs.size, 0⟩]) (h ++ [.cells fl vs t false]) w' ∧ Ext φ h w (φ ++ [⟨w.heap.size, cs.size, 0⟩]) (h ++ [.cells fl vs t false]) w' ∧
    (φ ++ [⟨w.heap.size, cs.size, 0⟩])[h.length]? = some ⟨w.heap.size, cs.size, 0⟩ := by
  refine ⟨S.push _ _ _ rfl hos ht hout hheap ⟨S.size, hfl, cs, fr, ?_, rfl, hfr, [], us, rest, hcs, rfl, h1, VRL_mono (push_mono φ _) _ _ hv⟩, Ext.push S _ _ _ rfl hheap, ?_⟩
  · rw [hheap]; simp
  · rw [← S.len]; simp

theorem VRL_flatL {φ : Phi} {l : List Value} (h : flatL l = true) : VRL φ l l := (VRL_flat φ l l h).2 rfl

theorem post_alloc {W0 : World} {φ : Phi} {h : AHeap} {w : World} (S : Sim W0 φ h w) {k : Value → AHeap → List Nat → Prop} {t : TypeId} {vs : List Value} {cs : Array Value} (h1 : ∀ u ∈ cs.toList, OneC u) (hv : VRL φ vs cs.toList)
    (hk : allocK t vs h fun v h' => k v h' []) : OpPost W0 φ h w k (.pointer (some ⟨w.heap.size, 0, none⟩)) { w with heap := w.heap.push (.cells cs t) } := by
  obtain ⟨h1, h2, h3⟩ := push_cells S (fl := flatL vs) (t := t) (cs := cs) (rest := []) (fr := (0, 0)) (w' := { w with heap := w.heap.push (.cells cs t) }) (List.append_nil _).symm h1 hv id (fun j _ h => by omega) rfl rfl rfl rfl
  refine ⟨_, _, _, _, hk, ?_, h1, h2, fun u u' hu => VR_mono (push_mono φ _) u u' hu⟩
  simp only [newAddr, VR]
  exact ⟨_, h3, by simp⟩

theorem run_alloc {P : Program} {t : TypeId} {i : TypeInfo} {z : Value} (hi : P.info? t = some i) (hz : i.zero = some z) (w : World) :
    (Instr.alloc t true (.tuple #[])).run P w = .ok (.pointer (some ⟨w.heap.size, 0, none⟩)) { w with heap := w.heap.push (.cells z.cells t) } := by
  simp only [Instr.alloc, run_bind, run_zeroValue hi hz, newVar, run_newRow, run_pure]

/-! ### rows -/
theorem row_cells {φ : Phi} {cs : Array Value} {pre us rest : List Value} {sh : Nat} {vs : List Value} (hcs : cs.toList = pre ++ (us ++ rest)) (hp : pre.length = sh) (hv : VRL φ vs us) {off n : Nat}
    (hle : off + n ≤ vs.length) : VRL φ (cellsAt vs off n) ((cs.toList.drop (sh + off)).take n) ∧ sh + off + n ≤ cs.size := by
  have hl := VRL_length hv
  constructor
  · have : (cs.toList.drop (sh + off)).take n = (us.drop off).take n := by
      rw [hcs, List.drop_append, List.drop_eq_nil_of_le (by omega), List.nil_append, show sh + off - pre.length = off from by omega, List.drop_append, List.take_append_of_le_length (by simp; omega)]
    rw [this]
    exact VRL_take n (VRL_drop off hv)
  · have : cs.toList.length = pre.length + (us.length + rest.length) := by rw [hcs]; simp
    simp only [Array.length_toList] at this
    omega

/-- What G lays open lies in the first world. -/
def GOk (G : Nat → Option (List Value)) (W0 : World) : Prop :=
  ∀ g vs, G g = some vs → flatL vs = true ∧ g < W0.heap.size ∧ ∃ cs t fr rest, W0.heap[g]? = some (.cells cs t fr) ∧ cs.toList = vs ++ rest

theorem VR_ptr_some {φ : Phi} {a : Addr} {s : Nat} {v' : Value} (hs : a.spot = some s) (h : VR φ (.pointer (some a)) v') : ∃ p, φ[a.block]? = some p ∧ v' = .pointer (some ⟨p.b, p.sh + a.off, none⟩) := by
  simp only [VR, hs] at h; exact h
theorem VR_ptr_none {φ : Phi} {a : Addr} {v' : Value} (hs : a.spot = none) (h : VR φ (.pointer (some a)) v') : v' = .pointer (some ⟨a.block, a.off, none⟩) := by
  obtain ⟨b, o, sp⟩ := a
  simp only at hs
  subst hs
  simpa [VR] using h

theorem loadCells_sound {φ : Phi} {P : Program} {t : TypeId} {vs : List Value} {off : Nat} {k : Value → Prop} (hk : loadCellsK P t vs off k) {b : Nat} {cs : Array Value} {pre us rest : List Value} {sh : Nat}
    (hcs : cs.toList = pre ++ (us ++ rest)) (hp : pre.length = sh) (hv : VRL φ vs us) : ∃ v v', k v ∧ VR φ v v' ∧ ∀ w : World, Row w b cs → (loadVar t ⟨b, sh + off, none⟩).run P w = .ok v' w := by
  unfold loadCellsK at hk
  split at hk
  · rename_i i hi
    split at hk
    · rename_i z hz
      cases hc : Nat.beq i.size z.cells.size && decide (off + i.size ≤ vs.length) with
      | false => rw [hc] at hk; exact hk.elim
      | true =>
        rw [hc] at hk
        simp only [Bool.and_eq_true, decide_eq_true_eq] at hc
        obtain ⟨hk1, hlen⟩ := coerL_sound hk
        rw [listAt_eq _ _ _ hc.2] at hk1 hlen
        obtain ⟨hrel, hle⟩ := row_cells hcs hp hv hc.2
        split at hk1
        · rename_i ha
          refine ⟨_, .agg ⟨(cs.toList.drop (sh + off)).take i.size⟩, hk1, ⟨_, rfl, hrel⟩, fun w hr => ?_⟩
          obtain ⟨v', h1, h2, _⟩ := run_loadVar (P := P) hr hi ha hle (fun h => by cases h)
          rw [h1, h2 rfl]
        · rename_i ha
          split at hk1
          · rename_i v hl
            have hs : i.size = 1 := by
              have : (cellsAt vs off i.size).length = i.size := by simp only [cellsAt, List.length_take, List.length_drop]; omega
              rw [hl] at this; simpa using this.symm
            rw [hl] at hrel
            obtain ⟨u, us', e, h4, h5⟩ := hrel
            simp only [VRL] at h5
            subst h5
            refine ⟨v, u, hk1, h4, fun w hr => ?_⟩
            obtain ⟨v', h1, _, h3⟩ := run_loadVar (P := P) hr hi ha hle (fun _ => hs)
            have h3 := h3 rfl
            rw [e] at h3
            cases h3
            exact h1
          · exact hk1.elim
        · exact hk1.elim
    · exact hk.elim
  · exact hk.elim

/-- The concrete block that a load reads. -/
def ReadsAt (W0 : World) (φ : Phi) (h : AHeap) (ad : Value) (b : Nat) : Prop :=
  ∃ a, ad = .pointer (some a) ∧ ((a.spot = none ∧ b < W0.heap.size) ∨ ((∃ s, a.spot = some s) ∧ ∃ p o, φ[a.block]? = some p ∧ h[a.block]? = some o ∧ o ≠ .dead ∧ p.b = b))

theorem load_sound {W0 : World} {c : Cfg} {φ : Phi} {h : AHeap} {w : World} (S : Sim W0 φ h w) (hG : GOk c.G W0) {t : TypeId} {ad ad' : Value} {k : Value → Prop} (hk : loadK c t ad h k) (hv : VR φ ad ad') :
    ∃ v v' b, k v ∧ VR φ v v' ∧ ReadsAt W0 φ h ad b ∧ ∀ w2 : World, w2.heap[b]? = w.heap[b]? → (Instr.loadAt t ad').run c.P w2 = .ok v' w2 := by
  unfold loadK at hk
  split at hk
  · rename_i a
    split at hk
    · rename_i s hs
      obtain ⟨p, hp, rfl⟩ := VR_ptr_some hs hv
      have fin : ∀ {vs : List Value} {o : AObj}, h[a.block]? = some o → o ≠ .dead → loadCellsK c.P t vs a.off k → (∃ cs t fr pre us rest, w.heap[p.b]? = some (.cells cs t fr) ∧ cs.toList = pre ++ (us ++ rest) ∧ pre.length = p.sh ∧ VRL φ vs us) →
          ∃ v v' b, k v ∧ VR φ v v' ∧ ReadsAt W0 φ h (.pointer (some a)) b ∧ ∀ w2 : World, w2.heap[b]? = w.heap[b]? → (Instr.loadAt t (.pointer (some ⟨p.b, p.sh + a.off, none⟩))).run c.P w2 = .ok v' w2 := by
        rintro vs o ho hne hk ⟨cs, t', fr, pre, us, rest, h1, h2, h3, h4⟩
        obtain ⟨v, v', a1, a2, a3⟩ := loadCells_sound (b := p.b) hk h2 h3 h4
        exact ⟨v, v', p.b, a1, a2, ⟨a, rfl, .inr ⟨⟨s, hs⟩, p, o, hp, ho, hne, rfl⟩⟩, fun w2 hw => by simp only [Instr.loadAt, Instr.sureAddr, run_bind, run_pure]; exact a3 w2 ⟨t', fr, by rw [hw]; exact h1⟩⟩
      split at hk
      · rename_i fl vs ty mv ho
        obtain ⟨_, _, cs, fr, h4, _, _, pre, us, rest, h7, h9, _, h8⟩ := S.blk _ _ p ho hp
        exact fin ho (by simp) hk ⟨cs, _, fr, pre, us, rest, h4, h7, h9, h8⟩
      · rename_i vs ty ho
        obtain ⟨_, hfl, _, cs, fr, h4, _, pre, rest, h7, h9⟩ := S.blk _ _ p ho hp
        exact fin ho (by simp) hk ⟨cs, _, fr, pre, vs, rest, h4, h7, h9, VRL_flatL hfl⟩
      · exact hk.elim
    · rename_i hs
      split at hk
      · rename_i vs hg
        obtain ⟨hfl, hlt, cs, t', fr, rest, h1, h2⟩ := hG _ _ hg
        rw [VR_ptr_none hs hv]
        rw [← S.old _ hlt] at h1
        obtain ⟨v, v', a1, a2, a3⟩ := loadCells_sound (φ := φ) (b := a.block) hk (pre := []) (us := vs) (sh := 0) h2 rfl (VRL_flatL hfl)
        refine ⟨v, v', a.block, a1, a2, ⟨a, rfl, .inl ⟨hs, hlt⟩⟩, fun w2 hw => ?_⟩
        have := a3 w2 ⟨t', fr, by rw [hw]; exact h1⟩
        rw [Nat.zero_add] at this
        simp only [Instr.loadAt, Instr.sureAddr, run_bind, run_pure]; exact this
      · exact hk.elim
  · exact hk.elim

theorem VR_cells {φ : Phi} {v v' : Value} (ho : oneL v.cells.toList = true) (h : VR φ v v') : VRL φ v.cells.toList v'.cells.toList := by
  have one : ∀ {v v' : Value}, v.cells = #[v] → v'.cells = #[v'] → VR φ v v' → VRL φ v.cells.toList v'.cells.toList := fun e1 e2 h => by rw [e1, e2]; exact ⟨_, _, rfl, h, rfl⟩
  cases v with
  | agg cs =>
    obtain ⟨cs', rfl, h1⟩ := h
    cases cs
    exact h1
  | tuple cs => simp [Value.cells, oneL, oneB] at ho
  | chan r =>
    cases r with
    | none => simp only [VR] at h; subst h; exact one rfl rfl (by simp [VR])
    | some r => simp [Value.cells, oneL, oneB] at ho
  | func fn f c =>
    have h0 := h
    obtain ⟨f', c', rfl, _, _⟩ := h
    exact one rfl rfl h0
  | iface t v =>
    have h0 := h
    obtain ⟨u, rfl, _⟩ := h
    exact one rfl rfl h0
  | pointer a =>
    have h0 := h
    cases a with
    | none => simp only [VR] at h; subst h; exact one rfl rfl h0
    | some a =>
      simp only [VR] at h
      split at h
      · subst h; exact one rfl rfl h0
      · obtain ⟨_, _, rfl⟩ := h; exact one rfl rfl h0
  | slice a n c =>
    have h0 := h
    cases a with
    | none => simp only [VR] at h; subst h; exact one rfl rfl h0
    | some a =>
      simp only [VR] at h
      split at h
      · subst h; exact one rfl rfl h0
      · obtain ⟨_, _, _, _, rfl, _⟩ := h; exact one rfl rfl h0
  | map r =>
    have h0 := h
    cases r with
    | none => simp only [VR] at h; subst h; exact one rfl rfl h0
    | some r => simp only [VR] at h; obtain ⟨_, _, rfl⟩ := h; exact one rfl rfl h0
  | _ => have h0 := h; simp only [VR] at h; subst h; exact one rfl rfl h0

theorem VR_one {φ : Phi} {v v' : Value} (ho : oneB v = true) (h : VR φ v v') : (∀ c, v' ≠ .agg c) ∧ (∀ c, v' ≠ .tuple c) := by
  cases v with
  | agg cs => simp [oneB] at ho
  | tuple cs => simp [oneB] at ho
  | chan r =>
    cases r with
    | none => simp only [VR] at h; subst h; exact ⟨by simp, by simp⟩
    | some r => simp [oneB] at ho
  | func fn f c => obtain ⟨f', c', rfl, _, _⟩ := h; exact ⟨by simp, by simp⟩
  | iface t v => obtain ⟨u, rfl, _⟩ := h; exact ⟨by simp, by simp⟩
  | pointer a =>
    cases a with
    | none => simp only [VR] at h; subst h; exact ⟨by simp, by simp⟩
    | some a =>
      simp only [VR] at h
      split at h
      · subst h; exact ⟨by simp, by simp⟩
      · obtain ⟨_, _, rfl⟩ := h; exact ⟨by simp, by simp⟩
  | slice a n c =>
    cases a with
    | none => simp only [VR] at h; subst h; exact ⟨by simp, by simp⟩
    | some a =>
      simp only [VR] at h
      split at h
      · subst h; exact ⟨by simp, by simp⟩
      · obtain ⟨_, _, _, _, rfl, _⟩ := h; exact ⟨by simp, by simp⟩
  | map r =>
    cases r with
    | none => simp only [VR] at h; subst h; exact ⟨by simp, by simp⟩
    | some r => simp only [VR] at h; obtain ⟨_, _, rfl⟩ := h; exact ⟨by simp, by simp⟩
  | _ => simp only [VR] at h; subst h; exact ⟨by simp, by simp⟩
theorem VRL_one {φ : Phi} : ∀ {l l' : List Value}, oneL l = true → VRL φ l l' → ∀ v ∈ l', (∀ c, v ≠ .agg c) ∧ (∀ c, v ≠ .tuple c)
  | [], _, _, h => by simp only [VRL] at h; subst h; simp
  | v :: vs, _, ho, h => by
    simp only [oneL, Bool.and_eq_true] at ho
    obtain ⟨u, us, rfl, h1, h2⟩ := h
    intro x hx
    rcases List.mem_cons.1 hx with rfl | hx
    · exact VR_one ho.1 h1
    · exact VRL_one ho.2 h2 x hx

theorem flatL_mem : ∀ {l : List Value}, flatL l = true ↔ ∀ v ∈ l, flat v = true
  | [] => by simp [flatL]
  | v :: vs => by simp [flatL, flatL_mem (l := vs)]
theorem flatL_setCells : ∀ {x l : List Value} (n : Nat), flatL x = true → flatL l = true → flatL (setCells l n x) = true
  | [], _, _, _, h => h
  | v :: vs, l, n, hx, h => by
    simp only [flatL, Bool.and_eq_true] at hx
    refine flatL_setCells (n + 1) hx.2 (flatL_mem.2 fun u hu => ?_)
    rcases List.mem_or_eq_of_mem_set hu with hu | rfl
    · exact flatL_mem.1 h u hu
    · exact hx.1

theorem OneC_setCells : ∀ {x l : List Value} (n : Nat), (∀ u ∈ x, OneC u) → (∀ u ∈ l, OneC u) → ∀ u ∈ setCells l n x, OneC u
  | [], _, _, _, h => h
  | v :: vs, l, n, hx, h => by
    refine OneC_setCells (n + 1) (fun u hu => hx u (List.mem_cons_of_mem _ hu)) (fun u hu => ?_)
    rcases List.mem_or_eq_of_mem_set hu with hu | rfl
    · exact h u hu
    · exact hx u (List.mem_cons_self)

theorem setCells_shift : ∀ (x pre us rest : List Value) (off : Nat), off + x.length ≤ us.length → setCells (pre ++ (us ++ rest)) (pre.length + off) x = pre ++ (setCells us off x ++ rest)
  | [], _, _, _, _, _ => rfl
  | v :: vs, pre, us, rest, off, h => by
    simp only [List.length_cons] at h
    rw [setCells, setCells, show pre.length + off + 1 = pre.length + (off + 1) from by omega, ← setCells_shift vs pre (us.set off v) rest (off + 1) (by simp; omega)]
    congr 1
    rw [List.set_append_right _ _ (by omega), show pre.length + off - pre.length = off from by omega, List.set_append_left _ _ (by omega)]

theorem store_sound {W0 : World} {φ : Phi} {h : AHeap} {w : World} (S : Sim W0 φ h w) {P : Program} {t : TypeId} {ad ad' v v' : Value} {k : AHeap → Prop} (ho : oneL v.cells.toList = true) (hk : storeK P t ad v h k)
    (hv : VR φ ad ad') (hx : VR φ v v') : ∃ h' w', k h' ∧ Sim W0 φ h' w' ∧ Ext φ h w φ h' w' ∧ (Instr.storeAt t ad' v').run P w = .ok () w' := by
  unfold storeK at hk
  split at hk
  · rename_i a
    split at hk
    · rename_i s hs
      obtain ⟨p, hp, rfl⟩ := VR_ptr_some hs hv
      split at hk
      · rename_i fl vs ty mv hob
        split at hk
        · rename_i i hi
          cases hc : Nat.beq v.cells.size i.size && decide (a.off + i.size ≤ vs.length) with
          | false => rw [hc] at hk; exact hk.elim
          | true =>
            rw [hc] at hk
            simp only [Bool.and_eq_true, decide_eq_true_eq] at hc
            obtain ⟨hb, hle⟩ := hc
            have hb := Nat.eq_of_beq_eq_true hb
            obtain ⟨hbase, hfl, cs, fr, h4, h5, h6, pre, us, rest, h7, h9, h10, h8⟩ := S.blk _ _ p hob hp
            have hcv := VR_cells ho hx
            have hlv := VRL_length hcv
            have hlu := VRL_length h8
            have hsz : cs.size = pre.length + (us.length + rest.length) := by rw [← Array.length_toList, h7]; simp
            simp only [Array.length_toList] at hlv
            obtain ⟨w', cs', r1, r2, r3, r4, r5⟩ := run_storeCells (P := P) (p.sh + a.off) v'.cells.toList w cs 0 h4 (by simp only [Array.length_toList]; omega) h6 (VRL_one ho hcv)
            have hlive : liveB h a.block = true := by simp [liveB, hob, AObj.liveB]
            refine ⟨_, w', hk, S.put hlive hp _ r2.os r2.tape r2.out r2.size r2.rest ?_, Ext.put hlive hp _ r2.size r2.rest (fun hm => by simpa [movedB, hob, AObj.movedB] using hm), ?_⟩
            · refine ⟨hbase, fun hf => ?_, cs', fr, r3, r4.trans h5, fun j hj => h6 j (by omega), pre, setCells us a.off v'.cells.toList, rest, ?_, h9, OneC_setCells _ (VRL_one ho hcv) h10, VRL_setCells _ hcv h8⟩
              · cases hfv : flatA v.cells with
                | false => rw [hfv] at hf; cases hf
                | true =>
                  rw [hfv] at hf
                  have : flatL v.cells.toList = true := by cases hcl : v.cells; rw [hcl] at hfv; exact hfv
                  exact flatL_setCells _ this (hfl hf)
              · rw [r5, Nat.add_zero, h7, ← h9]
                exact setCells_shift _ _ _ _ _ (by simp only [Array.length_toList]; omega)
            · have hne : ¬ (v'.cells.size ≠ i.size) := by omega
              simp only [Instr.storeAt, Instr.sureAddr, run_bind, run_pure, storeVar, run_sizeOf hi, if_neg hne]
              exact r1
        · exact hk.elim
      · exact hk.elim
    · exact hk.elim
  · exact hk.elim

/-! ### places -/
theorem VR_addA {φ : Phi} {a : Addr} {v' : Value} (h : VR φ (.pointer (some a)) v') : ∃ a', v' = .pointer (some a') ∧ ∀ n, VR φ (.pointer (some (addA a n))) (.pointer (some (a'.add n))) := by
  obtain ⟨b, o, sp⟩ := a
  cases sp with
  | none =>
    have := VR_ptr_none rfl h
    subst this
    exact ⟨_, rfl, fun n => by simp [addA, add0_eq, VR, add_none]⟩
  | some s =>
    obtain ⟨p, hp, rfl⟩ := VR_ptr_some rfl h
    exact ⟨_, rfl, fun n => by simp only [addA, add0_eq, VR, add_none]; exact ⟨p, hp, by rw [Nat.add_assoc]⟩⟩

theorem fieldAddr_sound {φ : Phi} {P : Program} {s : TypeId} {x x' : Value} {f : Nat} {k : Value → Prop} (hk : fieldAddrK P s x f k) (hx : VR φ x x') :
    ∃ v v', k v ∧ VR φ v v' ∧ ∀ w : World, (Instr.fieldAt s x' f).run P w = .ok v' w := by
  unfold fieldAddrK at hk
  split at hk
  · rename_i fields hu
    split at hk
    · rename_i fd hf
      split at hk
      · rename_i i hi
        split at hk
        · exact hk.elim
        · rename_i m hm
          split at hk
          · rename_i a
            obtain ⟨a', rfl, ha⟩ := VR_addA hx
            refine ⟨_, _, hk, ha _, fun w => ?_⟩
            simp only [Instr.fieldAt, run_bind, run_underlying hu, hf, Instr.sureAddr, run_pure, fieldPlace, run_sizeOf hi, hm]
            simp [run_pure]
          · exact hk.elim
      · exact hk.elim
    · exact hk.elim
  · exact hk.elim
end Go.Am
