/-
  The abstract machine, part 13: literals, calls; every operation is sound. Own work; plain lemmas.
-/
import Derived.Test.YtjbagcmcpmhfnaaDoorAm12
namespace Go.Am
open Go

theorem pureRun_bind {P : Program} {α β : Type} (s : Sem α) (f : α → Sem β) : pureRun P (s >>= f) = (pureRun P s).bind fun a => pureRun P (f a) := by
  show pureRun P (s.bind f) = _
  induction s with
  | pure a => rfl
  | program k ih => simp only [Sem.bind, pureRun]; exact ih _
  | mark m k ih => simp only [Sem.bind, pureRun]; exact ih
  | _ => rfl
theorem pureRun_pure {P : Program} {α : Type} (a : α) : pureRun P (pure a : Sem α) = some a := rfl

theorem allFlat_spec {N : Nat} {φ : Phi} {e : Env} {a : Act} (E : EnvR N φ e a) : ∀ {l : List Operand}, allFlat e l = true → ∀ x ∈ l, a.eval x = rho e x
  | [], _, x, hx => by cases hx
  | y :: r, h, x, hx => by
    simp only [allFlat] at h
    split at h
    · rename_i v hv
      simp only [Bool.and_eq_true] at h
      rcases List.mem_cons.1 hx with rfl | hx
      · rw [rho, hv]; exact (VR_flat φ v _ h.1).1 (ev_sound E hv)
      · exact allFlat_spec E h.2 x hx
    · cases h

theorem pure_sound {N : Nat} {φ : Phi} {e : Env} {a : Act} {P : Program} {o : Oper} (E : EnvR N φ e a) (hs : ∀ cs b, o.op ≠ .select cs b) {k : Value → Prop} (hk : pureK P o e k) :
    ∃ v, k v ∧ flat v = true ∧ ∀ w : World, (execOp a.eval o).run P w = .ok (.value v) w := by
  unfold pureK at hk
  obtain ⟨hf, hk⟩ := cond_prop hk
  split at hk
  · rename_i v hv
    obtain ⟨hfl, hk⟩ := cond_prop hk
    refine ⟨v, hk, hfl, fun w => ?_⟩
    rw [execOp_congr o hs (fun x hx => allFlat_spec E hf x (by simpa using hx))]
    exact pureRun_run hv w
  · exact hk.elim

/-! ### literals -/
def PR (φ : Phi) : List (Nat × Value) → List (Nat × Value) → Prop
  | [], l => l = []
  | p :: r, l => ∃ v' r', l = (p.1, v') :: r' ∧ VR φ p.2 v' ∧ PR φ r r'

theorem evP_sound {N : Nat} {φ : Phi} {e : Env} {a : Act} (E : EnvR N φ e a) : ∀ {l : List (Nat × Operand)} {ps : List (Nat × Value)}, evP e l = some ps → PR φ ps (l.map fun p => (p.1, a.eval p.2))
  | [], _, h => by simp only [evP] at h; cases h; rfl
  | (i, x) :: r, ps, h => by
    simp only [evP] at h
    split at h
    · split at h
      · cases h; exact ⟨_, _, rfl, ev_sound E ‹_›, evP_sound E ‹_›⟩
      · cases h
    · cases h

theorem foldl_setCells (off : Nat) : ∀ (l : List Value) (s : Nat) (cs : Array Value), ((l.zipIdx s).foldl (fun cs (p : Value × Nat) => cs.setIfInBounds (off + p.2) p.1) cs).toList = setCells cs.toList (off + s) l
  | [], _, _ => rfl
  | x :: r, s, cs => by
    rw [List.zipIdx_cons, List.foldl_cons, foldl_setCells off r (s + 1), Array.toList_setIfInBounds, setCells]
    rfl
theorem fill_step (off : Nat) (v cs : Array Value) : (v.zipIdx.foldl (fun cs (p : Value × Nat) => cs.setIfInBounds (off + p.2) p.1) cs).toList = setCells cs.toList off v.toList := by
  have := foldl_setCells off v.toList 0 cs
  rw [Nat.add_zero] at this
  rw [← this, ← Array.foldl_toList, Array.toList_zipIdx]

theorem fill_sound {φ : Phi} (place : Nat → Option (Nat × Nat)) : ∀ {ps ps' : List (Nat × Value)} {cs cs' r : Array Value}, onePs ps = true → PR φ ps ps' → VRL φ cs.toList cs'.toList → Instr.fill place cs ps = some r →
    ∃ r', Instr.fill place cs' ps' = some r' ∧ VRL φ r.toList r'.toList
  | [], _, cs, cs', r, _, hp, hc, h => by
    simp only [PR] at hp; subst hp
    simp only [Instr.fill] at h; cases h
    exact ⟨cs', rfl, hc⟩
  | (i, v) :: rest, _, cs, cs', r, ho, hp, hc, h => by
    obtain ⟨v', r', rfl, h1, h2⟩ := hp
    simp only [onePs, Bool.and_eq_true] at ho
    simp only [Instr.fill] at h
    split at h
    · cases h
    · rename_i off size hpl
      split at h
      · cases h
      · rename_i hsz
        have hcv := VR_cells ho.1 h1
        have hl := VRL_length hcv
        have hlc := VRL_length hc
        simp only [Array.length_toList] at hl hlc
        have e := fill_step off v.cells cs
        have e' := fill_step off v'.cells cs'
        obtain ⟨q, a1, a2⟩ := fill_sound place (cs' := v'.cells.zipIdx.foldl (fun cs (p : Value × Nat) => cs.setIfInBounds (off + p.2) p.1) cs') ho.2 h2 (by rw [e, e']; exact VRL_setCells off hcv hc) h
        refine ⟨q, ?_, a2⟩
        simp only [Instr.fill, hpl]
        rw [if_neg (by rw [hl, hlc]; exact hsz)]
        exact a1

theorem fill_size (place : Nat → Option (Nat × Nat)) : ∀ {ps : List (Nat × Value)} {cs r : Array Value}, Instr.fill place cs ps = some r → r.size = cs.size
  | [], cs, r, h => by simp only [Instr.fill] at h; cases h; rfl
  | (i, v) :: rest, cs, r, h => by
    simp only [Instr.fill] at h
    split at h
    · cases h
    · rename_i off size hpl
      split at h
      · cases h
      · rw [fill_size place h, ← Array.length_toList, fill_step, setCells_length, Array.length_toList]

theorem zeroFlat_spec {P : Program} {t : TypeId} (h : zeroFlat P t = true) : ∃ i z, P.info? t = some i ∧ i.zero = some z ∧ flatL z.cells.toList = true := by
  unfold zeroFlat at h
  split at h
  · rename_i i hi
    split at h
    · rename_i z hz; exact ⟨i, z, hi, hz, flatA_toList h⟩
    · cases h
  · cases h

theorem pureRun_underlying {P : Program} {t : TypeId} {d : TypeDesc} (h : P.underlying t = some d) : pureRun P (underlying t) = some d := by
  simp only [underlying, pureRun_bind, program, pureRun, Option.bind_some, h]; rfl
theorem pureRun_zeroValue {P : Program} {t : TypeId} {i : TypeInfo} {z : Value} (h : P.info? t = some i) (hz : i.zero = some z) : pureRun P (zeroValue t) = some z := by
  simp only [zeroValue, typeInfo, pureRun_bind, program, pureRun, Option.bind_some, h, pureRun_pure, hz]

theorem build_sound {φ : Phi} {P : Program} {t : TypeId} {ps ps' : List (Nat × Value)} {v : Value} (hz : zeroFlat P t = true) (ho : onePs ps = true) (hp : PR φ ps ps') (hv : pureRun P (Instr.build t ps.toArray) = some v) (w : World) :
    ∃ v', (Instr.build t ps'.toArray).run P w = .ok v' w ∧ VR φ v v' := by
  obtain ⟨i, z, hi, hzz, hfl⟩ := zeroFlat_spec hz
  unfold Instr.build at hv ⊢
  simp only [pureRun_bind, pureRun_zeroValue hi hzz, Option.bind_some] at hv
  cases hu : P.underlying t with
  | none => simp only [underlying, pureRun_bind, program, pureRun, Option.bind_some, hu, stuck] at hv; cases hv
  | some d =>
    simp only [pureRun_underlying hu, Option.bind_some] at hv
    simp only [run_bind, run_zeroValue hi hzz, run_underlying hu]
    cases d <;> simp only at hv ⊢ <;> try (simp only [stuck, pureRun] at hv; cases hv)
    case struct fields =>
      simp only [pureRun_bind] at hv
      cases hm : pureRun P (fields.mapM fun f => do pure (f.offset, ← sizeOf f.type)) with
      | none => rw [hm] at hv; cases hv
      | some places =>
        rw [hm] at hv
        simp only [Option.bind_some] at hv
        split at hv
        · rename_i cells hc
          simp only [pureRun_pure] at hv; cases hv
          obtain ⟨r', a1, a2⟩ := fill_sound (φ := φ) _ ho hp (VRL_flatL hfl) (by simpa using hc)
          refine ⟨.agg r', ?_, r', rfl, by cases cells; exact a2⟩
          simp only [run_bind, pureRun_run hm w]
          rw [a1]
          rfl
        · simp only [stuck, pureRun] at hv; cases hv
    case array n elem =>
      simp only [pureRun_bind] at hv
      cases hm : pureRun P (sizeOf elem) with
      | none => rw [hm] at hv; cases hv
      | some size =>
        rw [hm] at hv
        simp only [Option.bind_some] at hv
        split at hv
        · rename_i cells hc
          simp only [pureRun_pure] at hv; cases hv
          obtain ⟨r', a1, a2⟩ := fill_sound (φ := φ) _ ho hp (VRL_flatL hfl) (by simpa using hc)
          refine ⟨.agg r', ?_, r', rfl, by cases cells; exact a2⟩
          simp only [run_bind, pureRun_run hm w]
          rw [a1]
          rfl
        · simp only [stuck, pureRun] at hv; cases hv

/-! ### calls -/
def SoundCall (W0 : World) (P : Program) (f : FuncId) (args : List Value) (h : AHeap) (K : Value → AHeap → Prop) : Prop :=
  ∀ (φ : Phi) (w : World) (args' : Array Value), Sim W0 φ h w → VRL φ args args'.toList →
    Calls P f args' w fun e w' => ∃ v' u h' φ', e = .returned v' ∧ K u h' ∧ VR φ' u v' ∧ Sim W0 φ' h' w' ∧ Ext φ h w φ' h' w'

def SoundC (c : Cfg) (W0 : World) : Prop := ∀ f args h K, c.C f args h K → SoundCall W0 c.P f args h K

theorem call_sound {W0 : World} {c : Cfg} (hC : SoundC c W0) {φ : Phi} {h : AHeap} {w : World} (S : Sim W0 φ h w) {f : FuncId} {args : List Value} {args' : Array Value} {k : Value → AHeap → List Nat → Prop} (hk : callK c f args h k)
    (ha : VRL φ args args'.toList) : Calls c.P f args' w fun e w' => ∃ v', e = .returned v' ∧ OpPost W0 φ h w k v' w' := by
  unfold callK at hk
  rw [frI_eq] at hk
  unfold callK' at hk
  obtain ⟨hc, hk⟩ := cond_prop hk
  simp only [Bool.and_eq_true] at hc
  refine (hC _ _ _ _ hk _ w args' (S.pull true hc.1) (VRL_pull hc.2 ha)).mono ?_
  rintro e w' ⟨v', u, h1, φ1, rfl, hK, hv, S1, E1⟩
  rw [frH_eq] at hK
  obtain ⟨m1, m2, m3, m4⟩ := merge S hc.1 S1 E1
  exact ⟨v', rfl, _, _, _, _, hK, m3 u v' hv, m1, m2, m4⟩

theorem entersB_run {P : Program} {f : FuncId} (h : entersB P f = true) (args : Array Value) (w : World) : (callFunc f args).run P w = .ok (.enter f args) w := by
  unfold entersB at h
  split at h
  · rename_i fn hf
    simp only [Bool.and_eq_true, Bool.not_eq_true'] at h
    obtain ⟨h1, h2⟩ := h
    have h3 : fn.body.isNone = false := by cases hb : fn.body <;> simp_all
    simp only [callFunc, run_bind, run_program, hf, h2, h3, Bool.false_eq_true, if_false, run_pure]
  · cases h

theorem evO_sound {N : Nat} {φ : Phi} {e : Env} {a : Act} (E : EnvR N φ e a) {x : Option Operand} {v : Option Value} (h : evO e x = some v) : OR φ v (x.map a.eval) := by
  cases x with
  | none => simp only [evO] at h; cases h; rfl
  | some x =>
    simp only [evO] at h
    split at h
    · cases h; exact ⟨_, rfl, ev_sound E ‹_›⟩
    · cases h

theorem evK_spec {e : Env} {x : Operand} {k : Value → Prop} (h : evK e x k) : ∃ v, ev e x = some v ∧ k v := by
  unfold evK at h
  split at h
  · exact ⟨_, ‹_›, h⟩
  · exact h.elim

theorem len_sound {φ : Phi} {P : Program} {argTypes : Array TypeId} {t ty : TypeId} {x x' : Value} {k : Value → Prop} {other : Prop} (h0 : argTypes[0]? = some t) (hk : lenK P t x k other) (hx : VR φ x x') (w : World) :
    other ∨ ∃ v, k v ∧ flat v = true ∧ (Builtin.len_ argTypes ty #[x']).run P w = .ok v w := by
  unfold lenK at hk
  split at hk
  · rename_i a n c
    split at hk
    · rename_i el hu
      right
      obtain ⟨a', c', rfl⟩ : ∃ a' c', x' = .slice a' n c' := by
        cases hs : a.spot with
        | none => exact ⟨_, _, VR_slice_none hs hx⟩
        | some s => obtain ⟨p, c', o', _, e, _⟩ := VR_slice_some hs hx; exact ⟨_, _, e⟩
      exact ⟨_, hk, rfl, by simp [Builtin.len_, h0, run_underlying hu, goInt]⟩
    · exact hk.elim
  · rename_i n c
    split at hk
    · rename_i el hu
      right
      have e : x' = .slice none n c := by simpa [VR] using hx
      subst e
      exact ⟨_, hk, rfl, by simp [Builtin.len_, h0, run_underlying hu, goInt]⟩
    · exact hk.elim
  · exact .inl hk

theorem run_resolve_builtin {P : Program} (ρ : Operand → Value) (b : Builtin) (args : Array Operand) (argTypes : Array TypeId) (ty : TypeId) (w : World) :
    (do let d ← resolve ρ { callee := .builtin b, args := args, argTypes := argTypes } ty; invoke d.target d.args : Sem Next).run P w = (builtin b argTypes ty (args.map fun | .const _ => true | _ => false) (args.map ρ)).run P w := by
  simp only [resolve, run_bind, run_pure, invoke]
  rfl

/-- Every operation. -/
theorem exec_sound {W0 : World} {c : Cfg} (hG : GOk c.G W0) (hC : SoundC c W0) {N : Nat} {φ : Phi} {e : Env} {h : AHeap} {a : Act} {w : World} (E : EnvR N φ e a) (S : Sim W0 φ h w) {o : Oper} {k : Value → AHeap → List Nat → Prop}
    (hk : execK c o e h k) : Does c.P o a w (OpPost W0 φ h w k) := by
  obtain ⟨dst, op, ty, pos, after, guard⟩ := o
  have quiet : ∀ {v v' : Value}, k v h [] → VR φ v v' → (execOp a.eval ⟨dst, op, ty, pos, after, guard⟩).run c.P w = .ok (.value v') w → Does c.P ⟨dst, op, ty, pos, after, guard⟩ a w (OpPost W0 φ h w k) :=
    fun h1 h2 h3 => .value h3 (.quiet S h1 h2)
  have pr : (∀ cs b, op ≠ .select cs b) → (pureK c.P ⟨dst, op, ty, pos, after, guard⟩ e fun v => k v h []) → Does c.P ⟨dst, op, ty, pos, after, guard⟩ a w (OpPost W0 φ h w k) := fun hs hp => by
    obtain ⟨v, h1, h2, h3⟩ := pure_sound E hs hp
    exact quiet h1 ((VR_flat φ _ _ h2).2 rfl) (h3 w)
  cases op <;> simp only [execK] at hk <;> try exact hk.elim
  case move x =>
    obtain ⟨v, h1, h2⟩ := evK_spec hk
    exact quiet h2 (ev_sound E h1) rfl
  case assign x =>
    obtain ⟨v, h1, h2⟩ := evK_spec hk
    exact quiet h2 (ev_sound E h1) rfl
  case pick x y z =>
    obtain ⟨v, h1, h2⟩ := evK_spec hk
    have hx := ev_sound E h1
    split at h2
    · rename_i t
      have e1 : a.eval x = .bool t := by simpa [VR] using hx
      cases t with
      | true =>
        obtain ⟨u, h3, h4⟩ := evK_spec h2
        exact quiet h4 (ev_sound E h3) (by simp only [execOp, run_bind, e1, asBool, run_pure, if_true])
      | false =>
        obtain ⟨u, h3, h4⟩ := evK_spec h2
        exact quiet h4 (ev_sound E h3) (by simp only [execOp, run_bind, e1, asBool, run_pure, Bool.false_eq_true, if_false])
    · exact h2.elim
  case alloc t =>
    split at hk
    · rename_i i hi
      split at hk
      · rename_i z hz
        obtain ⟨ho, hk⟩ := cond_prop hk
        simp only [Bool.and_eq_true] at ho
        exact .value (run_v (run_alloc hi hz w)) (post_alloc S (VRL_one (φ := []) ho.1 (VRL_flatL ho.2)) (VRL_flatL ho.2) hk)
      · exact hk.elim
    · exact hk.elim
  case box t x =>
    obtain ⟨v, h1, h2⟩ := evK_spec hk
    obtain ⟨ho, hk⟩ := cond_prop h2
    have hv := VR_cells ho (ev_sound E h1)
    exact .value (v := .pointer (some ⟨w.heap.size, 0, none⟩)) (w' := { w with heap := w.heap.push (.cells (a.eval x).cells t) })
      (run_v (by simp only [Instr.box, newVar, run_bind, run_newRow, run_pure])) (post_alloc S (VRL_one ho hv) hv hk)
  case build t parts =>
    split at hk
    · rename_i ps hps
      obtain ⟨hc, hk⟩ := cond_prop hk
      simp only [Bool.and_eq_true] at hc
      split at hk
      · rename_i v hv
        obtain ⟨v', a1, a2⟩ := build_sound hc.1 hc.2 (evP_sound E hps) hv w
        refine quiet hk a2 (run_v ?_)
        have : (parts.map fun (i, x) => (i, a.eval x)) = (parts.toList.map fun p => (p.1, a.eval p.2)).toArray := by
          apply Array.toList_inj.1; simp
        rw [this]; exact a1
      · exact hk.elim
    · exact hk.elim
  case buildSlice t n parts =>
    split at hk
    · rename_i ps hps
      split at hk
      · rename_i el hu
        split at hk
        · rename_i i hi
          split at hk
          · rename_i z hz
            obtain ⟨hc, hk⟩ := cond_prop hk
            simp only [Bool.and_eq_true, decide_eq_true_eq] at hc
            obtain ⟨⟨⟨c1, c2⟩, c3⟩, c4⟩ := hc
            have c3 := Nat.eq_of_beq_eq_true c3
            split at hk
            · rename_i cs hcs
              obtain ⟨ho, hk⟩ := cond_prop hk
              have hzf := flatA_toList c2
              have hz0 : VRL φ (cond (Nat.beq (n * i.size) 0) #[] ((Array.range (n * i.size)).map (z.cells[· % z.cells.size]!))).toList (cond (Nat.beq (n * i.size) 0) #[] ((Array.range (n * i.size)).map (z.cells[· % z.cells.size]!))).toList := by
                refine VRL_flatL (flatL_mem.2 fun v hv => ?_)
                cases hb : Nat.beq (n * i.size) 0 with
                | true => rw [hb] at hv; simp at hv
                | false =>
                  rw [hb] at hv
                  simp only [cond_false, Array.toList_map, List.mem_map, Array.mem_toList_iff, Array.mem_range] at hv
                  obtain ⟨j, hj, rfl⟩ := hv
                  rcases Nat.eq_zero_or_pos z.cells.size with h0 | h0
                  · rw [c3, h0, Nat.mul_zero] at hj; omega
                  · exact getElem!_flat hzf h0 j
              obtain ⟨r', a1, a2⟩ := fill_sound (φ := φ) _ c4 (evP_sound E hps) hz0 hcs
              obtain ⟨b1, b2, b3⟩ := push_cells S (fl := flatL cs.toList) (t := el) (cs := r') (us := r'.toList) (rest := []) (fr := (0, 0)) (w' := { w with heap := w.heap.push (.cells r' el) }) (List.append_nil _).symm (VRL_one ho a2) a2 id (fun j _ h => by omega) rfl rfl rfl rfl
              have hmap : (parts.map fun (i, x) => (i, a.eval x)) = (parts.toList.map fun p => (p.1, a.eval p.2)).toArray := by
                apply Array.toList_inj.1; simp
              have hsz : r'.size = n * i.size := by
                rw [fill_size _ a1]
                cases hb : Nat.beq (n * i.size) 0 with
                | true => rw [Nat.eq_of_beq_eq_true hb]; rfl
                | false => simp
              refine .value (v := .slice (some ⟨w.heap.size, 0, none⟩) n n) (w' := { w with heap := w.heap.push (.cells r' el) }) (run_v ?_) ⟨_, _, _, _, hk, ?_, b1, b2, fun u u' hu => VR_mono (push_mono φ _) u u' hu⟩
              · rw [hmap]
                have hlim : ¬ (n * i.size > 2 ^ 24) := by omega
                simp only [Instr.buildSlice, run_bind, run_underlying hu, run_sizeOf hi, if_neg hlim]
                cases hb : Nat.beq (n * i.size) 0 with
                | true =>
                  have hn := Nat.eq_of_beq_eq_true hb
                  rw [hb] at a1
                  simp only [cond_true] at a1
                  have he : (Array.range (n * i.size)).map ((#[] : Array Value)[· % (#[] : Array Value).size]!) = #[] := by rw [hn]; apply Array.toList_inj.1; simp
                  simp only [hn, if_true, run_bind, run_pure]
                  rw [hn] at he
                  rw [he, a1]
                  simp only [run_bind, run_newRow, run_pure]
                | false =>
                  have hn : ¬ (n * i.size = 0) := fun e => by rw [e] at hb; cases hb
                  rw [hb] at a1
                  simp only [cond_false] at a1
                  simp only [hn, if_false, run_bind, run_zeroValue hi hz, run_pure]
                  rw [a1]
                  simp only [run_bind, run_newRow, run_pure]
              · simp only [newAddr, VR]
                exact ⟨_, n, 0, b3, rfl, Nat.le_refl _, fun _ => ⟨rfl, by rw [show (2 * i.size + 1) / 2 = i.size from by omega, hsz]; simp⟩, fun _ => rfl⟩
            · exact hk.elim
          · exact hk.elim
        · exact hk.elim
      · exact hk.elim
    · exact hk.elim
  case load t x =>
    obtain ⟨v, h1, h2⟩ := evK_spec hk
    obtain ⟨u, u', b, a1, a2, _, a3⟩ := load_sound S hG h2 (ev_sound E h1)
    exact quiet a1 a2 (run_v (a3 w rfl))
  case store t x y =>
    obtain ⟨ad, h1, h2⟩ := evK_spec hk
    obtain ⟨v, h3, h4⟩ := evK_spec h2
    obtain ⟨ho, h5⟩ := cond_prop h4
    obtain ⟨h', w', a1, a2, a3, a4⟩ := store_sound S ho h5 (ev_sound E h1) (ev_sound E h3)
    exact ⟨.skip, w', by simp only [execOp, run_bind, a4, run_pure], _, _, _, φ, a1, (VR_flat φ _ _ rfl).2 rfl, a2, a3, fun _ _ h => h⟩
  case nilCheck x =>
    obtain ⟨v, h1, h2⟩ := evK_spec hk
    have hx := ev_sound E h1
    split at h2
    · rename_i ad
      have hx0 := hx
      obtain ⟨a', e, _⟩ := VR_addA hx
      rw [e] at hx0
      exact quiet h2 hx0 (by simp only [execOp, e, run_pure])
    · rename_i f fs cs
      have hx0 := hx
      obtain ⟨f', c', e, _, _⟩ := hx
      rw [e] at hx0
      exact quiet h2 hx0 (by simp only [execOp, e, run_pure])
    · exact h2.elim
  case binOp op t x y yt =>
    obtain ⟨v, h1, h2⟩ := evK_spec hk
    obtain ⟨u, h3, h4⟩ := evK_spec h2
    rcases bin_sound (ox := x) (oy := y) h4 (ev_sound E h1) (ev_sound E h3) with hp | ⟨r, r', a1, a2, a3⟩
    · exact pr (by simp) hp
    · exact quiet a1 a2 (run_v (a3 w))
  case unOp op t x => exact pr (by simp) hk
  case convert s d x =>
    obtain ⟨v, h1, h2⟩ := evK_spec hk
    rcases convert_sound S h2 (ev_sound E h1) with hp | ⟨r, h', r', w', φ', a1, a2, a3, a4, a5, a6⟩
    · exact pr (by simp) hp
    · exact .value (run_v a6) ⟨_, _, _, φ', a1, a2, a3, a4, a5⟩
  case makeInterface t x =>
    obtain ⟨v, h1, h2⟩ := evK_spec hk
    split at h2
    · exact h2.elim
    · rename_i d hd hu
      refine quiet h2 ⟨_, rfl, ev_sound E h1⟩ (run_v ?_)
      simp only [Instr.makeInterface, run_bind, run_underlying hu]
      cases d <;> first | rfl | exact absurd hu (hd _)
    · exact h2.elim
  case makeFunc fn first captured =>
    split at hk
    · rename_i fs cs h1 h2
      refine quiet hk ⟨(first.map a.eval), (captured.map a.eval), rfl, ?_, ?_⟩ (run_v rfl)
      · have := evL_sound E h1
        simpa [VRA] using this
      · have := evL_sound E h2
        simpa [VRA] using this
    · exact hk.elim
  case makeSlice t l cp =>
    obtain ⟨v, h1, h2⟩ := evK_spec hk
    obtain ⟨u, h3, h4⟩ := evK_spec h2
    obtain ⟨r, h', r', w', φ', a1, a2, a3, a4, a5, a6⟩ := makeSlice_sound S h4 (ev_sound E h1) (ev_sound E h3)
    exact .value (run_v a6) ⟨_, _, _, φ', a1, a2, a3, a4, a5⟩
  case slice t x lo hi mx =>
    obtain ⟨v, h1, h2⟩ := evK_spec hk
    split at h2
    · rename_i l hh m h3 h4 h5
      obtain ⟨r, r', a1, a2, a3⟩ := slice_sound S h2 (ev_sound E h1) (evO_sound E h3) (evO_sound E h4) (evO_sound E h5)
      exact quiet a1 a2 (run_v a3)
    · exact h2.elim
  case fieldAddr t x f =>
    obtain ⟨v, h1, h2⟩ := evK_spec hk
    obtain ⟨r, r', a1, a2, a3⟩ := fieldAddr_sound h2 (ev_sound E h1)
    exact quiet a1 a2 (run_v (a3 w))
  case field t x f =>
    obtain ⟨v, h1, h2⟩ := evK_spec hk
    obtain ⟨r, r', a1, a2, a3⟩ := field_sound h2 (ev_sound E h1)
    exact quiet a1 a2 (run_v (a3 w))
  case indexAddr t x ix =>
    obtain ⟨v, h1, h2⟩ := evK_spec hk
    obtain ⟨u, h3, h4⟩ := evK_spec h2
    obtain ⟨r, r', a1, a2, a3⟩ := indexAddr_sound h4 (ev_sound E h1) (ev_sound E h3)
    exact quiet a1 a2 (run_v (a3 w))
  case index t x ix =>
    obtain ⟨v, h1, h2⟩ := evK_spec hk
    obtain ⟨u, h3, h4⟩ := evK_spec h2
    obtain ⟨r, r', a1, a2, a3⟩ := index_sound h4 (ev_sound E h1) (ev_sound E h3)
    exact quiet a1 a2 (run_v (a3 w))
  case typeAssert x t u b => exact pr (by simp) hk
  case extract x i =>
    obtain ⟨v, h1, h2⟩ := evK_spec hk
    have hx := ev_sound E h1
    split at h2
    · rename_i vs
      split at h2
      · rename_i u hu
        obtain ⟨vs', e, hvs⟩ := hx
        have hvs : VRL φ vs.toList vs'.toList := by cases vs; exact hvs
        obtain ⟨u', a1, a2⟩ := VRL_get hvs hu
        refine quiet h2 a2 (run_v ?_)
        rw [e]
        have : vs'[i]? = some u' := by simpa using a1
        simp only [Instr.extract, this, run_pure]
      · exact h2.elim
    · exact h2.elim
  case call cl =>
    obtain ⟨callee, args, argTypes⟩ := cl
    split at hk
    · rename_i vs hvs
      have hargs := evL_sound E hvs
      have hargs' : VRL φ vs (args.map a.eval).toList := by simpa using hargs
      cases callee with
      | invoke r m => exact hk.elim
      | value f =>
        simp only at hk
        obtain ⟨fv, h1, h2⟩ := evK_spec hk
        have hf := ev_sound E h1
        split at h2
        · rename_i fid first captured
          obtain ⟨f', c', e, g1, g2⟩ := hf
          cases hb : entersB c.P fid with
          | false =>
            rw [hb] at h2
            exact pr (by simp) h2
          | true =>
            rw [hb] at h2
            have g1 : VRL φ first.toList f'.toList := by cases first; exact g1
            have g2 : VRL φ captured.toList c'.toList := by cases captured; exact g2
            refine ⟨.enter fid (f' ++ args.map a.eval ++ c'), w, ?_, ?_⟩
            · simp only [execOp, resolve, run_bind, e, Deferred.ofValue, run_pure, invoke]
              exact entersB_run hb _ w
            · exact call_sound hC S h2 (by simpa using VRL_append (VRL_append g1 hargs') g2)
        · exact h2.elim
      | builtin b =>
        simp only at hk
        have hrun : ∀ {r : Result Next}, (builtin b argTypes ty (args.map fun | .const _ => true | _ => false) (args.map a.eval)).run c.P w = r → (execOp a.eval ⟨dst, .call ⟨.builtin b, args, argTypes⟩, ty, pos, after, guard⟩).run c.P w = r := fun h => by
          rw [← h]; exact run_resolve_builtin a.eval b args argTypes ty w
        unfold builtinK at hk
        split at hk
        · -- len
          split at hk
          · rename_i x
            split at hk
            · rename_i t ht
              obtain ⟨u, us, e1, hx, hnil⟩ := hargs'
              simp only [VRL] at hnil
              subst hnil
              have e2 : args.map a.eval = #[u] := Array.toList_inj.1 e1
              rcases len_sound (ty := ty) ht hk hx w with hp | ⟨v, b1, b2, b3⟩
              · exact pr (by simp) hp
              · exact quiet b1 ((VR_flat φ _ _ b2).2 rfl) (hrun (by rw [e2]; exact run_v b3))
            · exact hk.elim
          · exact hk.elim
        · -- append
          split at hk
          · rename_i s x
            obtain ⟨hc, hk⟩ := cond_prop hk
            obtain ⟨u, us, e1, hs, u2, us2, e2, hx, hnil⟩ := hargs'
            simp only [VRL] at hnil
            subst hnil; subst e2
            have e3 : args.map a.eval = #[u, u2] := Array.toList_inj.1 e1
            obtain ⟨v', w', b1, b2⟩ := append_sound (ty := ty) S hc hk hs hx
            exact .value (hrun (by rw [e3]; exact run_v b1)) b2
          · exact hk.elim
        · -- copy
          split at hk
          · rename_i s x
            obtain ⟨u, us, e1, hs, u2, us2, e2, hx, hnil⟩ := hargs'
            simp only [VRL] at hnil
            subst hnil; subst e2
            have e3 : args.map a.eval = #[u, u2] := Array.toList_inj.1 e1
            obtain ⟨v, h', v', w', b1, b2, b3, b4, b5⟩ := copy_sound (ty := ty) S hk hs hx
            exact .value (hrun (by rw [e3]; exact run_v b1)) ⟨_, _, _, φ, b2, b3, b4, b5, fun _ _ h => h⟩
          · exact hk.elim
        · -- clear
          split at hk
          · rename_i x
            obtain ⟨u, us, e1, hx, hnil⟩ := hargs'
            simp only [VRL] at hnil
            subst hnil
            have e2 : args.map a.eval = #[u] := Array.toList_inj.1 e1
            obtain ⟨v, h', v', w', b1, b2, b3, b4, b5⟩ := clear_sound (ty := ty) S hk hx
            exact .value (hrun (by rw [e2]; exact run_v b1)) ⟨_, _, _, φ, b2, b3, b4, b5, fun _ _ h => h⟩
          · exact hk.elim
        · exact pr (by simp) hk
    · exact hk.elim
end Go.Am
