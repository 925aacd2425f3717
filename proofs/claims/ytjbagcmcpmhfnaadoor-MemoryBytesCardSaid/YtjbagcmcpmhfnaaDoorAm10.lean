/-
  The abstract machine, part 10: make, append, copy, clear. Own work; plain lemmas.
-/
import Derived.Test.YtjbagcmcpmhfnaaDoorAm9
namespace Go.Am
open Go

theorem wrap_i64 {n : Int} (h0 : -9223372036854775808 ≤ n) (h1 : n ≤ 9223372036854775807) : IntKind.i64.wrap n = n := by
  unfold IntKind.wrap
  simp only [IntKind.bits, IntKind.signed, Bool.true_and]
  split <;> rename_i h <;> simp at h <;> omega

theorem range_map_one (v : Value) (n : Nat) : ((Array.range n).map fun i => (#[v] : Array Value)[i % (#[v] : Array Value).size]!).toList = List.replicate n v := by
  apply List.ext_getElem?
  intro i
  simp only [Array.toList_map, Array.toList_range, List.getElem?_map, List.getElem?_replicate]
  by_cases h : i < n
  · rw [List.getElem?_range h, if_pos h]
    simp [Nat.mod_one]
  · rw [List.getElem?_eq_none (by simp; omega), if_neg h]; rfl

theorem flatL_replicate {v : Value} (h : flat v = true) (n : Nat) : flatL (List.replicate n v) = true := flatL_mem.2 fun u hu => by rw [(List.mem_replicate.1 hu).2]; exact h

theorem getElem!_flat {cs : Array Value} (h : flatL cs.toList = true) (hs : 0 < cs.size) (i : Nat) : flat cs[i % cs.size]! = true := by
  have hlt : i % cs.size < cs.size := Nat.mod_lt _ hs
  rw [getElem!_pos cs _ hlt]
  exact flatL_mem.1 h _ (by simp)

theorem flatA_toList {cs : Array Value} (h : flatA cs = true) : flatL cs.toList = true := by cases cs; exact h

theorem makeSlice_sound {W0 : World} {φ : Phi} {h : AHeap} {w : World} (S : Sim W0 φ h w) {P : Program} {t : TypeId} {lv cv lv' cv' : Value} {k : Value → AHeap → Prop} (hk : makeSliceK P t lv cv h k) (hl : VR φ lv lv') (hc : VR φ cv cv') :
    ∃ v h' v' w' φ', k v h' ∧ VR φ' v v' ∧ Sim W0 φ' h' w' ∧ Ext φ h w φ' h' w' ∧ (∀ u u', VR φ u u' → VR φ' u u') ∧ (Instr.makeSlice t lv' cv').run P w = .ok v' w' := by
  unfold makeSliceK at hk
  split at hk
  · rename_i elem l c hu
    rw [VR_int hl, VR_int hc]
    split at hk
    · rename_i inf hi
      split at hk
      · rename_i z hz
        obtain ⟨hcond, hk⟩ := cond_prop hk
        simp only [Bool.and_eq_true, decide_eq_true_eq] at hcond
        obtain ⟨⟨⟨⟨⟨⟨c1, c2⟩, c3⟩, c4⟩, c5⟩, c6⟩, c7⟩ := hcond
        have c5 := Nat.eq_of_beq_eq_true c5
        have hzf := flatA_toList c6
        obtain ⟨cs, hcs⟩ : ∃ cs : Array Value, cs = (Array.range (c.toNat * inf.size)).map (z.cells[· % z.cells.size]!) := ⟨_, rfl⟩
        have hlist : zeroRow z.cells c.toNat inf.size = cs.toList := by
          unfold zeroRow
          split
          · rename_i v hv
            have e : z.cells = #[v] := Array.toList_inj.1 (by simpa using hv)
            rw [hcs, c5, e]
            simp only [List.size_toArray, List.length_cons, List.length_nil, Nat.zero_add, Nat.mul_one]
            exact (range_map_one v _).symm
          · rw [hcs]
        rw [hlist] at hk
        have hfl : flatL cs.toList = true := by
          rw [hcs]
          refine flatL_mem.2 fun v hv => ?_
          simp only [Array.toList_map, List.mem_map, Array.mem_toList_iff, Array.mem_range] at hv
          obtain ⟨i, hi1, rfl⟩ := hv
          rcases Nat.eq_zero_or_pos z.cells.size with h0 | h0
          · rw [c5, h0, Nat.mul_zero] at hi1; omega
          · exact getElem!_flat hzf h0 i
        have hone : ∀ u ∈ cs.toList, OneC u := by
          rw [hcs]
          intro v hv
          simp only [Array.toList_map, List.mem_map, Array.mem_toList_iff, Array.mem_range] at hv
          obtain ⟨i, hi1, rfl⟩ := hv
          rcases Nat.eq_zero_or_pos z.cells.size with h0 | h0
          · rw [c5, h0, Nat.mul_zero] at hi1; omega
          · have hlt : i % z.cells.size < z.cells.size := Nat.mod_lt _ h0
            rw [getElem!_pos z.cells _ hlt]
            exact VRL_one (φ := []) c7 (VRL_flatL hzf) _ (by simp)
        obtain ⟨b1, b2, b3⟩ := push_cells S (fl := true) (t := elem) (cs := cs) (us := cs.toList) (rest := []) (fr := (0, 0)) (w' := { w with heap := w.heap.push (.cells cs elem) }) (List.append_nil _).symm hone (VRL_flatL hfl) (fun _ => hfl) (fun j _ h => by omega) rfl rfl rfl rfl
        have hsz : cs.size = c.toNat * inf.size := by rw [hcs]; simp
        refine ⟨_, _, .slice (some ⟨w.heap.size, 0, none⟩) l.toNat c.toNat, { w with heap := w.heap.push (.cells cs elem) }, _, hk, ?_, b1, b2, fun u u' hu => VR_mono (push_mono φ _) u u' hu, ?_⟩
        · simp only [newAddr, VR]
          exact ⟨_, c.toNat, 0, b3, rfl, by omega, fun _ => ⟨rfl, by rw [Nat.mul_div_cancel_left _ (by omega)]; simp; omega⟩, fun h => by omega⟩
        · have w1 : IntKind.i64.wrap l = l := wrap_i64 (by omega) (by omega)
          have w2 : IntKind.i64.wrap c = c := wrap_i64 (by omega) (by omega)
          have hroom : ∀ n : Nat, (askRoom n).run P w = .ok () w := fun n => by unfold askRoom; split <;> rfl
          have hcs2 : (Array.range (c.toNat * inf.size)).map ((if c.toNat * inf.size = 0 then (#[] : Array Value) else z.cells)[· % (if c.toNat * inf.size = 0 then (#[] : Array Value) else z.cells).size]!) = cs := by
            rw [hcs]
            by_cases hn : c.toNat * inf.size = 0
            · rw [hn]; apply Array.toList_inj.1; simp
            · simp only [if_neg hn]
          have g1 : ¬ (c < 0) := by omega
          have g2 : ¬ ((inf.bytes : Int) * c > 2 ^ 48) := by omega
          have g3 : ¬ (l < 0) := by omega
          have g4 : ¬ (l > c) := by omega
          simp only [Instr.makeSlice, run_bind, run_underlying hu, asInt, run_asIntOf, run_pure, run_typeInfo hi, w1, w2, g1, g2, g3, g4, decide_false, Bool.or_false, Bool.false_eq_true, if_false, hroom, run_sizeOf hi]
          by_cases hn : c.toNat * inf.size = 0
          · simp only [if_pos hn] at hcs2 ⊢
            simp only [run_bind, run_pure, run_newRow, hcs2]
          · simp only [if_neg hn] at hcs2 ⊢
            simp only [run_bind, run_zeroValue hi hz, run_pure, run_newRow, hcs2]
      · exact hk.elim
    · exact hk.elim
  · exact hk.elim

/-! ### append -/
theorem nodraw_heap (w : World) : ({ w with drawn := w.drawn + 1 } : World).heap = w.heap := rfl

/-- What append does where there is room. -/
theorem run_append_in {P : Program} {φ : Phi} {w : World} {argTypes : Array TypeId} {st el xt ty : TypeId} {i : TypeInfo} (h0 : argTypes[0]? = some st) (hu : P.underlying st = some (.slice el)) (hi : P.info? el = some i)
    (h1 : argTypes[1]? = some xt) (hx : (∃ e', P.underlying xt = some (.slice e')) ∨ P.underlying xt = some .string) {b : Option Addr} {sLen sCap n : Nat} {x' : Value} {l us : List Value} (src : Src P φ w x' n i.size l us) (hroom : sLen + n ≤ sCap) :
    (Builtin.append_ argTypes ty #[Value.slice b sLen sCap, x']).run P w = ((match b with | some a => storeCells (a.add (sLen * i.size)) us | none => pure () : Sem Unit) >>= fun _ => (pure (Value.slice b (sLen + n) sCap) : Sem Value)).run P w := by
  have hc := src.cells w n rfl (Nat.le_refl _)
  have hlen : us.take (n * i.size) = us := List.take_of_length_le (by rw [VRL_length src.rel, src.len]; omega)
  rw [hlen] at hc
  have hl := src.lenOf w rfl
  rcases hx with ⟨e', hx⟩ | hx
  · cases b <;> simp [Builtin.append_, h0, h1, run_underlying hu, run_underlying hx, run_sizeOf hi, hl, hc, hroom]
  · cases b <;> simp [Builtin.append_, h0, h1, run_underlying hu, run_underlying hx, run_sizeOf hi, hl, hc, hroom]

/-- What append does where there is none. -/
theorem run_append_grow' {P : Program} {φ : Phi} {w : World} {argTypes : Array TypeId} {st el xt ty : TypeId} {i : TypeInfo} {z : Value} (h0 : argTypes[0]? = some st) (hu : P.underlying st = some (.slice el)) (hi : P.info? el = some i)
    (hz : i.zero = some z) (h1 : argTypes[1]? = some xt) (hx : (∃ e', P.underlying xt = some (.slice e')) ∨ P.underlying xt = some .string) (hb : 0 < i.bytes) {b : Option Addr} {sLen sCap n : Nat} {x' : Value} {l us ol os : List Value}
    (src : Src P φ w x' n i.size l us) (old : Src P φ w (.slice b sLen sCap) sLen i.size ol os) (hgrow : sCap < sLen + n) (hfit : (sLen + n) * i.bytes ≤ 2 ^ 47) :
    ∃ cap, sLen + n ≤ cap ∧ (Builtin.append_ argTypes ty #[Value.slice b sLen sCap, x']).run P w =
      .ok (.slice (some ⟨w.heap.size, 0, none⟩) (sLen + n) cap) { w with drawn := w.drawn + 1, heap := w.heap.push (.cells ((⟨os⟩ : Array Value) ++ ((⟨us⟩ : Array Value) ++ Builtin.zeroCells z.cells (cap - (sLen + n)))) el) } := by
  obtain ⟨cap, hcap⟩ : ∃ cap, cap = (Question.appendCap (sLen + n) sCap el).cut (w.tape w.drawn (.appendCap (sLen + n) sCap el)) := ⟨_, rfl⟩
  refine ⟨cap, by rw [hcap]; exact cut_appendCap _ _ _ _, ?_⟩
  have hlen : us.take (n * i.size) = us := List.take_of_length_le (by rw [VRL_length src.rel, src.len]; omega)
  have hleno : os.take (sLen * i.size) = os := List.take_of_length_le (by rw [VRL_length old.rel, old.len]; omega)
  have hc := src.cells w.drew n rfl (Nat.le_refl _)
  have ho := old.cells w.drew sLen rfl (Nat.le_refl _)
  rw [hlen] at hc
  rw [hleno] at ho
  have hl := src.lenOf w rfl
  have hroom : ¬ (sLen + n ≤ sCap) := by omega
  have h48 : ¬ (281474976710656 < Builtin.nextslicecap (sLen + n) sCap * i.bytes) := by
    have := growslice_fits hgrow (bytes := i.bytes) (by omega); omega
  have hb0 : ¬ (i.bytes = 0) := by omega
  have hfo : (Question.appendCap (sLen + n) sCap el).forced = false := rfl
  obtain ⟨cells, hcells⟩ : ∃ c : Array Value, c = (⟨os⟩ : Array Value) ++ ((⟨us⟩ : Array Value) ++ Builtin.zeroCells z.cells (cap - (sLen + n))) := ⟨_, rfl⟩
  rw [← hcells]
  rcases hx with ⟨e', hx⟩ | hx
  · simp [Builtin.append_, h0, h1, run_underlying hu, run_underlying hx, run_sizeOf hi, run_typeInfo hi, run_zeroValue hi hz, hl, hc, ho, hroom, hb0, h48, hfo, ← hcap]
    rw [← hcells, run_newRow]; rfl
  · simp [Builtin.append_, h0, h1, run_underlying hu, run_underlying hx, run_sizeOf hi, run_typeInfo hi, run_zeroValue hi hz, hl, hc, ho, hroom, hb0, h48, hfo, ← hcap]
    rw [← hcells, run_newRow]; rfl

theorem zeroCells_size (z : Array Value) (n : Nat) : (Builtin.zeroCells z n).size = n * z.size := by simp [Builtin.zeroCells]

theorem flatL_append {a b : List Value} (h1 : flatL a = true) (h2 : flatL b = true) : flatL (a ++ b) = true :=
  flatL_mem.2 fun v hv => by rcases List.mem_append.1 hv with h | h; exact flatL_mem.1 h1 v h; exact flatL_mem.1 h2 v h

/-- The new block that append makes. -/
theorem grown_block {φ : Phi} {w : World} {P : Program} {argTypes : Array TypeId} {st el xt ty : TypeId} {i : TypeInfo} {z : Value} (h0 : argTypes[0]? = some st) (hu : P.underlying st = some (.slice el)) (hi : P.info? el = some i)
    (hz : i.zero = some z) (hzs : z.cells.size = i.size) (h1 : argTypes[1]? = some xt) (hx : (∃ e', P.underlying xt = some (.slice e')) ∨ P.underlying xt = some .string) (hb : 0 < i.bytes) {b : Option Addr} {sLen sCap n : Nat} {x' : Value} {l us ol os : List Value}
    (src : Src P φ w x' n i.size l us) (old : Src P φ w (.slice b sLen sCap) sLen i.size ol os) (hgrow : sCap < sLen + n) (hfit : (sLen + n) * i.bytes ≤ 2 ^ 47) :
    ∃ cap w' cs rest, sLen + n ≤ cap ∧ (Builtin.append_ argTypes ty #[Value.slice b sLen sCap, x']).run P w = .ok (.slice (some ⟨w.heap.size, 0, none⟩) (sLen + n) cap) w' ∧ w'.os = w.os ∧ w'.tape = w.tape ∧ w'.output = w.output ∧
      w'.heap = w.heap.push (.cells cs el) ∧ cs.toList = (os ++ us) ++ rest ∧ cs.size = cap * i.size ∧ VRL φ (ol ++ l) (os ++ us) ∧ (∀ u ∈ os ++ us, OneC u) := by
  obtain ⟨cap, hc, hr⟩ := run_append_grow' (ty := ty) h0 hu hi hz h1 hx hb src old hgrow hfit
  refine ⟨cap, _, (⟨os⟩ : Array Value) ++ ((⟨us⟩ : Array Value) ++ Builtin.zeroCells z.cells (cap - (sLen + n))), (Builtin.zeroCells z.cells (cap - (sLen + n))).toList, hc, hr, rfl, rfl, rfl, rfl, by simp, ?_, VRL_append old.rel src.rel, ?_⟩
  · have a1 := VRL_length old.rel
    have a2 := VRL_length src.rel
    have a3 := old.len
    have a4 := src.len
    simp only [Array.size_append, List.size_toArray, zeroCells_size, hzs]
    rw [a1, a2, a3, a4, ← Nat.add_mul, ← Nat.add_mul]
    congr 1
    omega
  · intro u hu
    rcases List.mem_append.1 hu with h | h
    · exact old.one u h
    · exact src.one u h

theorem setCells_eq : ∀ (x L : List Value) (k : Nat), k + x.length ≤ L.length → setCells L k x = L.take k ++ (x ++ L.drop (k + x.length))
  | [], L, k, _ => by simp [setCells]
  | v :: vs, L, k, h => by
    simp only [List.length_cons] at h
    rw [setCells, setCells_eq vs (L.set k v) (k + 1) (by simp; omega)]
    rw [List.take_succ_eq_append_getElem (by simp; omega), List.take_set, List.drop_set_of_lt (by omega)]
    simp only [List.getElem_set_self, List.append_assoc, List.length_cons]
    rw [show (L.take k).set k v = L.take k from List.set_eq_of_length_le (by simp; omega)]
    simp only [List.cons_append, List.nil_append]
    rw [show k + 1 + vs.length = k + (vs.length + 1) from by omega]

theorem append_sound {W0 : World} {φ : Phi} {h : AHeap} {w : World} (S : Sim W0 φ h w) {P : Program} {argTypes : Array TypeId} {ty : TypeId} {s s' x x' : Value} {k : Value → AHeap → List Nat → Prop}
    (h1 : (match argTypes[1]? with | some xt => (match P.underlying xt with | some (.slice _) => true | some .string => true | _ => false) | none => false) = true)
    (hk : appendK P argTypes s x h k) (hs : VR φ s s') (hx : VR φ x x') : ∃ v' w', (Builtin.append_ argTypes ty #[s', x']).run P w = .ok v' w' ∧ OpPost W0 φ h w k v' w' := by
  obtain ⟨xt, hxt, hxu⟩ : ∃ xt, argTypes[1]? = some xt ∧ ((∃ e', P.underlying xt = some (.slice e')) ∨ P.underlying xt = some .string) := by
    split at h1
    · rename_i xt hxt
      refine ⟨xt, hxt, ?_⟩
      split at h1
      · exact .inl ⟨_, ‹_›⟩
      · exact .inr ‹_›
      · cases h1
    · cases h1
  unfold appendK at hk
  split at hk
  rotate_left
  · exact hk.elim
  rename_i st h0
  split at hk
  rotate_left
  · exact hk.elim
  rename_i el hu
  split at hk
  rotate_left
  · exact hk.elim
  rename_i inf hi
  have hk2 := cond_prop hk
  clear hk
  obtain ⟨hcond, hk⟩ := hk2
  simp only [Bool.and_eq_true] at hcond
  obtain ⟨⟨hes, hby⟩, hzz⟩ := hcond
  have hes : 0 < inf.size := by simpa [Nat.blt_eq] using hes
  have hby : 0 < inf.bytes := by simpa [Nat.blt_eq] using hby
  obtain ⟨z, hz, hzs⟩ : ∃ z, inf.zero = some z ∧ z.cells.size = inf.size := by
    split at hzz
    · exact ⟨_, ‹_›, Nat.eq_of_beq_eq_true hzz⟩
    · cases hzz
  have key : ∀ {new us : List Value} {flN : Bool} {n : Nat}, (flN = true → flatL new = true) → Src P φ w x' n inf.size new us →
      appendF inf.size inf.bytes el s h k new flN n → ∃ v' w', (Builtin.append_ argTypes ty #[s', x']).run P w = .ok v' w' ∧ OpPost W0 φ h w k v' w' := by
    clear hk
    intro new us flN n hflN src hk
    -- a new block
    have fresh : ∀ {b : Option Addr} {sLen sCap : Nat} {ol os : List Value} {fl : Bool}, Src P φ w (.slice b sLen sCap) sLen inf.size ol os → sCap < sLen + n → (sLen + n) * inf.bytes ≤ 2 ^ 47 → (fl = true → flatL (ol ++ new) = true) →
        k (.slice (some (newAddr h)) (sLen + n) (2 * inf.size)) (h ++ [.cells fl (ol ++ new) el false]) [] →
        ∃ v' w', (Builtin.append_ argTypes ty #[.slice b sLen sCap, x']).run P w = .ok v' w' ∧ OpPost W0 φ h w k v' w' := by
      intro b sLen sCap ol os fl old hg hfit hfl hk
      obtain ⟨cap, w', cs, rest, a1, a2, a3, a4, a5, a6, a7, a8, a9, a10⟩ := grown_block (ty := ty) h0 hu hi hz hzs hxt hxu hby src old hg hfit
      obtain ⟨b1, b2, b3⟩ := push_cells S (fl := fl) (t := el) a7 a10 a9 hfl (fun j _ h => by simp only at h; omega) a3 a4 a5 a6
      refine ⟨_, w', a2, _, _, _, _, hk, ?_, b1, b2, fun u u' hu => VR_mono (push_mono φ _) u u' hu⟩
      simp only [newAddr, VR]
      refine ⟨_, cap, 0, b3, rfl, a1, fun _ => ⟨rfl, ?_⟩, fun h => by omega⟩
      rw [Nat.mul_div_cancel_left _ (by omega), a8]; simp
    unfold appendF at hk
    split at hk
    · have e : s' = .slice none 0 0 := by simpa [VR] using hs
      subst e
      obtain ⟨hfit, hk⟩ := cond_prop hk
      simp only [decide_eq_true_eq] at hfit
      cases hn : Nat.beq n 0 with
      | true =>
        rw [hn] at hk
        have hn := Nat.eq_of_beq_eq_true hn
        subst hn
        have hr := run_append_in (ty := ty) (b := none) (sLen := 0) (sCap := 0) h0 hu hi hxt hxu src (Nat.le_refl _)
        exact ⟨_, w, hr, OpPost.quiet S hk ((VR_flat φ _ _ rfl).2 rfl)⟩
      | false =>
        rw [hn] at hk
        have hn0 : n ≠ 0 := fun e => by subst e; simp at hn
        exact fresh (src_nil P φ w inf.size 0) (by omega) (by simpa using hfit) (by simpa using hflN) (by simpa using hk)
    · rename_i a len cc
      split at hk
      · rename_i sp hsp
        obtain ⟨p, c', o', hp, rfl, g1, g2, g3⟩ := VR_slice_some hsp hs
        split at hk
        · rename_i fl vs t mv hob
          have hk2 := cond_prop hk
          clear hk
          obtain ⟨hc, hk⟩ := hk2
          simp only [Bool.and_eq_true, decide_eq_true_eq] at hc
          obtain ⟨⟨⟨c1, c2⟩, c3⟩, c4⟩ := hc
          have c1 := Nat.eq_of_beq_eq_true c1
          have c2 := Nat.eq_of_beq_eq_true c2
          subst c2
          obtain ⟨hbase, hfl, cs, fr, h4, h5, h6, pre, us0, rest, h7, h9, h10, h8⟩ := S.blk _ _ p hob hp
          have old : Src P φ w (.slice (some ⟨p.b, o', none⟩) len c') len inf.size (cellsAt vs a.off (len * inf.size)) ((cs.toList.drop (p.sh + a.off)).take (len * inf.size)) := src_mk c3 ⟨_, _, h4⟩ h7 h9 h10 h8 g1 (fun h => (g2 h).1)
          have hflc : (fl && flN) = true → flatL (cellsAt vs a.off (len * inf.size) ++ new) = true := fun hf => by
            simp only [Bool.and_eq_true] at hf
            exact flatL_append (flatL_mem.2 fun v hv => flatL_mem.1 (hfl hf.1) v (List.mem_of_mem_drop (List.mem_of_mem_take hv))) (hflN hf.2)
          have hlive : liveB h a.block = true := by simp [liveB, hob, AObj.liveB]
          have hlt := liveB_lt hlive
          have hlu := VRL_length h8
          have hsz : cs.size = pre.length + (us0.length + rest.length) := by rw [← Array.length_toList, h7]; simp
          have hset : ∀ q : PB, (φ.set a.block q)[a.block]? = some q := fun q => List.getElem?_set_self (by rw [S.len]; exact hlt)
          have hpz : ∀ q : PB, ∀ u u', VR φ u u' → VR (φ.set a.block q) (pzVs [a.block] u) u' := fun q u u' hu =>
            VR_pz (fun j => memB j [a.block]) (fun j r hj hr => by
              have hne : a.block ≠ j := fun e => by subst e; simp [memB] at hj
              rw [List.getElem?_set_ne hne]; exact hr) u u' hu
          have hrel : ∀ {q : PB} {y : List Value}, VRL φ (cellsAt vs a.off (len * inf.size) ++ new) y → VRL (φ.set a.block q) (cond (fl && flN) (cellsAt vs a.off (len * inf.size) ++ new) (pzL (fun j => Nat.beq j a.block) (cellsAt vs a.off (len * inf.size) ++ new))) y := by
            intro q y hy
            cases hf : fl && flN with
            | true => exact (VRL_flat _ _ _ (hflc hf)).2 ((VRL_flat _ _ _ (hflc hf)).1 hy)
            | false => exact VRL_pz (fun j => Nat.beq j a.block) (fun j r hj hr => by
                have hne : a.block ≠ j := fun e => by subst e; simp at hj
                rw [List.getElem?_set_ne hne]; exact hr) _ _ hy
          have hflc' : (fl && flN) = true → flatL (cond (fl && flN) (cellsAt vs a.off (len * inf.size) ++ new) (pzL (fun j => Nat.beq j a.block) (cellsAt vs a.off (len * inf.size) ++ new))) = true := fun hf => by
            rw [hf]; exact hflc hf
          have hboth : VRL φ (cellsAt vs a.off (len * inf.size) ++ new) ((cs.toList.drop (p.sh + a.off)).take (len * inf.size) ++ us) := VRL_append old.rel src.rel
          have hone : ∀ u ∈ (cs.toList.drop (p.sh + a.off)).take (len * inf.size) ++ us, OneC u := fun u hu => by
            rcases List.mem_append.1 hu with h | h
            · exact old.one u h
            · exact src.one u h
          have hlus : us.length = n * inf.size := by rw [VRL_length src.rel, src.len]
          have hlvs : p.sh + a.off + len * inf.size ≤ cs.size := by omega
          by_cases hroom : len + n ≤ c'
          · have hr := run_append_in (ty := ty) (b := some ⟨p.b, o', none⟩) h0 hu hi hxt hxu src hroom
            have step : ∃ w' cs', (storeCells ((⟨p.b, o', none⟩ : Addr).add (len * inf.size)) us).run P w = .ok () w' ∧ Wrote w w' p.b ∧ w'.heap[p.b]? = some (.cells cs' t fr) ∧ cs'.size = cs.size ∧
                cs'.toList = cs.toList.take (p.sh + a.off) ++ (((cs.toList.drop (p.sh + a.off)).take (len * inf.size) ++ us) ++ cs.toList.drop (p.sh + a.off + len * inf.size + us.length)) := by
              by_cases hc0 : c' = 0
              · have hn0 : n = 0 := by omega
                have hl0 : len = 0 := by omega
                have : us = [] := List.eq_nil_of_length_eq_zero (by rw [hlus, hn0, Nat.zero_mul])
                subst this
                refine ⟨w, cs, rfl, Wrote.refl _ _, h4, rfl, ?_⟩
                rw [hl0]; simp
              · obtain ⟨e1, e2⟩ := g2 hc0
                rw [c1] at e2
                have hle : (len + n) * inf.size ≤ c' * inf.size := Nat.mul_le_mul_right _ hroom
                rw [Nat.add_mul] at hle
                obtain ⟨w', cs', r1, r2, r3, r4, r5⟩ := run_storeCells (P := P) (o' + len * inf.size) us w cs 0 h4 (by omega) h6 src.one
                refine ⟨w', cs', by rw [add_none]; exact r1, r2, r3, r4, ?_⟩
                rw [r5, Nat.add_zero, e1, setCells_eq _ _ _ (by simp only [Array.length_toList]; omega), List.take_add]
                simp only [List.append_assoc]
            obtain ⟨w', cs', r1, r2, r3, r4, r5⟩ := step
            refine ⟨.slice (some ⟨p.b, o', none⟩) (len + n) c', w', hr.trans (by rw [run_bind]; dsimp only; rw [r1]; rfl), _, _, _, φ.set a.block ⟨p.b, p.sz, p.sh + a.off⟩, hk, ?_,
              S.moveIn hlive hp _ _ rfl r2.os r2.tape r2.out r2.size r2.rest ⟨hbase, hflc', cs', fr, r3, r4.trans h5, fun j hj => h6 j (by omega), _, _, _, r5, ?_, hone, hrel hboth⟩,
              Ext.moveIn S hlive hp _ _ rfl r2.size r2.rest rfl, hpz _⟩
            · simp only [VR]
              refine ⟨_, c', o', hset _, rfl, hroom, fun h => ?_, fun h => by omega⟩
              obtain ⟨e1, e2⟩ := g2 h
              rw [c1] at e2
              rw [Nat.mul_div_cancel_left _ (by omega)]
              exact ⟨by simpa using e1, by simpa using e2⟩
            · rw [List.length_take, Array.length_toList]; show min (p.sh + a.off) cs.size = p.sh + a.off; omega
          · obtain ⟨cap, w', cs2, rest2, a1, a2, a3, a4, a5, a6, a7, a8, a9, a10⟩ := grown_block (ty := ty) h0 hu hi hz hzs hxt hxu hby src old (by omega) c4
            refine ⟨_, w', a2, _, _, _, φ.set a.block ⟨w.heap.size, cs2.size, 0⟩, hk, ?_,
              S.move hlt _ _ _ rfl a3 a4 a5 a6 ⟨S.size, hflc', cs2, (0, 0), by rw [a6]; simp, rfl, fun j _ h => by simp only at h; omega, [], _, rest2, a7, rfl, a10, hrel hboth⟩,
              Ext.move S hlt _ _ _ rfl a6 rfl, hpz _⟩
            simp only [VR]
            refine ⟨_, cap, 0, hset _, rfl, a1, fun _ => ⟨rfl, ?_⟩, fun h => by omega⟩
            rw [Nat.mul_div_cancel_left _ (by omega), a8]; simp
        · rename_i vs t hob
          obtain ⟨hc, hk⟩ := cond_prop hk
          simp only [Bool.and_eq_true, decide_eq_true_eq] at hc
          obtain ⟨⟨⟨c1, c2⟩, c3⟩, c4⟩ := hc
          have c1 := Nat.eq_of_beq_eq_true c1
          obtain ⟨_, hfl, h10, cs, fr, h4, _, pre, rest, h7, h9⟩ := S.blk _ _ p hob hp
          have old : Src P φ w (.slice (some ⟨p.b, o', none⟩) len c') len inf.size (cellsAt vs a.off (len * inf.size)) ((cs.toList.drop (p.sh + a.off)).take (len * inf.size)) := src_mk c2 ⟨_, _, h4⟩ h7 h9 h10 (VRL_flatL hfl) g1 (fun h => (g2 h).1)
          have := g3 c1
          exact fresh old (by omega) c4 (fun hf => flatL_append (flatL_mem.2 fun v hv => flatL_mem.1 hfl v (List.mem_of_mem_drop (List.mem_of_mem_take hv))) (hflN hf)) hk
        · exact hk.elim
      · exact hk.elim
    · exact hk.elim
  split at hk
  · rename_i b
    obtain ⟨hm0, hk⟩ := cond_prop hk
    have hm0 := Nat.eq_of_beq_eq_true hm0
    have e : x' = .string b := by simpa [VR] using hx
    subst e
    exact key (fun _ => bytesV_flat b) (by rw [hm0]; exact src_string P φ w b) hk
  · rename_i a n cc
    obtain ⟨l, fl, us, b, c', a1, a2, a3, a4⟩ := contents_sound (P := P) S hk hx
    exact key a2 a3 a1
  · exact hk.elim
end Go.Am
