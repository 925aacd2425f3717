/-
  The abstract machine, part 9: slice expressions, bytes and strings, make, append, copy, clear. Own work; plain lemmas.
-/
import Derived.Test.YtjbagcmcpmhfnaaDoorAm8
import Derived.Laws.Append
import Derived.Laws.BytesString
namespace Go.Am
open Go

theorem slice_sound {W0 : World} {φ : Phi} {P : Program} {t : TypeId} {x x' : Value} {lo hi mx lo' hi' mx' : Option Value} {h : AHeap} {w : World} (S : Sim W0 φ h w) {k : Value → Prop} (hk : sliceK P t x lo hi mx h k)
    (hx : VR φ x x') (hl : OR φ lo lo') (hh : OR φ hi hi') (hm : OR φ mx mx') : ∃ v v', k v ∧ VR φ v v' ∧ (Instr.sliceAt t x' lo' hi' mx').run P w = .ok v' w := by
  unfold sliceK at hk
  simp only [mul1_eq] at hk
  split at hk
  · rename_i s hu
    split at hk
    · cases hm
      have e : x' = .string s := by simpa [VR] using hx
      subst e
      obtain ⟨l, hh', h1, h2, h3, h4⟩ := bounds_sound (P := P) (isSlice := false) hk hl hh (Nat.le_refl _) w
      refine ⟨_, _, h1, (VR_flat φ _ _ rfl).2 rfl, ?_⟩
      simp only [Instr.sliceAt, run_bind, run_underlying hu, Instr.slice, Option.isSome_none, Bool.false_eq_true, if_false, run_pure, h4]
    · exact hk.elim
  · rename_i elem a len cc hu
    split at hk
    · rename_i s hs
      split at hk
      · rename_i inf hi0
        obtain ⟨hes, hk⟩ := cond_prop hk
        have hes := Nat.eq_of_beq_eq_true hes
        obtain ⟨p, c', o', hp, rfl, h1, h2, h3⟩ := VR_slice_some hs hx
        have fin : ∀ {l hh m fl : Nat}, l ≤ hh → hh ≤ m → m ≤ c' → (fl = 1 → hh = m) → fl < 2 →
            VR φ (.slice (some (addA a (l * inf.size))) (hh - l) (2 * inf.size + fl)) (.slice (if m = l then some ⟨p.b, o', none⟩ else (some ⟨p.b, o', none⟩ : Option Addr).map (·.add (l * inf.size))) (hh - l) (m - l)) := by
          intro l hh m fl a1 a2 a3 a4 a5
          have hd : (2 * inf.size + fl) / 2 = inf.size := by omega
          have hmod : (2 * inf.size + fl) % 2 = fl := by omega
          simp only [addA, add0_eq, VR, hs, hd, hmod]
          by_cases e : m = l
          · subst e
            rw [if_pos rfl]
            exact ⟨p, _, o', hp, rfl, by omega, fun h => absurd (Nat.sub_self m) h, fun h => by have := a4 h; omega⟩
          · rw [if_neg e]
            simp only [Option.map_some, add_none]
            refine ⟨p, _, _, hp, rfl, by omega, fun _ => ?_, fun h => by have := a4 h; omega⟩
            obtain ⟨b1, b2⟩ := h2 (by omega)
            rw [hes] at b2
            have : c' * inf.size = l * inf.size + (c' - l) * inf.size := by rw [← Nat.add_mul]; congr 1; omega
            have h3 : (m - l) * inf.size ≤ (c' - l) * inf.size := Nat.mul_le_mul_right _ (by omega)
            omega
        split at hk
        · cases hm
          obtain ⟨l, hh', a1, a2, a3, a4⟩ := bounds_sound (P := P) (isSlice := true) hk hl hh h1 w
          have hfl : (cond (Nat.beq hh' len) (cc % 2) 0) < 2 := by cases Nat.beq hh' len <;> simp <;> omega
          by_cases hx1 : cond (Nat.beq hh' len) (cc % 2) 0 = 1
          · have hb : Nat.beq hh' len = true := by cases e : Nat.beq hh' len <;> simp [e] at hx1 ⊢
            have hb' := Nat.eq_of_beq_eq_true hb
            rw [hb, cond_true] at hx1
            have := h3 hx1
            refine ⟨_, _, a1, fin (m := c') a2 (by omega) (Nat.le_refl _) (fun _ => by omega) hfl, ?_⟩
            simp only [Instr.sliceAt, run_bind, run_underlying hu, Instr.slice, a4, run_sizeOf hi0, run_pure]
          · refine ⟨_, _, a1, fin (m := c') a2 (by omega) (Nat.le_refl _) (fun h => absurd h hx1) hfl, ?_⟩
            simp only [Instr.sliceAt, run_bind, run_underlying hu, Instr.slice, a4, run_sizeOf hi0, run_pure]
        · rename_i km m _
          obtain ⟨mv, rfl, hmv⟩ := hm
          rw [VR_int hmv]
          obtain ⟨hc, hk⟩ := cond_prop hk
          simp only [Bool.and_eq_true, decide_eq_true_eq] at hc
          obtain ⟨l, hh', a1, a2, a3, a4⟩ := bounds3_sound (P := P) (isSlice := true) (len := len) (km := km) hc.1.1 (show m ≤ (c' : Int) by omega) hc.2 hk hl hh w
          refine ⟨_, _, a1, fin (m := m.toNat) a2 a3 (by omega) (fun h => ?_) (by cases Nat.beq hh' m.toNat <;> simp), ?_⟩
          · cases e : Nat.beq hh' m.toNat
            · rw [e] at h; cases h
            · exact Nat.eq_of_beq_eq_true e
          · simp only [Instr.sliceAt, run_bind, run_underlying hu, Instr.slice, a4, run_sizeOf hi0, run_pure]
        · exact hk.elim
      · exact hk.elim
    · exact hk.elim
  · rename_i elem hu
    split at hk
    · rename_i inf hi0
      cases hm
      have e : x' = .slice none 0 0 := by simpa [VR] using hx
      subst e
      obtain ⟨l, hh', h1, h2, h3, h4⟩ := bounds_sound (P := P) (isSlice := true) hk hl hh (Nat.le_refl 0) w
      refine ⟨_, _, h1, (VR_flat φ _ _ rfl).2 rfl, ?_⟩
      have el : l = 0 := by omega
      have eh : hh' = 0 := by omega
      subst el; subst eh
      simp only [Instr.sliceAt, run_bind, run_underlying hu, Instr.slice, h4, run_sizeOf hi0, run_pure, if_true, Nat.sub_self]
    · exact hk.elim
  · rename_i n elem a hu
    split at hk
    · rename_i s hs
      split at hk
      · rename_i inf hi0
        split at hk
        · rename_i fl vs ty mv ho
          obtain ⟨hc, hk⟩ := cond_prop hk
          simp only [decide_eq_true_eq] at hc
          obtain ⟨p, hp, rfl⟩ := VR_ptr_some hs hx
          cases hm
          obtain ⟨l, hh', a1, a2, a3, a4⟩ := bounds_sound (P := P) (isSlice := false) hk hl hh (Nat.le_refl n) w
          obtain ⟨_, _, cs, fr, h4, h5, _, pre, us, rest, h7, h9, _, h8⟩ := S.blk _ _ p ho hp
          have hlu := VRL_length h8
          have hsz : cs.size = pre.length + (us.length + rest.length) := by rw [← Array.length_toList, h7]; simp
          refine ⟨_, .slice (some (if n = l then ⟨p.b, p.sh + a.off, none⟩ else (⟨p.b, p.sh + a.off, none⟩ : Addr).add (l * inf.size))) (hh' - l) (n - l), a1, ?_, ?_⟩
          · have hd : (2 * inf.size + cond (Nat.beq hh' n) 1 0) / 2 = inf.size := by cases Nat.beq hh' n <;> simp <;> omega
            have hmod : (2 * inf.size + cond (Nat.beq hh' n) 1 0) % 2 = cond (Nat.beq hh' n) 1 0 := by cases Nat.beq hh' n <;> simp <;> omega
            simp only [addA, add0_eq, VR, hs, hd, hmod]
            by_cases e : n = l
            · rw [if_pos e]
              exact ⟨p, _, _, hp, rfl, by omega, fun h => by omega, fun _ => by omega⟩
            · rw [if_neg e, add_none]
              refine ⟨p, _, _, hp, rfl, by omega, fun _ => ⟨by omega, ?_⟩, fun h => ?_⟩
              · have : n * inf.size = l * inf.size + (n - l) * inf.size := by rw [← Nat.add_mul]; congr 1; omega
                omega
              · cases e : Nat.beq hh' n
                · rw [e] at h; cases h
                · have := Nat.eq_of_beq_eq_true e; omega
          · simp only [Instr.sliceAt, run_bind, run_underlying hu, Instr.sureAddr, run_pure, a4, run_sizeOf hi0]
        · exact hk.elim
      · exact hk.elim
    · exact hk.elim
  · exact hk.elim

/-! ### contents -/
/-- x' is a slice or a string of n elements, which are us. -/
structure Src (P : Program) (φ : Phi) (w : World) (x' : Value) (n es : Nat) (l us : List Value) : Prop where
  rel : VRL φ l us
  one : ∀ u ∈ us, OneC u
  len : l.length = n * es
  lenOf : ∀ w2 : World, w2.heap = w.heap → (Builtin.lenOf x').run P w2 = .ok n w2
  cells : ∀ (w2 : World) (m : Nat), w2.heap = w.heap → m ≤ n → (Builtin.firstCells es m x').run P w2 = .ok ⟨us.take (m * es)⟩ w2

theorem bytesV_one (s : ByteArray) : ∀ u ∈ bytesV s, OneC u := fun v hv => by simp only [bytesV, List.mem_map] at hv; obtain ⟨_, _, rfl⟩ := hv; exact ⟨by simp, by simp⟩
theorem src_string (P : Program) (φ : Phi) (w : World) (s : ByteArray) : Src P φ w (.string s) s.size 1 (bytesV s) (bytesV s) where
  rel := VRL_flatL (flatL_mem.2 fun v hv => by simp only [bytesV, List.mem_map] at hv; obtain ⟨_, _, rfl⟩ := hv; rfl)
  one := bytesV_one s
  len := by simp [bytesV]
  lenOf _ _ := rfl
  cells w2 m _ hm := by
    simp only [Builtin.firstCells, run_pure]
    congr 1
    apply Array.toList_inj.1
    simp only [Array.toList_map, bytesV, Nat.mul_one, ← List.map_take]
    congr 1
    rw [ByteArray.data_extract, Array.toList_extract]
    simp

theorem bytesV_flat (s : ByteArray) : flatL (bytesV s) = true := flatL_mem.2 fun v hv => by simp only [bytesV, List.mem_map] at hv; obtain ⟨_, _, rfl⟩ := hv; rfl

theorem src_mk {P : Program} {φ : Phi} {w : World} {vs : List Value} {cs : Array Value} {pre us rest : List Value} {p : PB} {off o' c' n es : Nat} (hle : off + n * es ≤ vs.length) (hr : Row w p.b cs) (hcs : cs.toList = pre ++ (us ++ rest))
    (hp : pre.length = p.sh) (h1 : ∀ u ∈ us, OneC u) (hv : VRL φ vs us) (hn : n ≤ c') (ho : c' ≠ 0 → o' = p.sh + off) :
    Src P φ w (.slice (some ⟨p.b, o', none⟩) n c') n es (cellsAt vs off (n * es)) ((cs.toList.drop (p.sh + off)).take (n * es)) := by
  obtain ⟨g1, g2⟩ := row_cells hcs hp hv hle
  have hl := VRL_length hv
  refine ⟨g1, fun u hu => ?_, by simp only [cellsAt, List.length_take, List.length_drop]; omega, fun _ _ => rfl, fun w2 m hw hm => ?_⟩
  · have : (cs.toList.drop (p.sh + off)).take (n * es) = (us.drop off).take (n * es) := by
      rw [hcs, List.drop_append, List.drop_eq_nil_of_le (by omega), List.nil_append, show p.sh + off - pre.length = off from by omega, List.drop_append, List.take_append_of_le_length (by simp; omega)]
    rw [this] at hu
    exact h1 u (List.mem_of_mem_drop (List.mem_of_mem_take hu))
  · have hms : m * es ≤ n * es := Nat.mul_le_mul_right _ hm
    simp only [Builtin.firstCells]
    rw [List.take_take, Nat.min_eq_left hms]
    by_cases hc : c' = 0
    · have : m * es = 0 := by rw [show m = 0 from by omega, Nat.zero_mul]
      rw [this, List.take_zero]; rfl
    · rw [ho hc]
      have hr2 : Row w2 p.b cs := by obtain ⟨t, fr, h⟩ := hr; exact ⟨t, fr, by rw [hw]; exact h⟩
      exact run_loadCells hr2 (by omega)
theorem src_nil (P : Program) (φ : Phi) (w : World) (es c : Nat) : Src P φ w (.slice none 0 c) 0 es [] [] :=
  ⟨rfl, by simp, by simp, fun _ _ => rfl, fun w2 m _ hm => by rw [List.take_nil]; rfl⟩

/-- What a slice's contents are in the world. -/
theorem contents_sound {W0 : World} {φ : Phi} {h : AHeap} {w : World} (S : Sim W0 φ h w) {P : Program} {a : Option Addr} {n c es : Nat} {x' : Value} {k : List Value → Bool → Prop} (hk : contents h (.slice a n c) es k)
    (hx : VR φ (.slice a n c) x') : ∃ l fl us b c', k l fl ∧ (fl = true → flatL l = true) ∧ Src P φ w x' n es l us ∧ x' = .slice b n c' := by
  unfold contents at hk
  split at hk
  · rename_i e1
    cases e1
    have e : x' = .slice none 0 c := by simpa [VR] using hx
    subst e
    exact ⟨[], true, [], none, c, hk, fun _ => rfl, src_nil _ _ _ _ _, rfl⟩
  · rename_i a0 n0 c0 e1
    cases e1
    split at hk
    · rename_i s hs
      obtain ⟨p, c', o', hp, rfl, h1, h2, h3⟩ := VR_slice_some hs hx
      split at hk
      · rename_i fl vs ty mv ho
        obtain ⟨hc, hk⟩ := cond_prop hk
        simp only [decide_eq_true_eq] at hc
        obtain ⟨_, hfl, cs, fr, h4, _, _, pre, us, rest, h7, h9, h10, h8⟩ := S.blk _ _ p ho hp
        exact ⟨_, fl, _, _, _, hk, fun hf => flatL_mem.2 fun v hv => flatL_mem.1 (hfl hf) v (List.mem_of_mem_drop (List.mem_of_mem_take hv)), src_mk hc ⟨_, _, h4⟩ h7 h9 h10 h8 h1 (fun h => (h2 h).1), rfl⟩
      · rename_i vs ty ho
        obtain ⟨hc, hk⟩ := cond_prop hk
        simp only [decide_eq_true_eq] at hc
        obtain ⟨_, hfl, h10, cs, fr, h4, _, pre, rest, h7, h9⟩ := S.blk _ _ p ho hp
        exact ⟨_, true, _, _, _, hk, fun _ => flatL_mem.2 fun v hv => flatL_mem.1 hfl v (List.mem_of_mem_drop (List.mem_of_mem_take hv)), src_mk hc ⟨_, _, h4⟩ h7 h9 h10 (VRL_flatL hfl) h1 (fun h => (h2 h).1), rfl⟩
      · exact hk.elim
    · exact hk.elim
  · exact hk.elim

/-! ### bytes and strings -/
theorem modify_push {α : Type} (a : Array α) (x : α) (f : α → α) : (a.push x).modify a.size f = a.push (f x) := by
  apply Array.ext_getElem?
  intro i
  rw [Array.getElem?_modify, Array.getElem?_push, Array.getElem?_push]
  by_cases e : i = a.size
  · simp [e]
  · rw [if_neg e, if_neg (fun h => e h.symm), if_neg e]

theorem elemIs_spec {P : Program} {t : TypeId} {k : IntKind} (h : elemIs P t k = true) : ∃ e, P.underlying t = some (.slice e) ∧ P.underlying e = some (.int k) ∧ elemOfSlice P t = e := by
  unfold elemIs at h
  split at h
  · rename_i e hu
    split at h
    · rename_i k' hk
      simp only [decide_eq_true_eq] at h
      subst h
      exact ⟨e, hu, hk, by simp [elemOfSlice, hu]⟩
    · cases h
  · cases h
theorem isStringT_spec {P : Program} {t : TypeId} (h : isStringT P t = true) : P.underlying t = some .string := by
  unfold isStringT at h
  split at h
  · assumption
  · cases h

theorem foldl_push_bytes : ∀ (ns : List Int) (s : ByteArray), ns.foldl (fun r n => r.push (UInt8.ofNat n.toNat)) s = ⟨(s.data.toList ++ ns.map fun n => UInt8.ofNat n.toNat).toArray⟩
  | [], s => by simp
  | n :: ns, s => by
    rw [List.foldl_cons, foldl_push_bytes ns]
    congr 1
    apply Array.toList_inj.1
    simp [ByteArray.push]

theorem all_u8 : ∀ (l : List Value), l.all (isInt .u8) = true → l = (l.map intOf).map (Value.int .u8)
  | [], _ => rfl
  | v :: vs, h => by
    simp only [List.all_cons, Bool.and_eq_true] at h
    rw [List.map_cons, List.map_cons, ← all_u8 vs h.2]
    congr 1
    cases v <;> simp only [isInt] at h <;> first | (have := h.1; cases this; done) | skip
    rename_i k n
    simp only [decide_eq_true_eq] at h
    rw [h.1]; rfl

theorem run_choose {P : Program} (q : Question) (hq : q.forced = false) (w : World) : (choose q).run P w = .ok (q.cut (w.tape w.drawn q)) { w with drawn := w.drawn + 1 } := by
  simp only [choose, Sem.run, hq, Bool.false_eq_true, if_false]

theorem cut_appendCap (need old : Nat) (e : TypeId) (t : Nat) : need ≤ (Question.appendCap need old e).cut t := by simp [Question.cut]

/-- A string's bytes in a new row. -/
theorem stringToBytes_run {P : Program} (e : TypeId) (s : ByteArray) (w : World) : ∃ cap w' cs, s.size ≤ cap ∧ (Conv.stringToBytes e s).run P w = .ok (.slice (some ⟨w.heap.size, 0, none⟩) s.size cap) w' ∧
    w'.os = w.os ∧ w'.tape = w.tape ∧ w'.output = w.output ∧ w'.heap = w.heap.push (.cells cs e (cs.size, cs.size + 1)) ∧ cs.size = cap ∧ ∃ rest, cs.toList = bytesV s ++ rest := by
  obtain ⟨cap, hcap⟩ : ∃ cap, cap = (Question.appendCap s.size 0 e).cut (w.tape w.drawn (.appendCap s.size 0 e)) := ⟨_, rfl⟩
  obtain ⟨cs, hcs⟩ : ∃ cs : Array Value, cs = (s.data.map fun b => Value.int .u8 b.toNat) ++ Array.replicate (cap - s.size) (.int .u8 0) := ⟨_, rfl⟩
  have hge : s.size ≤ cap := by rw [hcap]; exact cut_appendCap _ _ _ _
  have hsz : cs.size = cap := by rw [hcs]; simp; omega
  obtain ⟨W, hW⟩ : ∃ W : World, W = { w with heap := w.heap.push (.cells cs e), drawn := w.drawn + 1 } := ⟨_, rfl⟩
  have hshape : W.shape? w.heap.size = some (e, cs.size) := by rw [hW]; simp [World.shape?]
  refine ⟨cap, W.freeze ⟨w.heap.size, cs.size, none⟩ 1, cs, hge, ?_, ?_, ?_, ?_, ?_, hsz, ?_⟩
  · simp only [Conv.stringToBytes, run_bind, run_choose _ (show (Question.appendCap s.size 0 e).forced = false from rfl), run_newRow, run_pure, markStringish, shape, Sem.run]
    rw [← hcap, ← hcs, ← hW, hshape]
    simp only [freeze, Sem.run]
  · rw [hW]; rfl
  · rw [hW]; rfl
  · rw [hW]; rfl
  · rw [hW]
    simp only [World.freeze, show ¬ (1 = 0) from by omega, if_false]
    rw [modify_push]
    simp
  · exact ⟨List.replicate (cap - s.size) (.int .u8 0), by rw [hcs]; simp [bytesV]⟩

theorem convert_sound {W0 : World} {φ : Phi} {h : AHeap} {w : World} (S : Sim W0 φ h w) {P : Program} {src dst : TypeId} {x x' : Value} {k : Value → AHeap → Prop} {other : Prop} (hk : convertK P src dst x h k other) (hx : VR φ x x') :
    other ∨ ∃ v h' v' w' φ', k v h' ∧ VR φ' v v' ∧ Sim W0 φ' h' w' ∧ Ext φ h w φ' h' w' ∧ (∀ u u', VR φ u u' → VR φ' u u') ∧ (convert src dst x').run P w = .ok v' w' := by
  unfold convertK at hk
  split at hk
  · rename_i s
    have e : x' = .string s := by simpa [VR] using hx
    subst e
    split at hk
    · rename_i hb
      right
      simp only [Bool.and_eq_true] at hb
      obtain ⟨el, h1, h2, h3⟩ := elemIs_spec hb.1
      have h4 := isStringT_spec hb.2
      obtain ⟨cap, w', cs, a1, a2, a3, a4, a5, a6, a7, rest, a8⟩ := stringToBytes_run (P := P) el s w
      obtain ⟨b1, b2, b3⟩ := push_cells S (fl := true) (t := el) a8 (bytesV_one s) (VRL_flatL (bytesV_flat s)) (fun _ => bytesV_flat s) (fun j hj h => by simp only at h; omega) a3 a4 a5 a6
      rw [h3] at hk
      refine ⟨_, _, .slice (some ⟨w.heap.size, 0, none⟩) s.size cap, w', _, hk, ?_, b1, b2, fun u u' hu => VR_mono (push_mono φ _) u u' hu, ?_⟩
      · simp only [newAddr, VR]
        exact ⟨_, cap, 0, b3, rfl, a1, fun _ => ⟨rfl, by simp; omega⟩, fun h => by omega⟩
      · simp only [convert, run_bind, run_underlying h4, run_underlying h1, run_underlying h2]
        exact a2
    · exact .inl hk
  · rename_i a n cc
    split at hk
    · rename_i hb
      right
      simp only [Bool.and_eq_true] at hb
      obtain ⟨el, h1, h2, _⟩ := elemIs_spec hb.1
      have h4 := isStringT_spec hb.2
      obtain ⟨l, fl, us, b, c', a1, a2, a3, rfl⟩ := contents_sound (P := P) S hk hx
      obtain ⟨hall, hk⟩ := cond_prop a1
      have hl := all_u8 l hall
      have hus : us = l := (VRL_flat φ l us (flatL_mem.2 fun v hv => by rw [hl] at hv; simp only [List.mem_map] at hv; obtain ⟨_, _, rfl⟩ := hv; rfl)).1 a3.rel
      subst hus
      refine ⟨_, _, .string (bytesOf us), w, φ, hk, (VR_flat φ _ _ rfl).2 rfl, S, Ext.refl _ _ _, fun _ _ h => h, ?_⟩
      simp only [convert, run_bind, run_underlying h1, run_underlying h4, run_underlying h2]
      cases b with
      | none =>
        have hn : n = 0 := by
          have := a3.cells w n rfl (Nat.le_refl _)
          simp only [Builtin.firstCells, run_pure] at this
          have h5 := a3.len
          have : us.take (n * 1) = [] := by simpa using (Result.ok.inj this).1.symm
          rw [List.take_of_length_le (by omega)] at this
          rw [this] at h5; simp at h5; omega
        have : us = [] := List.eq_nil_of_length_eq_zero (by rw [a3.len, hn])
        subst this
        rfl
      | some b =>
        have hc := a3.cells w n rfl (Nat.le_refl _)
        simp only [Builtin.firstCells] at hc
        rw [List.take_of_length_le (by rw [a3.len]; omega), Nat.mul_one] at hc
        have hr := run_bytesToString (P := P) w b n c' (us.map intOf) (by rw [hc]; congr 1; congr 1)
        rw [hr, foldl_push_bytes]
        congr 2
        rw [bytesOf]
        simp
    · exact hk.elim
  · exact .inl hk
end Go.Am
