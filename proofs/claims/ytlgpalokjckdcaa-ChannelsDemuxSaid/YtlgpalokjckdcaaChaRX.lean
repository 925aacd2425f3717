/-
  Channels: the reference: what arrives; field's memory. Own work.
-/
import Derived.Test.YtlgpalokjckdcaaChaGJ
namespace Go.Am.Cha
open Go Go.Am Go.Am.Lib Go.Lib Go.Proofs Go.RowKit
open Go.Am.Own
set_option maxRecDepth 100000
attribute [local go_sem] Oper.semAt_some

theorem rget_calls (s : ByteArray) (w : World) : Calls Try.prog 84 #[.string s] w fun e w' => e = .returned (.tuple #[.agg #[.bool (Pkt.gC s), .int .i64 ((Pkt.gA s : Nat) : Int), .int .i64 ((Pkt.gF s : Nat) : Int), .int .i64 ((Pkt.gN s : Nat) : Int), .string (Pkt.gD s)], .int .i64 (Pkt.getE s)]) ∧ Below w.heap.size w w' :=
  Tmf.flat_calls Pkt.okRGet w (args := [.string s]) rfl (v := .tuple ⟨[.agg ⟨[.bool (Pkt.gC s), .int .i64 ((Pkt.gA s : Nat) : Int), .int .i64 ((Pkt.gF s : Nat) : Int), .int .i64 ((Pkt.gN s : Nat) : Int), .string (Pkt.gD s)]⟩, .int .i64 (Pkt.getE s)]⟩) rfl ⟨rfl, rfl⟩
theorem rtake_calls (s : ByteArray) (w : World) : Calls Try.prog 63 #[.string s] w fun e w' => e = .returned (.tuple #[pkV s, .int .i64 ((Pkt.pL s : Nat) : Int), .int .i64 (Pkt.takeE s)]) ∧ Below w.heap.size w w' :=
  Tmf.flat_calls Pkt.okRTake w (args := [.string s]) rfl (v := .tuple ⟨[.agg ⟨[.bool (Pkt.pC s), .int .i64 ((Pkt.pA s : Nat) : Int), .int .i64 ((Pkt.pF s : Nat) : Int), .int .i64 ((Pkt.pN s : Nat) : Int), .string (Pkt.pD s)]⟩, .int .i64 ((Pkt.pL s : Nat) : Int), .int .i64 (Pkt.takeE s)]⟩) rfl ⟨rfl, rfl⟩
def dlvA (a : Nat) (b : ByteArray) : List L8 := if a = 2047 then [] else [b.data.toList]
variable {S : Nat → Prop} {ob : Nat} {a0 a1 a2 a3 v a5 a6 : Value} {L : List L8} {w : World}
set_option maxHeartbeats 3200000 in
theorem arrived_at (h : Ar S ob a0 a1 a2 a3 v a5 a6 L w) (hL : L.length ≤ 1000000) (b : ByteArray) :
    Calls Try.prog 64 #[.pointer (some ⟨ob, 0, none⟩), .string b] w fun e w' => e = .returned (.tuple #[]) ∧ (∃ v', Ar S ob a0 a1 a2 a3 v' a5 a6 (L ++ dlvA (Pkt.gA b) b) w') ∧ FrS S w w' := by
  have hg := rget_calls b w
  obtain ⟨i0, hi, hz0, hz1, hz2⟩ := infoS
  obtain ⟨oo, oc, rfl⟩ := ownsRow_slice h.row
  obtain ⟨A, hA⟩ : ∃ A, Pkt.gA b = A := ⟨_, rfl⟩
  rw [hA] at hg ⊢
  by_cases h47 : A = 2047
  · have hb : (((A : Nat) : Int) != 2047) = false := by simp; omega
    rw [show dlvA A b = [] from if_pos h47, List.append_nil]
    clear h47 hA
    go_enter Try.func64, Try.ntmps64
    go_wp2_with (go_at_call 84; refine hg.mono ?_; clear hg; rintro e W1 ⟨rfl, b1⟩; have hb2 := b1.alloc b1.size (.cells #[.bool (Pkt.gC b), .int .i64 ((A : Nat) : Int), .int .i64 ((Pkt.gF b : Nat) : Int), .int .i64 ((Pkt.gN b : Nat) : Int), .string (Pkt.gD b)] 110))
    go_end0
    exact ⟨rfl, ⟨_, h.below hb2⟩, h.fr hb2⟩
  · have hb : (((A : Nat) : Int) != 2047) = true := by simp; omega
    rw [show dlvA A b = [b.data.toList] from if_neg h47]
    go_enter Try.func64, Try.ntmps64
    go_wp2_with (first | (go_at_call 84; refine hg.mono ?_; clear hg; rintro e W1 ⟨rfl, b1⟩; have hb2 := b1.alloc b1.size (.cells #[.bool (Pkt.gC b), .int .i64 ((A : Nat) : Int), .int .i64 ((Pkt.gF b : Nat) : Int), .int .i64 ((Pkt.gN b : Nat) : Int), .string (Pkt.gD b)] 110); have h1 := h.below hb2; have hf1 := h.fr hb2; obtain ⟨V1, hV1⟩ : ∃ V1, W1.alloc (.cells #[.bool (Pkt.gC b), .int .i64 ((A : Nat) : Int), .int .i64 ((Pkt.gF b : Nat) : Int), .int .i64 ((Pkt.gN b : Nat) : Int), .string (Pkt.gD b)] 110) = V1 := ⟨_, rfl⟩; have k1 := heap_alloc_new W1 (.cells #[.bool (Pkt.gC b), .int .i64 ((A : Nat) : Int), .int .i64 ((Pkt.gF b : Nat) : Int), .int .i64 ((Pkt.gN b : Nat) : Int), .string (Pkt.gD b)] 110); rw [hV1] at h1 hf1 k1; have x1 := cell_of (o := 1) k1; have x4 := cell_of (o := 4) h1.cell; have h3 := h1.alloc (.cells #[.string b] 9); clear k1 hb2) | (at_builtin; refine wpList_append_at rfl _ _ 22 rfl 0 9 i0 (.string ⟨#[]⟩) 1 16 Try.underlying22 hi hz0 hz1 hz2 rfl (by decide) (.slice oo L.length oc) L.length (cellS L) rfl h3.row ⟨V1.heap.size, 0, none⟩ 1 1 [.string b] rfl rfl (cell_one V1 9 _) (by intro u hu; exact one_mem hu rfl) (by decide) (by unfold maxLen; omega) (by omega) (Nat.zero_le _) ?_))
    intro v9 w9 hown9 hgrow9 hat9
    have h9c : w9.heap[ob]? = some (.cells #[a0, a1, a2, a3, .slice oo L.length oc, a5, a6] 33 (0, 0)) := (hgrow9.block ob h3.lt (fun e => ownsRow_neb h3.row h3.cell (by decide) e.symm)).trans h3.cell
    have f9 := fz_of h9c 4
    have g9c : w9.cell? ⟨ob, 4, none⟩ = some (.slice oo L.length oc) := cell_of h9c
    rw [cellS_snoc] at hown9
    have hr9 : w9.ownsRow 0 9 1 v9 (L ++ [b.data.toList]).length (cellS (L ++ [b.data.toList])) := by rw [List.length_append]; exact hown9
    obtain ⟨o9, c9, rfl⟩ := ownsRow_slice hr9
    have hE := h3.setV (L' := L ++ [b.data.toList]) hr9 hgrow9 (ownsRow_neb h3.row h3.cell (by decide)) (fun k hk => by
      rcases hat9 with e | e
      · exact h3.Sv _ (by rw [← e]; exact hk)
      · rw [e] at hk
        injection hk with hk
        exact h3.hS _ (by rw [← hk, alloc_size]; exact Nat.le_refl _))
    have hFr := ((hf1.trans (h1.fr ((Below.refl _ V1).alloc (Nat.le_refl _) _))).grown hgrow9 h3.hS h3.Sv).trans (((OnlyB.refl ob w9).setCell 4 (.slice o9 (L ++ [b.data.toList]).length c9)).fr h3.So)
    have hle : (L ++ [b.data.toList]).length = L.length + 1 := by simp
    rw [hle] at hE hFr
    have HE := Lib.hid (And.intro hE hFr)
    clear hown9 hr9 hgrow9 hat9 h9c hE hFr h3 h1 hf1
    go_wp2
    go_end0
    exact ⟨rfl, ⟨_, HE.out.1⟩, HE.out.2⟩
end Go.Am.Cha

namespace Go.Am.Cha
open Go Go.Am Go.Am.Lib Go.Lib Go.Proofs Go.RowKit
open Go.Am.Own
set_option maxRecDepth 100000

/-- A sink as the reference keeps it. -/
def nrm (s : Sk) : Sk := if s.bg = true then s else { s with pt := ⟨#[]⟩ }
def nrmD (D : Dm) : Dm := { D with sk := fun k => nrm (D.sk k) }
theorem nrm_yes {s : Sk} (h : s.bg = true) : nrm s = s := if_pos h
theorem nrm_no {s : Sk} (h : s.bg = false) : nrm s = { s with pt := ⟨#[]⟩ } := if_neg (by rw [h]; decide)
theorem nrm_bg (s : Sk) : (nrm s).bg = s.bg := by unfold nrm; split <;> rfl
theorem nrmD_put (D : Dm) (k : Nat) (s : Sk) : nrmD (D.put k s) = (nrmD D).put k (nrm s) := by
  unfold nrmD Dm.put
  congr 1
  funext j
  by_cases h : j = k
  · simp only [if_pos h]
  · simp only [if_neg h]
/-- field's memory: w0 is the world at the call, where the frame's copy is made. -/
structure Gd (sb Bo : Nat) (w0 : World) (cs fr : Array Value) (a0 a1 a2 a3 v a5 a6 : Value) (L : List L8) (w : World) : Prop where
  sk : w.heap[sb]? = some (.cells cs 83 (0, 0))
  f : w.heap[w0.heap.size]? = some (.cells fr 85 (0, 0))
  ar : Ar (fun k => k = Bo ∨ w0.heap.size < k) Bo a0 a1 a2 a3 v a5 a6 L w
  n1 : sb < w0.heap.size
  n2 : Bo < w0.heap.size
  n3 : sb ≠ Bo
  fr : FrS (fun k => k = sb ∨ k = Bo ∨ w0.heap.size ≤ k) w0 w
variable {sb Bo : Nat} {w0 w w' : World} {cs fr : Array Value} {a0 a1 a2 a3 v a5 a6 : Value} {L : List L8}
theorem Gd.flt (h : Gd sb Bo w0 cs fr a0 a1 a2 a3 v a5 a6 L w) : w0.heap.size < w.heap.size := (Array.getElem?_eq_some_iff.1 h.f).1
theorem Gd.below (h : Gd sb Bo w0 cs fr a0 a1 a2 a3 v a5 a6 L w) (hb : Below w.heap.size w w') : Gd sb Bo w0 cs fr a0 a1 a2 a3 v a5 a6 L w' := by
  have l : ∀ {k o}, w.heap[k]? = some o → w'.heap[k]? = some o := fun {k o} hk => (hb.block k (Array.getElem?_eq_some_iff.1 hk).1).trans hk
  exact ⟨l h.sk, l h.f, h.ar.below hb, h.n1, h.n2, h.n3, h.fr.trans (fr_of hb fun k hk => .inr (.inr (by have := h.flt; omega)))⟩
theorem Gd.drew (h : Gd sb Bo w0 cs fr a0 a1 a2 a3 v a5 a6 L w) : Gd sb Bo w0 cs fr a0 a1 a2 a3 v a5 a6 L w.drew := h.below (Below.refl _ w).drew
theorem Gd.setS (h : Gd sb Bo w0 cs fr a0 a1 a2 a3 v a5 a6 L w) (o : Nat) (x : Value) : Gd sb Bo w0 (cs.setIfInBounds o x) fr a0 a1 a2 a3 v a5 a6 L (w.setCell ⟨sb, o, none⟩ x) := by
  have ho : OnlyB sb w (w.setCell ⟨sb, o, none⟩ x) := (OnlyB.refl sb w).setCell o x
  have n1 := h.n1; have n3 := h.n3
  refine ⟨set_at h.sk, (ho.rest _ (by omega)).trans h.f, h.ar.keep (Nat.le_of_eq ho.size.symm) fun k hk e => ho.rest k ?_, h.n1, h.n2, h.n3, h.fr.trans (ho.fr (.inl rfl))⟩
  rcases e with rfl | e
  · exact fun e => n3 e.symm
  · rcases h.ar.Sv k e with rfl | e'
    · exact fun e => n3 e.symm
    · omega
theorem Gd.set5 (h : Gd sb Bo w0 cs fr a0 a1 a2 a3 v a5 a6 L w) (x : Value) : Gd sb Bo w0 cs fr a0 a1 a2 a3 v x a6 L (w.setCell ⟨Bo, 5, none⟩ x) := by
  have ho : OnlyB Bo w (w.setCell ⟨Bo, 5, none⟩ x) := (OnlyB.refl Bo w).setCell 5 x
  have n2 := h.n2; have n3 := h.n3
  exact ⟨(ho.rest _ n3).trans h.sk, (ho.rest _ (by omega)).trans h.f, h.ar.set5 x, h.n1, h.n2, h.n3, h.fr.trans (ho.fr (.inr (.inl rfl)))⟩
theorem Gd.arrived (h : Gd sb Bo w0 cs fr a0 a1 a2 a3 v a5 a6 L w) (hL : L.length ≤ 1000000) (b : ByteArray) :
    Calls Try.prog 64 #[.pointer (some ⟨Bo, 0, none⟩), .string b] w fun e w' => e = .returned (.tuple #[]) ∧ ∃ v', Gd sb Bo w0 cs fr a0 a1 a2 a3 v' a5 a6 (L ++ dlvA (Pkt.gA b) b) w' := by
  refine (arrived_at h.ar hL b).mono fun e w' hh => ⟨hh.1, ?_⟩
  obtain ⟨-, ⟨v', g1⟩, g2⟩ := hh
  have n1 := h.n1; have n2 := h.n2; have n3 := h.n3
  exact ⟨v', (g2.block sb (by omega)).trans h.sk, (g2.block _ (by omega)).trans h.f, g1, n1, n2, n3, h.fr.trans (g2.mono fun k hk => by omega)⟩
theorem Gd.cells (h : Gd sb Bo w0 cs fr a0 a1 a2 a3 v a5 a6 L w) : (∀ o, w.cell? ⟨sb, o, none⟩ = cs[o]?) ∧ (∀ o, w.cell? ⟨w0.heap.size, o, none⟩ = fr[o]?) ∧ w.cell? ⟨Bo, 5, none⟩ = some a5 ∧ (∀ o, w.frozen? ⟨sb, o, none⟩ = false) ∧ (∀ o, w.frozen? ⟨Bo, o, none⟩ = false) :=
  ⟨fun _ => cell_of h.sk, fun _ => cell_of h.f, cell_of h.ar.cell, fz_of h.sk, fz_of h.ar.cell⟩
/-- Where field begins. -/
theorem Gd.start (hk : w0.heap[sb]? = some (.cells cs 83 (0, 0))) (ho : w0.heap[Bo]? = some (.cells #[a0, a1, a2, a3, .slice none 0 0, a5, a6] 33 (0, 0))) (fr : Array Value) :
    Gd sb Bo w0 cs fr a0 a1 a2 a3 (.slice none 0 0) a5 a6 [] (w0.alloc (.cells fr 85)) := by
  have hb : Below w0.heap.size w0 (w0.alloc (.cells fr 85)) := (Below.refl _ w0).alloc (Nat.le_refl _) _
  have l1 := (Array.getElem?_eq_some_iff.1 hk).1
  have l2 := (Array.getElem?_eq_some_iff.1 ho).1
  refine ⟨(hb.block sb l1).trans hk, heap_alloc_new w0 _, ⟨fun k hk => .inr (by rw [alloc_size] at hk; omega), (hb.block Bo l2).trans ho, .inl rfl, World.ownsRow_nil _ _ _ _, fun k hk => by cases hk⟩, l1, l2, fun e => ?_, fr_of hb fun k hk => .inr (.inr hk)⟩
  rw [e, ho] at hk
  cases hk
/-! ### what field makes, plainly -/
theorem gA_of {b : ByteArray} (h : Pkt.takeE b = 0 ∧ Pkt.pL b = b.size) : Pkt.gA b = Pkt.pA b := by
  unfold Pkt.gA Pkt.getE
  rw [if_pos (if_pos h)]
theorem dlv_eq {b : ByteArray} (h : Pkt.takeE b = 0 ∧ Pkt.pL b = b.size) : dlvA (Pkt.gA b) b = dlv b b := by rw [gA_of h]; rfl
theorem stepM_nrm (x : Sk) (first : Nat) (data : ByteArray) (n : Nat) (L : List L8) : nrm (stepM (nrm x) first data n L).1 = nrm (stepM x first data n L).1 ∧ (stepM (nrm x) first data n L).2 = (stepM x first data n L).2 := by
  cases h : x.bg with
  | true => rw [nrm_yes h]; exact ⟨rfl, rfl⟩
  | false =>
    have e1 : stepM (nrm x) first data n L = (nrm x, n, L) := by unfold stepM; rw [if_neg (by rw [nrm_bg, h]; decide)]
    have e2 : stepM x first data n L = (x, n, L) := by unfold stepM; rw [if_neg (by rw [h]; decide)]
    rw [e1, e2]
    refine ⟨?_, rfl⟩
    show nrm (nrm x) = nrm x
    rw [nrm_no h]
    exact nrm_no h
theorem tailM_nrm {a b : Sk × Nat × List L8} (p : List ByteArray × ByteArray) (h1 : nrm a.1 = nrm b.1) (h2 : a.2 = b.2) (hb : a.1.bg = false) (hb2 : b.1.bg = false) : nrm (tailM a p).1 = nrm (tailM b p).1 ∧ (tailM a p).2 = (tailM b p).2 := by
  rw [nrm_no hb, nrm_no hb2] at h1
  injection h1 with g1 g2 g3 g4 g5
  have e : ∀ q : ByteArray, ({ a.1 with pt := q } : Sk) = { b.1 with pt := q } := by
    intro q
    show Sk.mk a.1.kn a.1.fr a.1.ct a.1.bg q = Sk.mk b.1.kn b.1.fr b.1.ct b.1.bg q
    rw [g1, g2, g3, g4]
  have e3 : ∀ q : ByteArray, ({ a.1 with bg := true, pt := q } : Sk) = { b.1 with bg := true, pt := q } := by
    intro q
    show Sk.mk a.1.kn a.1.fr a.1.ct true q = Sk.mk b.1.kn b.1.fr b.1.ct true q
    rw [g1, g2, g3]
  refine ⟨?_, ?_⟩
  · rw [tailM_fst, tailM_fst]
    split
    · rw [e3]
    · rw [e]
  · have t : ∀ c : Sk × Nat × List L8, (tailM c p).2 = (endN c.2.1 p.2, c.2.2 ++ came p.1) := fun c => rfl
    rw [t, t, h2]
theorem stepM_bg {x : Sk} {first : Nat} {data : ByteArray} {n : Nat} {L : List L8} (hf : first ≠ 2047) : (stepM x first data n L).1.bg = false := by
  unfold stepM
  split
  · split
    · rfl
    · split
      · rfl
      · rename_i h; exact absurd (.inr hf) h
  · rename_i h; simpa using h
theorem takeM_nrm (x : Sk) (first : Nat) (data : ByteArray) (n : Nat) (L : List L8) : nrm (takeM (nrm x) first data n L).1 = nrm (takeM x first data n L).1 ∧ (takeM (nrm x) first data n L).2 = (takeM x first data n L).2 := by
  have h := stepM_nrm x first data n L
  unfold takeM
  split
  · exact h
  · rename_i hf
    exact tailM_nrm _ h.1 h.2 (stepM_bg hf) (stepM_bg hf)
theorem byt_cut (s : ByteArray) {m i : Nat} (h : i < m) : Pkt.byt (s.extract 0 m) i = Pkt.byt s i := by
  unfold Pkt.byt
  congr 1
  rw [ByteArray.data_extract, Array.toList_extract, List.extract_eq_take_drop, List.drop_zero, List.getD_eq_getElem?_getD, List.getD_eq_getElem?_getD, List.getElem?_take_of_lt (by omega)]
theorem head_ok {x : ByteArray} (h : Pkt.takeE x = 0) : (Pkt.takeE (headB x) = 0 ∧ Pkt.pL (headB x) = (headB x).size) ∧ Pkt.pA (headB x) = Pkt.pA x := by
  have hl := take_len h
  have hp : Pkt.pL x = Pkt.lenT x := by unfold Pkt.pL; rw [if_pos h]
  have hs : (headB x).size = Pkt.pL x := by unfold headB; rw [ByteArray.size_extract]; omega
  have hb : ∀ i, i < 7 → Pkt.byt (headB x) i = Pkt.byt x i := fun i hi => byt_cut x (by omega)
  have nb : ¬ Pkt.badP x := fun b => by rw [Pkt.takeE_bad b] at h; exact absurd h (by decide)
  have nb2 : ¬ Pkt.badP (headB x) := by
    unfold Pkt.badP at nb ⊢
    rw [hb 0 (by omega), hb 4 (by omega), hs]
    intro e
    apply nb
    rcases e with e | e
    · exact .inl ⟨by omega, e.2⟩
    · exact .inr ⟨by omega, e.2⟩
  have hlt : Pkt.lenT (headB x) = Pkt.lenT x := by unfold Pkt.lenT; rw [hb 4 (by omega), hb 5 (by omega)]
  have hE : Pkt.takeE (headB x) = 0 := by
    unfold Pkt.takeE
    rw [if_neg nb2, if_neg (by rw [hlt, hs]; omega)]
  refine ⟨⟨hE, ?_⟩, ?_⟩
  · unfold Pkt.pL; rw [if_pos hE, hlt, hs, hp]
  · unfold Pkt.pA; rw [if_pos hE, if_pos h, hb 0 (by omega), hb 1 (by omega)]
theorem dlv_head {x : ByteArray} (h : Pkt.takeE x = 0) : dlvA (Pkt.gA (headB x)) (headB x) = dlv x (headB x) := by
  have h1 := head_ok h
  rw [gA_of h1.1, h1.2]; rfl
end Go.Am.Cha
