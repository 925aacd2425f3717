/-
  Joiner: PacketLosses: a joiner and growing lists in memory; SameStrings. Own work.
-/
import Derived.Test.YtbpfhjmiaaaoiaaJoiL
import Derived.Test.YtbpfhjmiaaaoiaaJoiP
namespace Go.Am.Joi
open Go Go.Am Go.Am.Lib Go.Lib Go.Proofs Go.RowKit
open Go.Am.Own
set_option maxRecDepth 100000

def ShS (S : Nat → Prop) (n m : Nat) : Nat → Prop := fun k => (S k ∧ k < n) ∨ m ≤ k
theorem ShS.old {S : Nat → Prop} {n m k : Nat} (h : ShS S n m k) (hk : k < m) : S k ∧ k < n := by
  rcases h with h | h
  · exact h
  · omega
theorem JAt.shrink {S : Nat → Prop} {b N : Nat} {J : Js} {w w' : World} (h : JAt S b N J w) (hk : ∀ k, S k → k < w.heap.size → w'.heap[k]? = w.heap[k]?) : JAt (ShS S w.heap.size w'.heap.size) b N J w' := by
  obtain ⟨mb, tv, D, h⟩ := h
  exact ⟨mb, tv, D, { hS := fun k hk => .inr hk, cell := (hk b h.hb h.lt).trans h.cell, hb := .inl ⟨h.hb, h.lt⟩, hm := .inl ⟨h.hm, h.mlt⟩, map := ownsMap_of h.map (hk mb h.hm h.mlt), no := h.no, yes := h.yes, keys := h.keys, ap := h.ap, row := fun a k e hne => (h.row a k e hne).keep fun g hg => hk g (h.rs a k e hne g hg) ((h.row a k e hne).lt g hg), rs := fun a k e hne g hg => .inl ⟨h.rs a k e hne g hg, (h.row a k e hne).lt g hg⟩, dis := h.dis }⟩
def strB (l : L8) : ByteArray := ⟨⟨l⟩⟩
def cellS (L : List L8) : List Value := L.map fun l => .string (strB l)
theorem cellS_len (L : List L8) : (cellS L).length = L.length := by unfold cellS; rw [List.length_map]
theorem cellS_snoc (l : List L8) (p : ByteArray) : cellS l ++ [.string p] = cellS (l ++ [p.data.toList]) := by unfold cellS; rw [List.map_append]; rfl
abbrev RowM := TypeId × Value × List Value
def R4 (a b c d : RowM) : Nat → RowM
  | 0 => a
  | 1 => b
  | 2 => c
  | _ => d
structure Wj (W0 V : World) (G : Option Nat) (b : Nat) (x : Nat × Js) (R : Nat → RowM) (w : World) : Prop where
  fr : Below W0.heap.size W0 w
  ex : ∃ S, JAt S b x.1 x.2 w ∧ (∀ k, k < w.heap.size → S k → W0.heap.size ≤ k) ∧ (∀ i, i < 4 → ∀ k, (R i).2.1.ownBlock = some k → ¬ S k) ∧ ∀ k, G = some k → ¬ S k
  own : ∀ i, i < 4 → w.ownsRow W0.heap.size (R i).1 1 (R i).2.1 (R i).2.2.length (R i).2.2
  dis : ∀ i j, i < 4 → j < 4 → i ≠ j → (R i).2.1.ownBlock = none ∨ (R i).2.1.ownBlock ≠ (R j).2.1.ownBlock
  kp : ∀ k, G = some k → k < w.heap.size ∧ w.heap[k]? = V.heap[k]? ∧ ∀ i, i < 4 → (R i).2.1.ownBlock ≠ some k
variable {W0 V : World} {G : Option Nat} {b : Nat} {x x' : Nat × Js} {R R' : Nat → RowM} {w w' : World}
theorem Wj.below (h : Wj W0 V G b x R w) (hb : Below w.heap.size w w') : Wj W0 V G b x R w' := by
  obtain ⟨h1, ⟨S, h2, h3, h4, h7⟩, h5, h6, h8⟩ := h
  refine ⟨h1.trans (hb.mono h1.size), ⟨_, h2.shrink (w' := w') fun k _ hk => hb.block k hk, fun k hk e => h3 k (e.old hk).2 (e.old hk).1, fun i hi k hk e => ?_, fun k hk e => h7 k hk (e.old (Nat.lt_of_lt_of_le (h8 k hk).1 hb.size)).1⟩, fun i hi => ownsRow_keep (h5 i hi) fun k hk => hb.block k ((h5 i hi).lt k hk).2, h6, fun k hk => ⟨Nat.lt_of_lt_of_le (h8 k hk).1 hb.size, (hb.block k (h8 k hk).1).trans (h8 k hk).2.1, (h8 k hk).2.2⟩⟩
  have hlt := ((h5 i hi).lt k hk).2
  exact h4 i hi k hk (e.old (Nat.lt_of_lt_of_le hlt hb.size)).1
theorem Wj.call {f : FuncId} {args : Array Value} {E : Ending → Prop} (h : Wj W0 V G b x R w) (c : ∀ S, JAt S b x.1 x.2 w → Calls Try.prog f args w fun e w' => E e ∧ JAt S b x'.1 x'.2 w' ∧ FrS S w w') :
    Calls Try.prog f args w fun e w' => E e ∧ Wj W0 V G b x' R w' := by
  obtain ⟨h1, ⟨S, h2, h3, h4, h7⟩, h5, h6, h8⟩ := h
  have hs := h1.size
  refine (c S h2).mono fun e w' ⟨he, g1, g2⟩ => ⟨he, h1.trans (g2.below fun k hk e => by have := h3 k (by omega) e; omega), ⟨S, g1, fun k hk e => ?_, h4, h7⟩, fun i hi => ownsRow_keep (h5 i hi) fun k hk => g2.block k (h4 i hi k hk), h6, fun k hk => ⟨Nat.lt_of_lt_of_le (h8 k hk).1 g2.size, (g2.block k (h7 k hk)).trans (h8 k hk).2.1, (h8 k hk).2.2⟩⟩
  by_cases hlt : k < w.heap.size
  · exact h3 k hlt e
  · omega
theorem Wj.push {i : Nat} {u v' : Value} {e : TypeId} (h : Wj W0 V G b x R w) (hi : i < 4) (hr : w'.ownsRow W0.heap.size e 1 v' ((R i).2.2.length + 1) ((R i).2.2 ++ [u])) (hg : w.grownBy w' (R i).2.1.ownBlock) (hw : v'.ownBlock = (R i).2.1.ownBlock ∨ v'.ownBlock = some w.heap.size)
    (h0 : R' i = (e, v', (R i).2.2 ++ [u])) (hj : ∀ j, j < 4 → j ≠ i → R' j = R j) : Wj W0 V G b x R' w' := by
  obtain ⟨h1, ⟨S, h2, h3, h4, h7⟩, h5, h6, h8⟩ := h
  have hs := h1.size
  have hlt : ∀ k, v'.ownBlock = some k → k < w'.heap.size := fun k hk => (hr.lt k hk).2
  have old : ∀ j, j < 4 → ∀ k, (R j).2.1.ownBlock = some k → k < w.heap.size := fun j hj k hk => ((h5 j hj).lt k hk).2
  refine ⟨⟨hg.os.trans h1.os, hg.tape.trans h1.tape, hg.output.trans h1.output, Nat.le_trans hs hg.size, fun k hk => (hg.block k (by omega) fun e => ?_).trans (h1.block k hk)⟩, ⟨ShS S w.heap.size w'.heap.size, h2.shrink (w' := w') fun k hk hlt => hg.block k hlt fun e => h4 i hi k e.symm hk, fun k hk e => h3 k (e.old hk).2 (e.old hk).1, fun j hj4 k hk e => ?_, fun k hk e => h7 k hk (e.old (Nat.lt_of_lt_of_le (h8 k hk).1 hg.size)).1⟩, fun j hj4 => ?_, fun j j' hj4 hj4' hne => ?_, fun k hk => ⟨Nat.lt_of_lt_of_le (h8 k hk).1 hg.size, (hg.block k (h8 k hk).1 fun e => (h8 k hk).2.2 i hi e.symm).trans (h8 k hk).2.1, fun j hj4 e => ?_⟩⟩
  · have := ((h5 i hi).lt k e.symm).1; omega
  · by_cases hji : j = i
    · subst hji
      rw [h0] at hk
      have hk : v'.ownBlock = some k := hk
      have e1 := e.old (hlt k hk)
      rcases hw with hw | hw
      · exact h4 j hi k (by rw [← hw]; exact hk) e1.1
      · rw [hw] at hk; injection hk with hk; omega
    · rw [hj j hj4 hji] at hk
      have hlo := old j hj4 k hk
      exact h4 j hj4 k hk (e.old (Nat.lt_of_lt_of_le hlo hg.size)).1
  · by_cases hji : j = i
    · subst hji
      rw [h0]
      show w'.ownsRow _ e 1 v' ((R j).2.2 ++ [u]).length _
      rw [List.length_append]; exact hr
    · rw [hj j hj4 hji]
      refine ownsRow_keep (h5 j hj4) fun k hk => hg.block k (old j hj4 k hk) fun e => ?_
      rcases h6 j i hj4 hi hji with e1 | e1
      · rw [e1] at hk; cases hk
      · exact e1 (by rw [hk, e])
  · by_cases hji : j = i
    · subst hji
      have hji' : j' ≠ j := fun e => hne e.symm
      rw [h0, hj j' hj4' hji']
      show v'.ownBlock = none ∨ v'.ownBlock ≠ _
      rcases hw with hw | hw
      · rw [hw]; exact h6 j j' hj4 hj4' hne
      · right
        intro e1
        rw [hw] at e1
        have := old j' hj4' _ e1.symm
        omega
    · rw [hj j hj4 hji]
      by_cases hji' : j' = i
      · subst hji'
        rw [h0]
        show _ ∨ _ ≠ v'.ownBlock
        rcases hw with hw | hw
        · rw [hw]; exact h6 j j' hj4 hj4' hne
        · by_cases hn : (R j).2.1.ownBlock = none
          · exact .inl hn
          · right
            intro e1
            rw [hw] at e1
            have := old j hj4 _ e1
            omega
      · rw [hj j' hj4' hji']; exact h6 j j' hj4 hj4' hne
  · by_cases hji : j = i
    · subst hji
      rw [h0] at e
      have e : v'.ownBlock = some k := e
      rcases hw with hw | hw
      · exact (h8 k hk).2.2 j hi (by rw [← hw]; exact e)
      · rw [hw] at e; injection e with e
        have := (h8 k hk).1
        omega
    · rw [hj j hj4 hji] at e
      exact (h8 k hk).2.2 j hj4 e
/-- A new block is kept. -/
theorem Wj.keep (h : Wj W0 V G b x R w) (hb : Below w.heap.size w w') {g : Nat} (h1 : w.heap.size ≤ g) (h2 : g < w'.heap.size) : Wj W0 w' (some g) b x R w' := by
  obtain ⟨a1, ⟨S, a2, a3, a4, a7⟩, a5, a6, a8⟩ := h.below hb
  obtain ⟨b1, ⟨S', b2, b3, b4, b7⟩, b5, b6, b8⟩ := h
  refine ⟨a1, ⟨_, b2.shrink (w' := w') fun k _ hk => hb.block k hk, fun k hk e => b3 k (e.old hk).2 (e.old hk).1, fun i hi k hk e => b4 i hi k hk (e.old (Nat.lt_of_lt_of_le ((b5 i hi).lt k hk).2 hb.size)).1, fun k hk e => ?_⟩, a5, a6, fun k hk => ?_⟩
  · injection hk with hk
    subst hk
    have := (e.old h2).2
    omega
  · injection hk with hk
    subst hk
    refine ⟨h2, rfl, fun i hi e => ?_⟩
    have := ((b5 i hi).lt _ e).2
    omega
/-- No block is kept any more. -/
theorem Wj.free (h : Wj W0 V G b x R w) : Wj W0 W0 none b x R w := by
  obtain ⟨a1, ⟨S, a2, a3, a4, a7⟩, a5, a6, a8⟩ := h
  exact ⟨a1, ⟨S, a2, a3, a4, fun k hk => by cases hk⟩, a5, a6, fun k hk => by cases hk⟩
theorem Wj.first {g : Nat} {w1 : World} (hB : Below W0.heap.size W0 w1) (h1 : JAt (fun k => w1.heap.size ≤ k) g 0 js0 w) (c1 : Below w1.heap.size w1 w) (t1 t2 t3 t4 : TypeId) : Wj W0 V none g (0, js0) (R4 (t1, .slice none 0 0, []) (t2, .slice none 0 0, []) (t3, .slice none 0 0, []) (t4, .slice none 0 0, [])) w := by
  have nb : ∀ i, i < 4 → ((R4 (t1, .slice none 0 0, []) (t2, .slice none 0 0, []) (t3, .slice none 0 0, []) (t4, .slice none 0 0, []) i).2.1).ownBlock = none := fun i hi => by
    match i, hi with
    | 0, _ => rfl
    | 1, _ => rfl
    | 2, _ => rfl
    | 3, _ => rfl
  refine ⟨hB.trans (c1.mono hB.size), ⟨_, h1, fun k _ e => Nat.le_trans hB.size e, fun i hi k hk => (by rw [nb i hi] at hk; cases hk), fun k hk => (by cases hk)⟩, fun i hi => ?_, fun i j hi _ _ => .inl (nb i hi), fun k hk => (by cases hk)⟩
  match i, hi with
  | 0, _ => exact World.ownsRow_nil _ _ _ _
  | 1, _ => exact World.ownsRow_nil _ _ _ _
  | 2, _ => exact World.ownsRow_nil _ _ _ _
  | 3, _ => exact World.ownsRow_nil _ _ _ _
variable {va vb v' : Value} {la lb : List L8} {ra rb rc rd : RowM}
theorem Wj.row0 (h : Wj W0 V G b x (R4 (9, va, cellS la) rb rc rd) w) : w.ownsRow W0.heap.size 9 1 va la.length (cellS la) := by
  have h := h.own 0 (by decide)
  have e : (R4 (9, va, cellS la) rb rc rd 0).2.2.length = la.length := cellS_len la
  rw [e] at h; exact h
theorem Wj.row1 (h : Wj W0 V G b x (R4 ra (9, vb, cellS lb) rc rd) w) : w.ownsRow W0.heap.size 9 1 vb lb.length (cellS lb) := by
  have h := h.own 1 (by decide)
  have e : (R4 ra (9, vb, cellS lb) rc rd 1).2.2.length = lb.length := cellS_len lb
  rw [e] at h; exact h
theorem Wj.push0 {p : ByteArray} (h : Wj W0 V G b x (R4 (9, va, cellS la) rb rc rd) w) (hr : w'.ownsRow W0.heap.size 9 1 v' (la.length + 1) (cellS la ++ [.string p])) (hg : w.grownBy w' va.ownBlock) (hw : v'.ownBlock = va.ownBlock ∨ v'.ownBlock = some w.heap.size) :
    Wj W0 V G b x (R4 (9, v', cellS (la ++ [p.data.toList])) rb rc rd) w' := by
  have e : (R4 (9, va, cellS la) rb rc rd 0).2.2.length = la.length := cellS_len la
  refine h.push (i := 0) (u := .string p) (v' := v') (e := 9) (by decide) (by rw [e]; exact hr) hg hw ?_ fun j hj hne => ?_
  · rw [← cellS_snoc]; rfl
  · match j, hj, hne with
    | 1, _, _ => rfl
    | 2, _, _ => rfl
    | 3, _, _ => rfl
theorem Wj.push1 {p : ByteArray} (h : Wj W0 V G b x (R4 ra (9, vb, cellS lb) rc rd) w) (hr : w'.ownsRow W0.heap.size 9 1 v' (lb.length + 1) (cellS lb ++ [.string p])) (hg : w.grownBy w' vb.ownBlock) (hw : v'.ownBlock = vb.ownBlock ∨ v'.ownBlock = some w.heap.size) :
    Wj W0 V G b x (R4 ra (9, v', cellS (lb ++ [p.data.toList])) rc rd) w' := by
  have e : (R4 ra (9, vb, cellS lb) rc rd 1).2.2.length = lb.length := cellS_len lb
  refine h.push (i := 1) (u := .string p) (v' := v') (e := 9) (by decide) (by rw [e]; exact hr) hg hw ?_ fun j hj hne => ?_
  · rw [← cellS_snoc]; rfl
  · match j, hj, hne with
    | 0, _, _ => rfl
    | 2, _, _ => rfl
    | 3, _, _ => rfl
theorem Wj.alloc {R : Nat → RowM} (h : Wj W0 V G b x R w) (o : Obj) : Wj W0 V G b x R (w.alloc o) := h.below ((Below.refl _ w).alloc (Nat.le_refl _) o)
theorem Wj.drew {R : Nat → RowM} (h : Wj W0 V G b x R w) : Wj W0 V G b x R w.drew := h.below ((Below.refl _ w).drew)
theorem Wj.lo {R : Nat → RowM} (h : Wj W0 V G b x R w) : W0.heap.size ≤ w.heap.size := h.fr.size
/-- An element of a list of strings in memory. -/
theorem row_at {w : World} {B : Nat} {ao : Option Addr} {n cap : Nat} {L : List L8} (h : w.ownsRow B 9 1 (.slice ao n cap) L.length (cellS L)) {i : Nat} (hi : i < n) (hl : L.length = n) :
    ∃ g, ao = some ⟨g, 0, none⟩ ∧ w.cell? ⟨g, i, none⟩ = some (.string (strB (L.getD i []))) := by
  obtain ⟨_, g, rfl⟩ := ownsRow_base h (by omega)
  refine ⟨g, rfl, ?_⟩
  have hc := h.cells (g := g) rfl i (.string (strB (L.getD i []))) (by
    unfold cellS
    rw [List.getElem?_map, List.getD_eq_getElem?_getD, List.getElem?_eq_getElem (by omega)]; rfl)
  have ha : ((⟨g, 0, none⟩ : Addr).add i) = ⟨g, i, none⟩ := by simp [Addr.add]; intro h; exact h.symm
  rw [ha] at hc
  exact hc
set_option maxHeartbeats 1600000 in
theorem same_calls {w : World} {va vb : Value} {L : List L8} (ha : w.ownsRow 0 9 1 va L.length (cellS L)) (hb : w.ownsRow 0 9 1 vb L.length (cellS L)) (hL : L.length < 2 ^ 40) :
    Calls Try.prog 23 #[va, vb] w fun e w' => e = .returned (.bool true) ∧ Below w.heap.size w w' := by
  obtain ⟨ao, ca, rfl⟩ := ownsRow_slice ha
  obtain ⟨bo, cb, rfl⟩ := ownsRow_slice hb
  obtain ⟨n, hn⟩ : ∃ n, L.length = n := ⟨_, rfl⟩
  rw [hn]
  have hnn : ((((n : Nat) : Int) != ((n : Nat) : Int))) = false := by simp
  go_enter Try.func23, Try.ntmps23
  go_wp2
  go_loopw [5] (fun iv wr => ∃ (i : Nat), iv = .int .i64 (i : Nat) ∧ i ≤ n ∧ Below w.heap.size w wr)
    (fun iv _ => n - iOf iv)
  case atStart => exact ⟨0, rfl, Nat.zero_le _, Below.refl _ _⟩
  case round =>
    obtain ⟨i, rfl, hi, hH⟩ := hrel
    rcases Nat.lt_or_ge i n with hlt | hge
    · have hlt' : ((i : Nat) : Int) < ((n : Nat) : Int) := by omega
      rw [hn] at ha hb
      obtain ⟨g1, rfl, k1⟩ := row_at (by rw [hn]; exact ha) hlt hn
      obtain ⟨g2, rfl, k2⟩ := row_at (by rw [hn]; exact hb) hlt hn
      have k1' := (World.cell?_of_block (hH.block g1 (World.block_lt_of_cell? w _ k1))).trans k1
      have k2' := (World.cell?_of_block (hH.block g2 (World.block_lt_of_cell? w _ k2))).trans k2
      clear ha hb
      obtain ⟨S, hS⟩ : ∃ S, strB (L.getD i []) = S := ⟨_, rfl⟩
      rw [hS] at k1 k2 k1' k2'
      go_wp2
      go_region
      go_wp2
      exact ⟨⟨i + 1, by push_cast; rfl, hlt, hH.trans ((Below.refl _ _).drew.mono hH.size)⟩, by show n - (i + 1) < n - i; omega⟩
    · have hge' : ¬ ((i : Nat) : Int) < ((n : Nat) : Int) := by omega
      go_wp2
      go_ret
      exact ⟨rfl, hH⟩
end Go.Am.Joi
