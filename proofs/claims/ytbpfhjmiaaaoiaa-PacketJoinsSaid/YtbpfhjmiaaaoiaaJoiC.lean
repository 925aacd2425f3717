/-
  Joiner: looking an APID up, storing what is known of it. Own work.
-/
import Derived.Test.YtbpfhjmiaaaoiaaJoiB
namespace Go.Am.Joi
open Go Go.Am Go.Am.Lib Go.Lib Go.Proofs Go.RowKit
open Go.Am.Own
set_option maxRecDepth 100000

def zK : Value := .agg #[.int .i64 0, .bool false, .slice none 0 0]
theorem infoK : ∃ i0, Try.prog.info? 68 = some i0 ∧ i0.zero = some zK ∧ i0.size = 3 := by
  have h : (Try.prog.info? 68).map (fun i => (i.zero, i.size)) = some (some zK, 3) := by kernel_rfl
  obtain ⟨i, h1, h2⟩ := Option.map_eq_some_iff.1 h
  simp only [Prod.mk.injEq] at h2
  exact ⟨i, h1, h2.1, h2.2⟩
theorem zeroK (w : World) : (zeroValue 68).run Try.prog w = .ok zK w := by
  obtain ⟨i0, hi, hz0, _⟩ := infoK
  simp [zeroValue, typeInfo, hi, hz0]
theorem keyedInt : Maps.Keyed Try.prog 3 := Maps.int_keyed Try.underlying3
variable {S : Nat → Prop} {b mb N hole : Nat} {J : Js} {tv : Nat → Value} {D : DataW Value} {w w' : World}
theorem JC.look_no (h : JC S b mb N hole J tv D w) {a : Nat} (ha : a < 2047) (hJ : J a = none) : (Instr.lookup 36 (.map (some mb)) (.int .i64 ((a : Nat) : Int)) true).run Try.prog w = .ok (.tuple #[zK, .bool false]) w := by
  obtain ⟨v, ps, hrun, hv⟩ := h.map.look_ok keyedInt Try.underlying36 (zeroK w) (zd := .held zK) (zp := []) rfl (keyInt ha)
  rw [h.no a hJ] at hrun
  rw [Maps.atKey_of_not_has (h.no a hJ)] at hv
  have hv : some ((DataW.held v : DataW Value), ([] : List MemPlace)) = some (.held zK, ps) := hv
  injection hv with hv
  injection hv with hv _
  injection hv with hv
  rw [hrun, hv]
theorem JC.look_yes (h : JC S b mb N hole J tv D w) {a : Nat} {k : Kn} (hJ : J a = some k) : (Instr.lookup 36 (.map (some mb)) (.int .i64 ((a : Nat) : Int)) true).run Try.prog w = .ok (.tuple #[kV k (tv a), .bool true]) w := by
  obtain ⟨v, ps, hrun, hv⟩ := h.map.look_ok keyedInt Try.underlying36 (zeroK w) (zd := .held zK) (zp := []) rfl (keyInt (h.ap a k hJ).1)
  obtain ⟨h1, h2⟩ := h.yes a k hJ
  rw [h1] at hrun
  rw [h2] at hv
  have hv : some ((DataW.held v : DataW Value), ([] : List MemPlace)) = some (.held (kV k (tv a)), ps) := hv
  injection hv with hv
  injection hv with hv _
  injection hv with hv
  rw [hrun, hv]
theorem setBlock_other {w : World} {mb k : Nat} {o : Obj} (h : k ≠ mb) : (ChangeMaps.setBlock w mb o).heap[k]? = w.heap[k]? := by
  unfold ChangeMaps.setBlock
  show (w.heap.setIfInBounds mb o)[k]? = _
  rw [Array.getElem?_setIfInBounds, if_neg (fun e => h e.symm)]
/-- What is known of an APID is stored. -/
theorem JC.put (h : JC S b mb N hole J tv D w) {k' : Kn} {v' : Value} (ha : hole < 2047) (hN : N < maxLen) (hn : k'.next < 16384) (ht : k'.text.length ≤ 16384) (hc : k'.opn = false → k'.text = [] ∧ v' = .slice none 0 0)
    (hr : BRow w v' k'.text) (hs : ∀ g, v'.ownBlock = some g → S g) (hd : ∀ x k, J x = some k → x ≠ hole → ∀ g, v'.ownBlock = some g → (tv x).ownBlock ≠ some g) :
    ∃ w', (Instr.mapUpdate 36 (.map (some mb)) (.int .i64 ((hole : Nat) : Int)) (kV k' v')).run Try.prog w = .ok () w' ∧
      JAt S b (N + 1) (J.set hole k') w' ∧ w.grownBy w' (some mb) ∧ w'.heap.size = w.heap.size := by
  obtain ⟨w', hrun, hown, es, clock, es', clock', hm1, rfl⟩ := h.map.store keyedInt Try.underlying36 hN (key := .int .i64 ((hole : Nat) : Int)) (val := kV k' v') (kl := klt hole) (d := .held (kV k' v')) (ps := []) (keyInt ha) rfl
  have hoth : ∀ k, k ≠ mb → (ChangeMaps.setBlock w mb (.map es' clock')).heap[k]? = w.heap[k]? := fun k hk => setBlock_other hk
  have hsz : (ChangeMaps.setBlock w mb (.map es' clock')).heap.size = w.heap.size := by simp [ChangeMaps.setBlock]
  have hisM : Maps.IsMap D := h.map.isMap
  refine ⟨_, hrun, ⟨mb, fun x => if x = hole then v' else tv x, D.put (klt hole) (.held (kV k' v')), ?_⟩, ⟨rfl, rfl, rfl, Nat.le_of_eq hsz.symm, fun k _ hk => hoth k fun e => hk (by rw [e])⟩, hsz⟩
  have hap : ∀ x k, J x = some k → x < 2047 := fun x k hx => (h.ap x k hx).1
  refine { hS := fun k hk => h.hS k (by rw [hsz] at hk; exact hk), cell := (hoth b h.bne).trans h.cell, hb := h.hb, hm := h.hm, map := hown, no := fun x hx => ?_, yes := fun x k hx => ?_, keys := fun l hl => ?_, ap := fun x k hx => ?_, row := fun x k hx _ => ?_, rs := fun x k hx _ g hg => ?_, dis := fun x x' k k2 hx hx' hne _ _ => ?_ }
  · have hxa : x ≠ hole := fun e => by rw [e, Js.set_same] at hx; cases hx
    rw [Js.set_other J k' hxa] at hx
    rw [Maps.has_put_other (fun e => hxa (klt_inj e))]
    exact h.no x hx
  · by_cases hxa : x = hole
    · subst hxa
      rw [Js.set_same] at hx
      injection hx with hx
      subst hx
      rw [if_pos rfl]
      exact ⟨Maps.has_put_same hisM (keyLit x) _, fun z => Maps.atKey_put_same hisM (keyLit x) _ z⟩
    · rw [Js.set_other J k' hxa] at hx
      rw [if_neg hxa]
      have hne : klt x ≠ klt hole := fun e => hxa (klt_inj e)
      rw [Maps.has_put_other hne]
      exact ⟨(h.yes x k hx).1, fun z => by rw [Maps.atKey_put_other hne]; exact (h.yes x k hx).2 z⟩
  · by_cases e : l = klt hole
    · exact ⟨hole, ha, e⟩
    · rw [Maps.has_put_other e] at hl
      exact h.keys l hl
  · by_cases hxa : x = hole
    · subst hxa
      rw [Js.set_same] at hx
      injection hx with hx
      subst hx
      rw [if_pos rfl]
      exact ⟨ha, hn, ht, hc⟩
    · rw [Js.set_other J k' hxa] at hx
      rw [if_neg hxa]
      exact h.ap x k hx
  · by_cases hxa : x = hole
    · subst hxa
      rw [Js.set_same] at hx
      injection hx with hx
      subst hx
      rw [if_pos rfl]
      exact hr.keep fun g hg => hoth g (brow_ne h hr hg).2
    · rw [Js.set_other J k' hxa] at hx
      rw [if_neg hxa]
      have hrx := h.row x k hx hxa
      exact hrx.keep fun g hg => hoth g (brow_ne h hrx hg).2
  · by_cases hxa : x = hole
    · subst hxa
      rw [if_pos rfl] at hg
      exact hs g hg
    · rw [Js.set_other J k' hxa] at hx
      rw [if_neg hxa] at hg
      exact h.rs x k hx hxa g hg
  · by_cases hxa : x = hole
    · subst hxa
      have hx'a : x' ≠ x := fun e => hne e.symm
      rw [Js.set_other J k' hx'a] at hx'
      rw [if_pos rfl, if_neg hx'a]
      cases hv : v'.ownBlock with
      | none => exact .inl rfl
      | some g => exact .inr fun e => hd x' k2 hx' hx'a g hv e.symm
    · rw [Js.set_other J k' hxa] at hx
      rw [if_neg hxa]
      by_cases hx'a : x' = hole
      · subst hx'a
        rw [if_pos rfl]
        cases hv : (tv x).ownBlock with
        | none => exact .inl rfl
        | some g => exact .inr fun e => hd x k hx hxa g e.symm hv
      · rw [Js.set_other J k' hx'a] at hx'
        rw [if_neg hx'a]
        exact h.dis x x' k k2 hx hx' hne hxa hx'a
end Go.Am.Joi
