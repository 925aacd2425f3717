/-
  Cltu: the parser that takes blocks: a byte that ends none. Own work.
-/
import Derived.Test.YtoeepogoogcbiaaDoorCltZ
import Derived.Laws.AppendOwn
namespace Go.Am.Clt
open Go Go.Am Go.Am.Lib Go.Proofs Go.RowKit
set_option maxRecDepth 100000

theorem info5 : ∃ i0, Tryd.prog.info? 5 = some i0 ∧ i0.zero = some (.int .u8 0) ∧ i0.size = 1 ∧ i0.bytes = 1 := by
  have h : (Tryd.prog.info? 5).map (fun i => (i.zero, i.size, i.bytes)) = some (some (.int .u8 0), 1, 1) := by kernel_rfl
  obtain ⟨i, h1, h2⟩ := Option.map_eq_some_iff.1 h
  simp only [Prod.mk.injEq] at h2
  exact ⟨i, h1, h2.1, h2.2.1, h2.2.2⟩
set_option maxHeartbeats 1600000 in
theorem begin1_short (B b : Nat) (w : World) (tk kn la v1 v2 bg v3 : Value) (bl : List Value) (x : Nat) (hB : B ≤ b) (hBw : B ≤ w.heap.size) (hlen : bl.length < 7) (hown : w.ownsRow B 5 1 v2 bl.length bl) (hne : v2.ownBlock ≠ some b)
    (hb : w.heap[b]? = some (.cells #[tk, kn, la, v1, v2, bg, v3] 49 (0, 0))) :
    Calls Tryd.prog 49 #[.pointer (some ⟨b, 0, none⟩), .int .u8 (x : Nat)] w fun e w' => e = .returned (.tuple #[]) ∧
      ∃ v2', w'.heap[b]? = some (.cells #[tk, kn, la, v1, v2', bg, v3] 49 (0, 0)) ∧ w'.ownsRow B 5 1 v2' (bl.length + 1) (bl ++ [.int .u8 (x : Nat)]) ∧ Below B w w' ∧ (∀ k, k < w.heap.size → k ≠ b → v2.ownBlock ≠ some k → w'.heap[k]? = w.heap[k]?) := by
  obtain ⟨i0, hi, hz0, hz1, hz2⟩ := info5
  have c4 : w.cell? ⟨b, 4, none⟩ = some v2 := cell_of hb
  have hown1 := hown.alloc (.cells #[.int .u8 (x : Nat)] 5)
  go_enter Tryd.func49, Tryd.ntmps49
  go_wp2_with (at_builtin; refine wpList_append_own _ rfl _ _ 47 rfl B 5 i0 (.int .u8 0) 1 1 Tryd.underlying47 hi hz0 hz1 hz2 rfl (by decide) _ _ _ rfl hown1 ⟨w.heap.size, 0, none⟩ 1 1 [.int .u8 (x : Nat)] rfl rfl ?c2 ?c3 ?c4 ?c5 ?c6 ?_)
  case c2 =>
    intro j u hj
    obtain rfl : j = 0 := by
      rcases Nat.eq_zero_or_pos j with h | h
      · exact h
      · rw [List.getElem?_eq_none (by show 1 ≤ j; exact h)] at hj; cases hj
    cases hj
    show (w.alloc (.cells #[.int .u8 (x : Nat)] 5)).cell? ⟨w.heap.size, 0, none⟩ = _
    refine (cell_of (cs := #[.int .u8 (x : Nat)]) (t := 5) (fr := (0, 0)) ?_).trans rfl
    show (w.heap.push _)[w.heap.size]? = _
    rw [Array.getElem?_push_size]
  case c3 => intro u hu; simp only [List.mem_cons, List.not_mem_nil, or_false] at hu; subst hu; rfl
  case c4 => unfold maxLen; omega
  case c5 => omega
  case c6 => show B ≤ (w.heap.push _).size; rw [Array.size_push]; omega
  intro v' w2 hown' hgrow _
  have hltw : b < w.heap.size := by
    rcases Nat.lt_or_ge b w.heap.size with h' | h'
    · exact h'
    · rw [Array.getElem?_eq_none h'] at hb; cases hb
  have hb1 : (w.alloc (.cells #[.int .u8 (x : Nat)] 5)).heap[b]? = some (.cells #[tk, kn, la, v1, v2, bg, v3] 49 (0, 0)) := by
    show (w.heap.push _)[b]? = _
    rw [Array.getElem?_push, if_neg (by omega)]; exact hb
  have hb2 : w2.heap[b]? = some (.cells #[tk, kn, la, v1, v2, bg, v3] 49 (0, 0)) := by
    rw [hgrow.block b (by show b < (w.heap.push _).size; rw [Array.size_push]; omega) (fun e => hne e.symm)]
    exact hb1
  have d4 : w2.cell? ⟨b, 4, none⟩ = some v2 := cell_of hb2
  have f4 : w2.frozen? ⟨b, 4, none⟩ = false := by unfold World.frozen?; rw [hb2]; simp
  obtain ⟨ao, n', cap, rfl⟩ : ∃ ao n' cap, v' = .slice ao n' cap := by
    rcases hown'.2 with ⟨hv, _⟩ | ⟨g, cap, cur, hv, _⟩
    · exact ⟨_, _, _, hv⟩
    · exact ⟨_, _, _, hv⟩
  have hn' : n' = bl.length + 1 := by
    rcases hown'.2 with ⟨hv, h⟩ | ⟨g, cap, cur, hv, _⟩
    · omega
    · cases hv; rfl
  subst hn'
  have hb3 := set_at (o := 4) (v := .slice ao (bl.length + 1) cap) hb2
  have e4 : (w2.setCell ⟨b, 4, none⟩ (.slice ao (bl.length + 1) cap)).cell? ⟨b, 4, none⟩ = some (.slice ao (bl.length + 1) cap) := cell_of hb3
  have hl8 : ((bl.length : Nat) : Int) + 1 < 8 := by omega
  go_wp2
  refine bodyPost_ret (results_none rfl _ _ _) rfl ⟨rfl, _, hb3, ?_, ?_, ?_⟩
  · have hob : OnlyB b w2 (w2.setCell ⟨b, 4, none⟩ (.slice ao (bl.length + 1) cap)) := (OnlyB.refl b w2).setCell 4 _
    refine World.ownsRow.kept (row := some b) hown' ⟨hob.os, hob.tape, hob.output, Nat.le_of_eq hob.size.symm, fun k _ hk => hob.rest k (fun e => hk (by rw [e]))⟩ ?_
    rcases hown'.2 with ⟨hv, _⟩ | ⟨g, cap', cur, hv, _, hg, _⟩
    · cases hv
    · cases hv
      refine Or.inr fun e => ?_
      have : g = b := by injection e
      rw [this, hb2] at hg
      cases hg
  · have h1 : Below B w w2 := Below.grown ((Below.refl B w).alloc hBw _) hgrow (by show B ≤ (w.heap.push _).size; rw [Array.size_push]; omega) (fun k hk => (hown.lt k hk).1)
    exact h1.trans (((OnlyB.refl b w2).setCell 4 _).below hB)
  · intro k hk hkb hkv
    rw [((OnlyB.refl b w2).setCell 4 (.slice ao (bl.length + 1) cap)).rest k hkb, hgrow.block k (by show k < (w.heap.push _).size; rw [Array.size_push]; omega) (fun e => hkv e.symm)]
    show (w.heap.push _)[k]? = _
    rw [Array.getElem?_push, if_neg (by omega)]
end Go.Am.Clt
