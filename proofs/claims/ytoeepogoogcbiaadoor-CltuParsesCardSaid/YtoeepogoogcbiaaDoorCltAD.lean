/-
  Cltu: the parser that takes blocks, walked the kit's way. Own work.
-/
import Derived.Test.YtoeepogoogcbiaaDoorCltAC
namespace Go.Am.Clt
open Go Go.Am Go.Am.Lib Go.Lib Go.Proofs Go.RowKit
set_option maxRecDepth 100000

theorem info9 : ∃ i0, Tryd.prog.info? 9 = some i0 ∧ i0.zero = some (.string ⟨#[]⟩) ∧ i0.size = 1 ∧ i0.bytes = 16 := by
  have h : (Tryd.prog.info? 9).map (fun i => (i.zero, i.size, i.bytes)) = some (some (.string ⟨#[]⟩), 1, 16) := by kernel_rfl
  obtain ⟨i, h1, h2⟩ := Option.map_eq_some_iff.1 h
  simp only [Prod.mk.injEq] at h2
  exact ⟨i, h1, h2.1, h2.2.1, h2.2.2⟩
theorem cell_one (w : World) (t : TypeId) (v : Value) : ∀ j u, [v][j]? = some u → (w.alloc (.cells #[v] t)).cell? ((⟨w.heap.size, 0, none⟩ : Addr).add j) = some u := by
  intro j u hj
  obtain rfl : j = 0 := by
    rcases Nat.eq_zero_or_pos j with h | h
    · exact h
    · rw [List.getElem?_eq_none (by show 1 ≤ j; exact h)] at hj; cases hj
  cases hj
  refine (cell_of (cs := #[v]) (t := t) (fr := (0, 0)) ?_).trans rfl
  show (w.heap.push _)[w.heap.size]? = _
  rw [Array.getElem?_push_size]
section
variable {S : Nat → Prop} {b : Nat} {tk kn la v1 v2 bg v3 : Value} {d bl : ByteArray} {fs : List ByteArray} {w w' : World}
theorem PC.c0 (h : PC S b tk kn la v1 v2 bg v3 d bl fs w) : w.cell? ⟨b, 0, none⟩ = some tk := cell_of h.cell
theorem PC.c3 (h : PC S b tk kn la v1 v2 bg v3 d bl fs w) : w.cell? ⟨b, 3, none⟩ = some v1 := cell_of h.cell
theorem PC.c4 (h : PC S b tk kn la v1 v2 bg v3 d bl fs w) : w.cell? ⟨b, 4, none⟩ = some v2 := cell_of h.cell
theorem PC.c6 (h : PC S b tk kn la v1 v2 bg v3 d bl fs w) : w.cell? ⟨b, 6, none⟩ = some v3 := cell_of h.cell
theorem PC.fz (h : PC S b tk kn la v1 v2 bg v3 d bl fs w) (o : Nat) : w.frozen? ⟨b, o, none⟩ = false := by
  unfold World.frozen?; rw [h.cell]; simp
theorem fz_of {cs : Array Value} {T : TypeId} (h : w.heap[b]? = some (.cells cs T (0, 0))) (o : Nat) : w.frozen? ⟨b, o, none⟩ = false := by
  unfold World.frozen?; rw [h]; simp
theorem alloc_size (w : World) (o : Obj) : (w.alloc o).heap.size = w.heap.size + 1 := Array.size_push _
end

set_option maxHeartbeats 1600000 in
theorem b1_short {S : Nat → Prop} {b : Nat} {tk kn la v1 v2 bg v3 : Value} {d bl : ByteArray} {fs : List ByteArray} {w : World} (x : UInt8) (h : PC S b tk kn la v1 v2 bg v3 d bl fs w) (hlen : bl.size < 7) :
    Calls Tryd.prog 49 #[.pointer (some ⟨b, 0, none⟩), .int .u8 (x.toNat : Int)] w fun e w' => e = .returned (.tuple #[]) ∧
      ∃ v2', PC S b tk kn la v1 v2' bg v3 d (bl.push x) fs w' ∧ FrS S w w' := by
  obtain ⟨i0, hi, hz0, hz1, hz2⟩ := info5
  have hBw := h.hS
  have h1 : PC S b tk kn la v1 v2 bg v3 d bl fs (w.alloc (.cells #[.int .u8 (x.toNat : Int)] 5)) := h.below ((Below.refl _ w).alloc (Nat.le_refl _) _)
  have b1 : FrS S w (w.alloc (.cells #[.int .u8 (x.toNat : Int)] 5)) := (FrS.refl S w).alloc hBw _
  have c4 := h.c4
  go_enter Tryd.func49, Tryd.ntmps49
  go_wp2_with (at_builtin; refine wpList_append_at rfl _ _ 47 rfl 0 5 i0 (.int .u8 0) 1 1 Tryd.underlying47 hi hz0 hz1 hz2 rfl (by decide) _ _ _ rfl h1.r2 ⟨w.heap.size, 0, none⟩ 1 1 [.int .u8 (x.toNat : Int)] rfl rfl (cell_one w 5 _) ?c3 (by decide) ?c4 ?c5 ?c6 ?_)
  case c3 => intro u hu; simp only [List.mem_cons, List.not_mem_nil, or_false] at hu; subst hu; rfl
  case c4 => unfold maxLen; omega
  case c5 => omega
  case c6 => exact Nat.zero_le _
  intro v' w2 hown' hgrow hwh
  rw [← strCells_push, show bl.size + 1 = (bl.push x).size from by rw [ByteArray.size_push]] at hown'
  have hb2 := grown_cell h1 hgrow (ownsRow_neb h1.r2 h1.cell (by decide))
  have f4 := fz_of hb2 4
  have d4 : w2.cell? ⟨b, 4, none⟩ = some v2 := cell_of hb2
  have h2 := h1.grown2 hown' hgrow (by rw [alloc_size]; exact hwh)
  obtain ⟨ao, cap, hv⟩ := ownsRow_slice hown'
  rw [ByteArray.size_push] at hv
  subst hv
  have e4 := h2.c4
  have hl8 : ((bl.size : Nat) : Int) + 1 < 8 := by omega
  go_wp2
  refine bodyPost_ret (results_none rfl _ _ _) rfl ⟨rfl, _, h2, ?_⟩
  exact (b1.grown hgrow h1.hS h1.s2).trans (((OnlyB.refl b w2).setCell 4 _).fr h.hb)
theorem chk_calls {W0 : World} (hG : GOk G0 W0) {w : World} (hold : ∀ n, n < W0.heap.size → w.heap[n]? = W0.heap[n]?) (hsz : W0.heap.size ≤ w.heap.size) (s : ByteArray) (hs : s.size < 2 ^ 62) :
    Calls Tryd.prog 12 #[.string s] w fun e w' => e = .returned (.tuple #[.string (chkS s), .int .i64 (chkW s), .int .i64 (chkE s)]) ∧ Below w.heap.size w w' :=
  calls_flat (okChk tabC_ok) hG hold hsz (args := [.string s]) rfl (v := .tuple ⟨[.string (chkS s), .int .i64 (chkW s), .int .i64 (chkE s)]⟩) rfl ⟨hs, rfl, rfl⟩
theorem old_below {W0 w w' : World} {B : Nat} (hB : W0.heap.size ≤ B) (hold : ∀ n, n < W0.heap.size → w.heap[n]? = W0.heap[n]?) (h : Below B w w') : ∀ n, n < W0.heap.size → w'.heap[n]? = W0.heap[n]? :=
  fun n hn => (h.block n (Nat.lt_of_lt_of_le hn hB)).trans (hold n hn)
theorem old_fr {W0 w w' : World} {S : Nat → Prop} (hB : ∀ k, k < W0.heap.size → ¬ S k) (hold : ∀ n, n < W0.heap.size → w.heap[n]? = W0.heap[n]?) (h : FrS S w w') : ∀ n, n < W0.heap.size → w'.heap[n]? = W0.heap[n]? :=
  fun n hn => (h.block n (hB n hn)).trans (hold n hn)
theorem size_le {W0 w : World} {S : Nat → Prop} (hW : ∀ k, k < W0.heap.size → ¬ S k) (hS : ∀ k, w.heap.size ≤ k → S k) : W0.heap.size ≤ w.heap.size := by
  rcases Nat.lt_or_ge w.heap.size W0.heap.size with h | h
  · exact absurd (hS _ (Nat.le_refl _)) (hW _ h)
  · exact h
theorem chkE_cases (q : ByteArray) (h : q.size = 8) : (chkE q = 0 ∧ (chkS q).size = 7) ∨ (chkE q = 6 ∧ (chkS q).size = 0) := by
  unfold chkE chkS
  rw [if_pos h, if_pos h]
  by_cases h1 : syn q = 0
  · left; rw [if_pos (Or.inl h1), if_pos h1]; exact ⟨rfl, by rw [ByteArray.size_extract]; omega⟩
  · by_cases h2 : lg (syn q) < 63
    · left; rw [if_pos (Or.inr h2), if_neg h1, if_pos h2]
      refine ⟨rfl, ?_⟩
      have h7 : (q.extract 0 7).size = 7 := by rw [ByteArray.size_extract]; omega
      unfold fixS
      split
      · unfold flipS flipV
        rw [bytesOf_size, List.length_set]
        show (bytesV (q.extract 0 7)).length = 7
        rw [bytesV_length, h7]
      · exact h7
    · right; rw [if_neg (by intro h; rcases h with h | h; exact h1 h; exact h2 h), if_neg h1, if_neg h2]
      exact ⟨rfl, rfl⟩
theorem ownsRow_base {w : World} {B e size : Nat} {ao : Option Addr} {n n' cap : Nat} {xs : List Value} (h : w.ownsRow B e size (.slice ao n' cap) n xs) (hn : 0 < n) : n ≤ cap ∧ ∃ g, ao = some ⟨g, 0, none⟩ := by
  rcases h.2 with ⟨_, h2⟩ | ⟨g, cap', cur, e1, e2, e3, e4, e5⟩
  · omega
  · injection e1 with q1 q2 q3
    subst q1 q3
    exact ⟨e4, g, rfl⟩
theorem cut_row (W : World) (ao : Option Addr) (cap : Nat) (h : 8 ≤ cap) (hao : ∃ g, ao = some ⟨g, 0, none⟩) : (Instr.slice 47 (.slice ao 8 cap) none (some (.int .i64 0)) none).run Tryd.prog W = .ok (.slice ao 0 cap) W := by
  obtain ⟨g, rfl⟩ := hao
  have he : Tryd.prog.elem 47 = 5 := by kernel_rfl
  rw [run_slice_h W 47 _ _ _ (by rw [he]; exact Tryd.underlying47) .i64 0 (by omega) (by omega), he]
  obtain ⟨i0, hi, hz0, hz1, hz2⟩ := info5
  have hs : (sizeOf 5).run Tryd.prog W = .ok 1 W := by simp [sizeOf, typeInfo, hi, hz1]
  rw [hs]
  have hne : ¬ cap = 0 := by omega
  simp [Result.andThen, sliced, hne, Addr.add]
end Go.Am.Clt
