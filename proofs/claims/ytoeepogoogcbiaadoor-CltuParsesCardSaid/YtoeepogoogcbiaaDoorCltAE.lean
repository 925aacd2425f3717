/-
  Cltu: a block that ends, and the unit goes on. Own work.
-/
import Derived.Test.YtoeepogoogcbiaaDoorCltAD
namespace Go.Am.Clt
open Go Go.Am Go.Am.Lib Go.Lib Go.Proofs Go.RowKit
set_option maxRecDepth 100000

set_option maxHeartbeats 3200000 in
theorem b1_more {W0 : World} (hG : GOk G0 W0) {S : Nat → Prop} {b : Nat} {tk kn la v1 v2 bg v3 : Value} {d bl : ByteArray} {fs : List ByteArray} {w : World} (x : UInt8) (h : PC S b tk kn la v1 v2 bg v3 d bl fs w) (hlen : bl.size = 7) (hE : chkE (bl.push x) = 0) (hdl : (d ++ chkS (bl.push x)).size < 350) (hd : d.size < 2 ^ 40) (hfs : fs.length < 2 ^ 40)
    (hW : ∀ k, k < W0.heap.size → ¬ S k) (hold : ∀ n, n < W0.heap.size → w.heap[n]? = W0.heap[n]?) :
    Calls Tryd.prog 49 #[.pointer (some ⟨b, 0, none⟩), .int .u8 (x.toNat : Int)] w fun e w' => e = .returned (.tuple #[]) ∧
      ∃ v1' v2', PC S b tk kn la v1' v2' bg v3 (d ++ chkS (bl.push x)) ⟨#[]⟩ fs w' ∧ FrS S w w' := by
  obtain ⟨i0, hi, hz0, hz1, hz2⟩ := info5
  have hBw := h.hS
  have h1 : PC S b tk kn la v1 v2 bg v3 d bl fs (w.alloc (.cells #[.int .u8 (x.toNat : Int)] 5)) := h.below ((Below.refl _ w).alloc (Nat.le_refl _) _)
  have b1 : FrS S w (w.alloc (.cells #[.int .u8 (x.toNat : Int)] 5)) := (FrS.refl S w).alloc hBw _
  have c4 := h.c4
  go_enter Tryd.func49, Tryd.ntmps49
  go_wp2_with (at_builtin; refine wpList_append_at rfl _ _ 47 rfl 0 5 i0 (.int .u8 0) 1 1 Tryd.underlying47 hi hz0 hz1 hz2 rfl (by decide) _ _ _ rfl h1.r2 ⟨w.heap.size, 0, none⟩ 1 1 [.int .u8 (x.toNat : Int)] rfl rfl (cell_one w 5 _) ?c3 (by decide) ?c4 ?c5 ?c6 ?_)
  case c3 => intro u hu; simp only [List.mem_cons, List.not_mem_nil, or_false] at hu; subst hu; rfl
  case c4 => unfold maxLen; omega
  case c5 => omega
  case c6 => exact Nat.zero_le _
  intro v' w2 hown' hgrow hwh
  obtain ⟨q, hq⟩ : ∃ q, bl.push x = q := ⟨_, rfl⟩
  rw [hq] at hE hdl
  have hqs : q.size = 8 := by rw [← hq, ByteArray.size_push]; omega
  rw [← strCells_push, hq, show 8 = q.size from hqs.symm] at hown'
  have hb2 := grown_cell h1 hgrow (ownsRow_neb h1.r2 h1.cell (by decide))
  have f4 := fz_of hb2 4
  have d4 : w2.cell? ⟨b, 4, none⟩ = some v2 := cell_of hb2
  have h2 := h1.grown2 hown' hgrow (by rw [alloc_size]; exact hwh)
  obtain ⟨ao, cap, hv⟩ := ownsRow_slice hown'
  rw [hqs] at hv
  subst hv
  have b2 : FrS S w (w2.setCell ⟨b, 4, none⟩ (.slice ao 8 cap)) := (b1.grown hgrow h1.hS h1.s2).trans (((OnlyB.refl b w2).setCell 4 _).fr h.hb)
  have e4 := h2.c4
  have hcv := conv_row h2.r2
  clear hown' hgrow hwh h1 b1
  go_wp2_with (go_at_call 12; refine (chk_calls hG (old_fr hW hold b2) (Nat.le_trans (size_le hW h.hS) b2.size) q (by rw [hqs]; decide)).mono ?_)
  obtain ⟨sv, hsv⟩ : ∃ sv, chkS q = sv := ⟨_, rfl⟩
  obtain ⟨cw, hcw⟩ : ∃ cw, chkW q = cw := ⟨_, rfl⟩
  rw [hsv, hcw, hE]
  rintro e W3 ⟨rfl, b3⟩
  have h3 := h2.below b3
  have b4 : FrS S w W3 := b2.trans (fr_of b3 h2.hS)
  have c3 := h3.c3
  have hsvs : sv.size ≤ 7 := by rw [← hsv]; rcases chkE_cases q hqs with h | h <;> omega
  clear h2 b2 b3 e4 hcv hb2 f4 d4
  go_wp2_with (at_builtin; refine wpList_append_at_string rfl _ _ 47 9 rfl 0 5 i0 Tryd.underlying47 rfl hi hz0 hz1 hz2 _ _ _ rfl h3.r1 sv rfl ?c7 ?c8 ?c9 ?_)
  case c7 => unfold maxLen; omega
  case c8 => omega
  case c9 => exact Nat.zero_le _
  intro v4 w4 hown4 hgrow4 hwh4
  obtain ⟨dd, hdd⟩ : ∃ dd, d ++ sv = dd := ⟨_, rfl⟩
  have hdds : dd.size = d.size + sv.size := by rw [← hdd, ByteArray.size_append]
  rw [← strCells_append, hdd, show d.size + sv.size = dd.size from hdds.symm] at hown4
  have hb4 := grown_cell h3 hgrow4 (ownsRow_neb h3.r1 h3.cell (by decide))
  have f3 := fz_of hb4 3
  have h4 := h3.grown1 hown4 hgrow4 hwh4
  obtain ⟨ao4, cap4, hv4⟩ := ownsRow_slice hown4
  subst hv4
  have d3 : w4.cell? ⟨b, 3, none⟩ = some v1 := cell_of hb4
  have d4 : w4.cell? ⟨b, 4, none⟩ = some (.slice ao 8 cap) := cell_of hb4
  have f4 := fz_of hb4 4
  have e3 := h4.c3
  rw [hsv, hdd] at hdl
  have hcut := cut_row (w4.setCell ⟨b, 3, none⟩ (.slice ao4 dd.size cap4)) ao cap (by have := (ownsRow_base h4.r2 (by omega)).1; omega) (ownsRow_base h4.r2 (by omega)).2
  have h5 := h4.cut2
  have b5 : FrS S w (w4.setCell ⟨b, 3, none⟩ (.slice ao4 dd.size cap4)) := (b4.grown hgrow4 h3.hS h3.s1).trans (((OnlyB.refl b w4).setCell 3 _).fr h.hb)
  have b6 := b5.trans (((OnlyB.refl b (w4.setCell ⟨b, 3, none⟩ (.slice ao4 dd.size cap4))).setCell 4 (.slice ao 0 cap)).fr h.hb)
  clear hdds
  go_wp2
  refine bodyPost_ret (results_none rfl _ _ _) rfl ⟨rfl, .slice ao4 dd.size cap4, .slice ao 0 cap, ?_, b6⟩
  rw [hq, hsv, hdd]
  exact h5
end Go.Am.Clt
