/-
  Channels: a mux's frames are got again. Own work; plain mathematics.
-/
import Derived.Test.YtlgpalokjckdcaaChaSc
import Derived.Test.YtlgpalokjckdcaaChaGJ
namespace Go.Am.Cha
open Go Go.Am Go.Am.Lib
open Go.Am.Tmf (FS OkF idleL addE fs0 putT putTE getTE datT gWd by2N)
set_option maxRecDepth 100000

theorem data_len {x : FS} (h : x.size ≤ 200) : (x.data idleL).length = x.size := by
  show ((x.pad idleL).q.take x.size).length = x.size
  unfold Tmf.FS.pad
  split
  · rename_i hlt
    show ((x.q ++ idleL (max (x.size - x.q.length) 7)).take x.size).length = x.size
    have hl := Tmf.idleL_len (n := max (x.size - x.q.length) 7) (by omega) (by omega)
    rw [List.length_take, List.length_append, hl]
    omega
  · rw [List.length_take]; show min x.size x.q.length = x.size; omega
theorem first_ok (x : FS) : x.first idleL < x.size ∨ x.first idleL = 2047 := by
  show Tmf.firstOf x.size (x.pad idleL).st < x.size ∨ Tmf.firstOf x.size (x.pad idleL).st = 2047
  cases (x.pad idleL).st with
  | nil => exact .inr rfl
  | cons a l =>
    rw [Tmf.firstOf_cons]
    split
    · rename_i h; exact .inl h
    · exact .inr rfl
theorem filled_same (M : MS) (l : List Nat) : (filled M l).size = M.size ∧ (filled M l).craft = M.craft ∧ (filled M l).master = M.master := by
  unfold filled
  split <;> exact ⟨rfl, rfl, rfl⟩
theorem chooseM_same (M : MS) : (chooseM M).size = M.size ∧ (chooseM M).craft = M.craft ∧ (chooseM M).master = M.master := filled_same M (bests M)
theorem filled_keep (M : MS) (l : List Nat) (j : Nat) : ((filled M l).f j).pr = (M.f j).pr ∧ ((filled M l).f j).sh = (M.f j).sh ∧ ((filled M l).f j).ct = (M.f j).ct := by
  unfold filled
  split
  · exact ⟨refillJ_pr M _ 8 j, refillJ_sh M _ 8 j, refillJ_ct M _ 8 j⟩
  · exact ⟨rfl, rfl, rfl⟩
/-- The frame of channel k. -/
def frameK (M : MS) (k wd : Nat) : ByteArray := putT ((M.craft : Nat) : Int) ((k : Nat) : Int) ((M.master : Nat) : Int) ((((fieldM (chooseM M) k).f k).ct : Nat) : Int) ((((chooseM M).f k).x.first idleL : Nat) : Int) ⟨⟨((chooseM M).f k).x.data idleL⟩⟩ ((wd : Nat) : Int)
theorem frame_ok {N : Nat} {M : MS} (h : OkM N M) (hw : waitJ M 8 ≠ []) {k : Nat} (hk : k < 8) {wd : Nat} (hwd : wd < 2 ^ 32) :
    putTE ((M.craft : Nat) : Int) ((k : Nat) : Int) ((M.master : Nat) : Int) ((((fieldM (chooseM M) k).f k).ct : Nat) : Int) ((((chooseM M).f k).x.first idleL : Nat) : Int) ⟨⟨((chooseM M).f k).x.data idleL⟩⟩ = 0 ∧
    getTE (frameK M k wd) = 0 ∧ fC (frameK M k wd) = M.craft ∧ fK (frameK M k wd) = k ∧ fM (frameK M k wd) = M.master ∧ fN (frameK M k wd) = ((fieldM (chooseM M) k).f k).ct ∧ fF (frameK M k wd) = ((chooseM M).f k).x.first idleL ∧ datT (frameK M k wd) = ⟨⟨((chooseM M).f k).x.data idleL⟩⟩ ∧ gWd (frameK M k wd) = wd ∧ (((chooseM M).f k).x.data idleL).length = M.size := by
  have hc := h.choose hw
  have hx := hc.x k hk
  have hsz : ((chooseM M).f k).x.size = M.size := (hc.sz k hk).trans (chooseM_same M).1
  have hlo := h.lo
  have hhi := h.hi
  have hd := data_len (x := ((chooseM M).f k).x) (by rw [hsz]; exact hhi)
  have hf := first_ok ((chooseM M).f k).x
  have hct : ((fieldM (chooseM M) k).f k).ct < 256 := by
    show (upd (chooseM M).f k _ k).ct < 256
    rw [upd_same]
    exact hc.ct k hk
  have hcr := h.craft
  have hma := h.master
  unfold frameK
  generalize ((fieldM (chooseM M) k).f k).ct = ct at hct ⊢
  generalize ((chooseM M).f k).x.first idleL = fi at hf ⊢
  generalize ((chooseM M).f k).x.data idleL = D at hd ⊢
  rw [hsz] at hd hf
  have hDs : (⟨⟨D⟩⟩ : ByteArray).size = M.size := hd
  have hv : Tmf.vldT ((M.craft : Nat) : Int) ((k : Nat) : Int) ((M.master : Nat) : Int) ((ct : Nat) : Int) ((fi : Nat) : Int) (⟨⟨D⟩⟩ : ByteArray).size = true := by
    unfold Tmf.vldT
    rw [hDs]
    exact decide_eq_true (by omega)
  have hp : putT ((M.craft : Nat) : Int) ((k : Nat) : Int) ((M.master : Nat) : Int) ((ct : Nat) : Int) ((fi : Nat) : Int) ⟨⟨D⟩⟩ ((wd : Nat) : Int) = Tmf.encT M.craft k M.master ct fi ⟨⟨D⟩⟩ wd := by
    unfold putT
    rw [if_pos hv]
    rfl
  refine ⟨by unfold putTE; rw [if_pos hv], ?_⟩
  rw [hp]
  have h0 := Tmf.enc_two (cr := M.craft) (ch := k) (ma := M.master) (co := ct) (fi := fi) (d := ⟨⟨D⟩⟩) (wd := wd) (by omega)
  have h1 := Tmf.enc_ma (cr := M.craft) (ch := k) (ma := M.master) (co := ct) (fi := fi) (d := ⟨⟨D⟩⟩) (wd := wd) hma hct
  refine ⟨Tmf.enc_get hv, ?_, ?_, h1.1, h1.2, Tmf.enc_fi (by omega), Tmf.enc_dat, Tmf.enc_wd hwd, hd⟩
  · unfold fC; rw [h0]; omega
  · unfold fK; rw [h0]; omega
end Go.Am.Cha
