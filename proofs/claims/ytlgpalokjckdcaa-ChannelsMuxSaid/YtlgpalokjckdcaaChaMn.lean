/-
 Channels: the law of muxes, walked. Own work; printed by a program.
-/
import Derived.Test.YtlgpalokjckdcaaChaMm
import Derived.Deep.LoopGhost
namespace Go.Am.Cha
open Go Go.Am Go.Am.Lib Go.Lib Go.Proofs Go.RowKit
open Go.Am.Own
open Go.Am.Tmf (FS FAt RS RAt RC OkF idleL Rel rs0 fs0)
set_option maxRecDepth 100000

variable {w0 : World}
theorem six {kr ch : Int} (h : (kr = 0 ∨ kr = 1 ∨ kr = 2) ∨ (kr = 7 ∧ ch = 0) ∨ (kr = 7 ∧ ¬ ch = 0) ∨ (3 ≤ kr ∧ kr < 7)) {G : Prop} (h0 : kr = 0 → G) (h1 : kr = 1 → G) (h2 : kr = 2 → G) (h7 : kr = 7 → ch = 0 → G) (h8 : kr = 7 → ¬ ch = 0 → G) (h9 : 3 ≤ kr ∧ kr < 7 → G) : G := by
 rcases h with (h | h | h) | ⟨h, h'⟩ | ⟨h, h'⟩ | h
 · exact h0 h
 · exact h1 h
 · exact h2 h
 · exact h7 h h'
 · exact h8 h h'
 · exact h9 h
set_option maxHeartbeats 12800000 in
theorem mux_yes (c z : Nat) (P Q : Nat → Int) (ao : Option Addr) (n cap : Nat) (hn : n ≤ 200) (hc255 : c ≤ 255) (hz32 : 32 ≤ z) (hz200 : z ≤ 200) (hPQ : ∀ k, k < 8 → okPQ P Q k) (hcs : OpsM w0 ao n) :
 Calls Try.prog 6 #[.agg (setC ((c : Nat) : Int) ((z : Nat) : Int) P Q), .slice ao n cap] w0 fun e w' => e = .returned (.bool true) ∧ Below w0.heap.size w0 w' := by
 have hn' : ¬ (200 : Int) < ((n : Nat) : Int) := by omega
 have hb0 := (Below.refl _ w0).alloc (Nat.le_refl _) (.cells (setC ((c : Nat) : Int) ((z : Nat) : Int) P Q) 40)
 have hx0 := heap_alloc_new w0 (.cells (setC ((c : Nat) : Int) ((z : Nat) : Int) P Q) 40)
 obtain ⟨W0, hW0⟩ : ∃ W, w0.alloc (.cells (setC ((c : Nat) : Int) ((z : Nat) : Int) P Q) 40) = W := ⟨_, rfl⟩
 rw [hW0] at hb0 hx0
 have hs := shown_calls W0
 have cM := fun w => (newmux_at ((c : Nat) : Int) ((z : Nat) : Int) P Q w).mono fun e w' hh => hh.1 ⟨by omega, by omega, by omega, by omega, hPQ⟩
 have cR := fun w => (rnewmux_at ((c : Nat) : Int) ((z : Nat) : Int) P Q w).mono fun e w' hh => hh.1 ⟨by omega, by omega, by omega, by omega, hPQ⟩
 simp only [Int.toNat_natCast] at cM cR
 have hI0 := okI_made hc255 hz32 hz200 hPQ
 have hA0 : Alike ⟨c, z, 0, sr0 z P Q⟩ (fun _ => rs0 z) := alike_made hz32 hz200
 have CM := Lib.hid cM
 have CR := Lib.hid cR
 have HI0 := Lib.hid (And.intro hI0 hA0)
 clear cM cR hI0 hA0 hPQ hc255 hz32 hz200
 go_enter Try.func6, Try.ntmps6
 go_wp2_with (go_at_call 8; refine hs.mono ?_; clear hs; rintro e W1 ⟨rfl, b1⟩; have hx1 := (b1.block _ (Array.getElem?_eq_some_iff.1 hx0).1).trans hx0; have x0 : W1.cell? ⟨w0.heap.size, 0, none⟩ = some (.int .i64 ((c : Nat) : Int)) := cell_of hx1; have x1 : W1.cell? ⟨w0.heap.size, 1, none⟩ = some (.int .i64 ((z : Nat) : Int)) := cell_of hx1; have x2 : W1.cell? ⟨w0.heap.size, 2, none⟩ = some (.int .i64 (P 0)) := cell_of hx1; have x3 : W1.cell? ⟨w0.heap.size, 3, none⟩ = some (.int .i64 (P 1)) := cell_of hx1; have x4 : W1.cell? ⟨w0.heap.size, 4, none⟩ = some (.int .i64 (P 2)) := cell_of hx1; have x5 : W1.cell? ⟨w0.heap.size, 5, none⟩ = some (.int .i64 (P 3)) := cell_of hx1; have x6 : W1.cell? ⟨w0.heap.size, 6, none⟩ = some (.int .i64 (P 4)) := cell_of hx1; have x7 : W1.cell? ⟨w0.heap.size, 7, none⟩ = some (.int .i64 (P 5)) := cell_of hx1; have x8 : W1.cell? ⟨w0.heap.size, 8, none⟩ = some (.int .i64 (P 6)) := cell_of hx1; have x9 : W1.cell? ⟨w0.heap.size, 9, none⟩ = some (.int .i64 (P 7)) := cell_of hx1; have x10 : W1.cell? ⟨w0.heap.size, 10, none⟩ = some (.int .i64 (Q 0)) := cell_of hx1; have x11 : W1.cell? ⟨w0.heap.size, 11, none⟩ = some (.int .i64 (Q 1)) := cell_of hx1; have x12 : W1.cell? ⟨w0.heap.size, 12, none⟩ = some (.int .i64 (Q 2)) := cell_of hx1; have x13 : W1.cell? ⟨w0.heap.size, 13, none⟩ = some (.int .i64 (Q 3)) := cell_of hx1; have x14 : W1.cell? ⟨w0.heap.size, 14, none⟩ = some (.int .i64 (Q 4)) := cell_of hx1; have x15 : W1.cell? ⟨w0.heap.size, 15, none⟩ = some (.int .i64 (Q 5)) := cell_of hx1; have x16 : W1.cell? ⟨w0.heap.size, 16, none⟩ = some (.int .i64 (Q 6)) := cell_of hx1; have x17 : W1.cell? ⟨w0.heap.size, 17, none⟩ = some (.int .i64 (Q 7)) := cell_of hx1)
 have cM := CM.out W1
 unfold arr8 at cM
 go_wp2_with (go_at_call 15; refine cM.mono ?_; clear cM; rintro e W2 ⟨mb, g, gc, bk, rfl, hm, b2⟩; have hx2 := (b2.block _ (Array.getElem?_eq_some_iff.1 hx1).1).trans hx1; have y0 : W2.cell? ⟨w0.heap.size, 0, none⟩ = some (.int .i64 ((c : Nat) : Int)) := cell_of hx2; have y1 : W2.cell? ⟨w0.heap.size, 1, none⟩ = some (.int .i64 ((z : Nat) : Int)) := cell_of hx2; have y2 : W2.cell? ⟨w0.heap.size, 2, none⟩ = some (.int .i64 (P 0)) := cell_of hx2; have y3 : W2.cell? ⟨w0.heap.size, 3, none⟩ = some (.int .i64 (P 1)) := cell_of hx2; have y4 : W2.cell? ⟨w0.heap.size, 4, none⟩ = some (.int .i64 (P 2)) := cell_of hx2; have y5 : W2.cell? ⟨w0.heap.size, 5, none⟩ = some (.int .i64 (P 3)) := cell_of hx2; have y6 : W2.cell? ⟨w0.heap.size, 6, none⟩ = some (.int .i64 (P 4)) := cell_of hx2; have y7 : W2.cell? ⟨w0.heap.size, 7, none⟩ = some (.int .i64 (P 5)) := cell_of hx2; have y8 : W2.cell? ⟨w0.heap.size, 8, none⟩ = some (.int .i64 (P 6)) := cell_of hx2; have y9 : W2.cell? ⟨w0.heap.size, 9, none⟩ = some (.int .i64 (P 7)) := cell_of hx2; have y10 : W2.cell? ⟨w0.heap.size, 10, none⟩ = some (.int .i64 (Q 0)) := cell_of hx2; have y11 : W2.cell? ⟨w0.heap.size, 11, none⟩ = some (.int .i64 (Q 1)) := cell_of hx2; have y12 : W2.cell? ⟨w0.heap.size, 12, none⟩ = some (.int .i64 (Q 2)) := cell_of hx2; have y13 : W2.cell? ⟨w0.heap.size, 13, none⟩ = some (.int .i64 (Q 3)) := cell_of hx2; have y14 : W2.cell? ⟨w0.heap.size, 14, none⟩ = some (.int .i64 (Q 4)) := cell_of hx2; have y15 : W2.cell? ⟨w0.heap.size, 15, none⟩ = some (.int .i64 (Q 5)) := cell_of hx2; have y16 : W2.cell? ⟨w0.heap.size, 16, none⟩ = some (.int .i64 (Q 6)) := cell_of hx2; have y17 : W2.cell? ⟨w0.heap.size, 17, none⟩ = some (.int .i64 (Q 7)) := cell_of hx2; clear x0 x1 x2 x3 x4 x5 x6 x7 x8 x9 x10 x11 x12 x13 x14 x15 x16 x17)
 have cR := CR.out W2
 unfold arr8 at cR
 go_wp2_with (go_at_call 22; refine cR.mono ?_; clear cR; rintro e W3 ⟨rb, rk, rfl, hrm, b3⟩; clear y0 y1 y2 y3 y4 y5 y6 y7 y8 y9 y10 y11 y12 y13 y14 y15 y16 y17)
 have hF0 := Fm.first (Below.refl W1.heap.size W1) rfl hm b2 hrm b3
 have hB01 : Below w0.heap.size w0 W1 := hb0.trans (b1.mono hb0.size)
 have HB01 := Lib.hid hB01
 clear hb0 b1 b2 b3 hx0 hx1 hx2 hm hrm hB01 hW0
 go_loopw [9] (fun iv wr => ∃ (i : Nat) (M : MS) (ys : Nat → RS), iv = .int .i64 (i : Nat) ∧ i ≤ n ∧ OkI i M ∧ Alike M ys ∧ Fm (fun k => k < W1.heap.size) W1 mb g gc bk rb rk M M ys wr) (fun iv _ => n - iOf iv)
 case atStart => exact ⟨0, _, _, rfl, Nat.zero_le _, HI0.out.1, HI0.out.2, hF0⟩
 case round =>
  clear hF0
  obtain ⟨i, M, ys, rfl, hi, hoI, hr, hF⟩ := hrel
  rcases Nat.lt_or_ge i n with hlt | hge
  · have hlt' : ((i : Nat) : Int) < ((n : Nat) : Int) := by omega
    have hmeas : n - (i + 1) < n - i := by omega
    have hN : i + 1 ≤ 2 ^ 20 := by omega
    have ho := hoI.ok
    obtain ⟨a, kd, ch, f, wd, rfl, k1, k2, k3, k4, kb, kf, kw⟩ := hcs i hlt
    obtain ⟨ai, hai⟩ : ∃ ai, a.add (i * 4) = ai := ⟨_, rfl⟩
    rw [hai] at k1 k2 k3 k4 kb
    have hbW : ai.block < W1.heap.size := Nat.lt_of_lt_of_le kb HB01.out.size
    have hbk : wr.heap[ai.block]? = w0.heap[ai.block]? := (hF.block ai.block hbW).trans (HB01.out.block ai.block kb)
    replace k1 : wr.cell? ai = some (.int .i64 kd) := (World.cell?_of_block hbk).trans k1
    replace k2 : wr.cell? ⟨ai.block, ai.off + 1, none⟩ = some (.int .i64 ch) := (World.cell?_of_block (a := ⟨ai.block, ai.off + 1, none⟩) hbk).trans k2
    replace k3 : wr.cell? ⟨ai.block, ai.off + 2, none⟩ = some (.string f) := (World.cell?_of_block (a := ⟨ai.block, ai.off + 2, none⟩) hbk).trans k3
    replace k4 : wr.cell? ⟨ai.block, ai.off + 3, none⟩ = some (.int .u32 ((wd : Nat) : Int)) := (World.cell?_of_block (a := ⟨ai.block, ai.off + 3, none⟩) hbk).trans k4
    clear kb hbk hbW
    have hF3 := hF.hold (.cells #[.int .i64 kd, .int .i64 ch, .string f, .int .u32 ((wd : Nat) : Int)] 65)
    have hback := fun M' ys' w => hF.back (o := .cells #[.int .i64 kd, .int .i64 ch, .string f, .int .u32 ((wd : Nat) : Int)] 65) (M' := M') (R' := M') (ys' := ys') (w := w)
    obtain ⟨V3, hV3⟩ : ∃ W, wr.alloc (.cells #[.int .i64 kd, .int .i64 ch, .string f, .int .u32 ((wd : Nat) : Int)] 65) = W := ⟨_, rfl⟩
    have hcb : V3.heap[wr.heap.size]? = some (.cells #[.int .i64 kd, .int .i64 ch, .string f, .int .u32 ((wd : Nat) : Int)] 65 (0, 0)) := by rw [← hV3]; exact heap_alloc_new wr _
    obtain ⟨ob, hob⟩ : ∃ z, wr.heap.size = z := ⟨_, rfl⟩
    rw [hV3, hob] at hF3
    rw [hob] at hcb
    obtain ⟨H, hH⟩ : ∃ H : Nat → Prop, H = fun k => k < W1.heap.size ∨ k = ob := ⟨_, rfl⟩
    have hHm : H ob := by rw [hH]; exact .inr rfl
    rw [hV3, hob, ← hH] at hback
    rw [← hH] at hF3
    clear hH
    have HC : RowKit.Hid (∀ M' R' ys' w', Fm H V3 mb g gc bk rb rk M' R' ys' w' → w'.cell? ⟨ob, 0, none⟩ = some (.int .i64 kd) ∧ w'.cell? ⟨ob, 1, none⟩ = some (.int .i64 ch) ∧ w'.cell? ⟨ob, 2, none⟩ = some (.string f) ∧ w'.cell? ⟨ob, 3, none⟩ = some (.int .u32 ((wd : Nat) : Int))) := fun M' R' ys' w' h' => ⟨cell_of ((h'.block ob hHm).trans hcb), cell_of ((h'.block ob hHm).trans hcb), cell_of ((h'.block ob hHm).trans hcb), cell_of ((h'.block ob hHm).trans hcb)⟩
    have HB := Lib.hid hback
    have hret := hF.toBelow
    clear hback hcb hF hHm
    obtain ⟨q0, q1, q2, q3⟩ := HC.out _ _ _ _ hF3
    rcases Nat.lt_or_ge 2000 f.size with hs | hs
    · have hs' : (2000 : Int) < ((f.size : Nat) : Int) := by omega
      have hret2 := (HB.out _ _ _ hF3).toBelow
      have hret3 := HB01.out.trans (hret2.mono HB01.out.size)
      go_wp2
      go_ret
      exact ⟨rfl, hret3⟩
    have hs' : ((f.size : Nat) : Int) ≤ 2000 := by omega
    clear hret
    have cP := pickM_calls kd 8 (by omega) (by omega) V3
    have h6 : (kd % 8 = 0 ∨ kd % 8 = 1 ∨ kd % 8 = 2) ∨ (kd % 8 = 7 ∧ ch = 0) ∨ (kd % 8 = 7 ∧ ¬ ch = 0) ∨ (3 ≤ kd % 8 ∧ kd % 8 < 7) := by omega
    obtain ⟨kr, hkr⟩ : ∃ r, kd % 8 = r := ⟨_, rfl⟩
    rw [hkr] at cP h6
    clear hkr
    refine six h6 ?k0 ?k1 ?k2 ?k7 ?k8 ?k9 <;> clear h6
    case' k0 =>
     rintro rfl
     have cN1 := fun w (h : Fm H V3 mb g gc bk rb rk M M ys w) => fm_add h ho ch f (by omega)
     have cN2 := fun w (h : Fm H V3 mb g gc bk rb rk (addZ M ch f) M ys w) => fm_radd h ho hN hr ch f (by omega)
     have hr' := alike_add hr ch f
     have ho' := okI_addZ hoI hN ch f
     obtain ⟨M', hM'⟩ : ∃ M', addZ M ch f = M' := ⟨_, rfl⟩
     obtain ⟨ys', hys'⟩ : ∃ y', addYs M ys ch f = y' := ⟨_, rfl⟩
     obtain ⟨ae, hae⟩ : ∃ s, addZE M ch f = s := ⟨_, rfl⟩
     rw [hM'] at ho'
     rw [hM', hys'] at hr'
     simp only [hM', hys', hae] at cN1 cN2
     have CN1 := Lib.hid cN1
     have CN2 := Lib.hid cN2
     clear cN1 cN2 hM' hys' hae
     go_wp2_with (go_at_call 17; refine cP.mono ?_; clear cP; rintro e V4 ⟨rfl, b4⟩; have hF4 := hF3.below b4; clear k1 k2 k3 k4 q0 q1 q2 q3 b4; obtain ⟨q0, q1, q2, q3⟩ := HC.out _ _ _ _ hF4)
     go_region_held3 (fun w' => w'.cell? ⟨ob, 1, none⟩ = some (.int .i64 ch) ∧ w'.cell? ⟨ob, 2, none⟩ = some (.string f)) (first | go_keep | assumption)
      (first
       | (go_at_call 19; refine (CN1.out _ (hF4.same (by exact rfl) (by exact rfl) (by exact rfl) (by exact rfl))).mono ?_; rintro e V5 ⟨rfl, h5⟩; obtain ⟨_, k5, k5', _⟩ := HC.out _ _ _ _ h5)
       | (go_at_call 23; refine (CN2.out _ (h5.same (by exact rfl) (by exact rfl) (by exact rfl) (by exact rfl))).mono ?_; rintro e Vz ⟨rfl, hz⟩; obtain ⟨_, k6, k6', _⟩ := HC.out _ _ _ _ hz))
    case' k1 =>
     rintro rfl
     have cN1 := fun w (h : Fm H V3 mb g gc bk rb rk M M ys w) => fm_add h ho ch f (by omega)
     have cN2 := fun w (h : Fm H V3 mb g gc bk rb rk (addZ M ch f) M ys w) => fm_radd h ho hN hr ch f (by omega)
     have hr' := alike_add hr ch f
     have ho' := okI_addZ hoI hN ch f
     obtain ⟨M', hM'⟩ : ∃ M', addZ M ch f = M' := ⟨_, rfl⟩
     obtain ⟨ys', hys'⟩ : ∃ y', addYs M ys ch f = y' := ⟨_, rfl⟩
     obtain ⟨ae, hae⟩ : ∃ s, addZE M ch f = s := ⟨_, rfl⟩
     rw [hM'] at ho'
     rw [hM', hys'] at hr'
     simp only [hM', hys', hae] at cN1 cN2
     have CN1 := Lib.hid cN1
     have CN2 := Lib.hid cN2
     clear cN1 cN2 hM' hys' hae
     go_wp2_with (go_at_call 17; refine cP.mono ?_; clear cP; rintro e V4 ⟨rfl, b4⟩; have hF4 := hF3.below b4; clear k1 k2 k3 k4 q0 q1 q2 q3 b4; obtain ⟨q0, q1, q2, q3⟩ := HC.out _ _ _ _ hF4)
     go_region_held3 (fun w' => w'.cell? ⟨ob, 1, none⟩ = some (.int .i64 ch) ∧ w'.cell? ⟨ob, 2, none⟩ = some (.string f)) (first | go_keep | assumption)
      (first
       | (go_at_call 19; refine (CN1.out _ (hF4.same (by exact rfl) (by exact rfl) (by exact rfl) (by exact rfl))).mono ?_; rintro e V5 ⟨rfl, h5⟩; obtain ⟨_, k5, k5', _⟩ := HC.out _ _ _ _ h5)
       | (go_at_call 23; refine (CN2.out _ (h5.same (by exact rfl) (by exact rfl) (by exact rfl) (by exact rfl))).mono ?_; rintro e Vz ⟨rfl, hz⟩; obtain ⟨_, k6, k6', _⟩ := HC.out _ _ _ _ hz))
    case' k2 =>
     rintro rfl
     have cN1 := fun w (h : Fm H V3 mb g gc bk rb rk M M ys w) => fm_add h ho ch f (by omega)
     have cN2 := fun w (h : Fm H V3 mb g gc bk rb rk (addZ M ch f) M ys w) => fm_radd h ho hN hr ch f (by omega)
     have hr' := alike_add hr ch f
     have ho' := okI_addZ hoI hN ch f
     obtain ⟨M', hM'⟩ : ∃ M', addZ M ch f = M' := ⟨_, rfl⟩
     obtain ⟨ys', hys'⟩ : ∃ y', addYs M ys ch f = y' := ⟨_, rfl⟩
     obtain ⟨ae, hae⟩ : ∃ s, addZE M ch f = s := ⟨_, rfl⟩
     rw [hM'] at ho'
     rw [hM', hys'] at hr'
     simp only [hM', hys', hae] at cN1 cN2
     have CN1 := Lib.hid cN1
     have CN2 := Lib.hid cN2
     clear cN1 cN2 hM' hys' hae
     go_wp2_with (go_at_call 17; refine cP.mono ?_; clear cP; rintro e V4 ⟨rfl, b4⟩; have hF4 := hF3.below b4; clear k1 k2 k3 k4 q0 q1 q2 q3 b4; obtain ⟨q0, q1, q2, q3⟩ := HC.out _ _ _ _ hF4)
     go_region_held3 (fun w' => w'.cell? ⟨ob, 1, none⟩ = some (.int .i64 ch) ∧ w'.cell? ⟨ob, 2, none⟩ = some (.string f)) (first | go_keep | assumption)
      (first
       | (go_at_call 19; refine (CN1.out _ (hF4.same (by exact rfl) (by exact rfl) (by exact rfl) (by exact rfl))).mono ?_; rintro e V5 ⟨rfl, h5⟩; obtain ⟨_, k5, k5', _⟩ := HC.out _ _ _ _ h5)
       | (go_at_call 23; refine (CN2.out _ (h5.same (by exact rfl) (by exact rfl) (by exact rfl) (by exact rfl))).mono ?_; rintro e Vz ⟨rfl, hz⟩; obtain ⟨_, k6, k6', _⟩ := HC.out _ _ _ _ hz))
    case' k7 =>
     rintro rfl hch
     have cN1 := fun w (h : Fm H V3 mb g gc bk rb rk M M ys w) => fm_clear h ho
     have cN2 := fun w (h : Fm H V3 mb g gc bk rb rk (clearJ M 8) M ys w) => fm_rclear h
     have hr' := alike_clear hr
     have ho' := okI_clear hoI hN
     have hcb : (ch == 0) = true := by rw [hch]; rfl
     obtain ⟨M', hM'⟩ : ∃ M', clearJ M 8 = M' := ⟨_, rfl⟩
     obtain ⟨ys', hys'⟩ : ∃ y', clearY ys 8 = y' := ⟨_, rfl⟩
     rw [hM'] at ho'
     rw [hM', hys'] at hr'
     simp only [hM', hys'] at cN1 cN2
     have CN1 := Lib.hid cN1
     have CN2 := Lib.hid cN2
     clear cN1 cN2 hM' hys' hch
     go_wp2_with (go_at_call 17; refine cP.mono ?_; clear cP; rintro e V4 ⟨rfl, b4⟩; have hF4 := hF3.below b4; clear k1 k2 k3 k4 q0 q1 q2 q3 b4; obtain ⟨q0, q1, q2, q3⟩ := HC.out _ _ _ _ hF4)
     go_wp2_with (go_at_call 24; refine (CN1.out _ hF4).mono ?_; rintro e V5 ⟨rfl, h5⟩)
     go_wp2_with (go_at_call 25; refine (CN2.out _ h5).mono ?_; rintro e Vz ⟨rfl, hz⟩)
    case' k8 =>
     rintro rfl hch
     have ho' := okI_up hoI (Nat.le_succ i) hN
     have hcb : (ch == 0) = false := by simp; exact hch
     clear hch
     obtain ⟨M', rfl⟩ : ∃ M', M' = M := ⟨_, rfl⟩
     obtain ⟨ys', rfl⟩ : ∃ y', y' = ys := ⟨_, rfl⟩
     have hr' := hr
     go_wp2_with (go_at_call 17; refine cP.mono ?_; clear cP; rintro e V4 ⟨rfl, b4⟩; have hF4 := hF3.below b4; clear k1 k2 k3 k4 q0 q1 q2 q3 b4; obtain ⟨q0, q1, q2, q3⟩ := HC.out _ _ _ _ hF4)
     have hz := hF4
    case' k9 =>
     intro h6
     have e0 : (kr == 0) = false := by simp; omega
     have e1 : (kr == 1) = false := by simp; omega
     have e2 : (kr == 2) = false := by simp; omega
     have e7 : (kr == 7) = false := by simp; omega
     clear h6
     have cN1 := fun w (h : Fm H V3 mb g gc bk rb rk M M ys w) => fm_next h ho wd kw
     have cN2 := fun w (h : Fm H V3 mb g gc bk rb rk (nextM M) M ys w) => fm_rnext h ho hN hr wd kw
     have hr' := alike_next hr
     have ho' := okI_next hoI hN
     obtain ⟨M', hM'⟩ : ∃ M', nextM M = M' := ⟨_, rfl⟩
     obtain ⟨ys', hys'⟩ : ∃ y', nextYs M ys = y' := ⟨_, rfl⟩
     obtain ⟨ns, hns⟩ : ∃ s, nextS M wd = s := ⟨_, rfl⟩
     obtain ⟨ne, hne⟩ : ∃ s, nextE M = s := ⟨_, rfl⟩
     rw [hM'] at ho'
     rw [hM', hys'] at hr'
     simp only [hM', hys', hns, hne] at cN1 cN2
     have CN1 := Lib.hid cN1
     have CN2 := Lib.hid cN2
     clear cN1 cN2 hM' hys' hns hne
     go_wp2_with (go_at_call 17; refine cP.mono ?_; clear cP; rintro e V4 ⟨rfl, b4⟩; have hF4 := hF3.below b4; clear k1 k2 k3 k4 q0 q1 q2 q3 b4; obtain ⟨q0, q1, q2, q3⟩ := HC.out _ _ _ _ hF4)
     go_wp2_with (go_at_call 21; refine (CN1.out _ hF4).mono ?_; rintro e V5 ⟨rfl, h5⟩; obtain ⟨_, _, _, k5⟩ := HC.out _ _ _ _ h5)
     go_wp2_with (go_at_call 26; refine (CN2.out _ h5).mono ?_; rintro e Vz ⟨rfl, hz⟩)
    all_goals
     have cV1 := fun w (h : Fm H V3 mb g gc bk rb rk M' M' ys' w) (z : Int) => fm_wait h ho'.ok z
     have cV2 := fun w (h : Fm H V3 mb g gc bk rb rk M' M' ys' w) (z : Int) => fm_rwait h ho'.ok (by omega) hr' z
     have CV1 := Lib.hid cV1
     have CV2 := Lib.hid cV2
     have HZ := Lib.hid hz
     clear cV1 cV2 hz hF3
     go_wp2_with fail
     go_loopg [15] 10 (fun q kv wx => kv = .int .i64 (9 - (q : Int)) ∧ q ≤ 10 ∧ Fm H V3 mb g gc bk rb rk M' M' ys' wx)
     case atStart => exact ⟨rfl, by omega, HZ.out⟩
     case round =>
      obtain ⟨rfl, hq, hX⟩ := hrel
      cases gk with
      | zero =>
       have hq0 : ¬ (9 : Int) - ((0 : Nat) : Int) < 9 := by decide
       have HX := Lib.hid hX
       clear hX
       go_wp2
       exact ⟨⟨i + 1, M', ys', by push_cast; rfl, hlt, ho', hr', HB.out _ _ _ HX.out⟩, hmeas⟩
      | succ q =>
       obtain ⟨zz, hzz⟩ : ∃ x, (9 : Int) - ((q + 1 : Nat) : Int) = x := ⟨_, rfl⟩
       have hz9 : zz < 9 := by omega
       have hzm : -1 ≤ zz := by omega
       have HZZ : RowKit.Hid (zz + 1 = 9 - ((q : Nat) : Int)) := by show zz + 1 = _; omega
       rw [hzz]
       clear hzz
       obtain ⟨wt, hwt⟩ : ∃ x, waitZ M' zz = x := ⟨_, rfl⟩
       have c1 := CV1.out _ hX zz
       have c2 := fun w h => CV2.out w h zz
       rw [hwt] at c1
       simp only [hwt] at c2
       have C2 := Lib.hid c2
       clear c2 hwt hX
       go_wp2_with (first
        | (go_at_call 18; refine c1.mono ?_; clear c1; rintro e V7 ⟨rfl, h7⟩; have c3 := C2.out _ h7)
        | (go_at_call 27; refine c3.mono ?_; clear c3; rintro e V8 ⟨rfl, h8⟩))
       go_roundg q
       case measure => omega
       case rel => exact ⟨by rw [← HZZ.out], by omega, h8⟩
  · have hge' : ¬ ((i : Nat) : Int) < ((n : Nat) : Int) := by omega
    have hb := HB01.out.trans (hF.toBelow.mono HB01.out.size)
    go_wp2
    go_ret
    exact ⟨rfl, hb⟩
end Go.Am.Cha
