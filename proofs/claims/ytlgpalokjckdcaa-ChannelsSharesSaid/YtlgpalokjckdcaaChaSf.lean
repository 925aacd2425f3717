/-
  Channels: a mux and a demux side by side: the next frame, its feeding. Own work.
-/
import Derived.Test.YtlgpalokjckdcaaChaSe
import Derived.Test.YtlgpalokjckdcaaChaGK
namespace Go.Am.Cha
open Go Go.Am Go.Am.Lib Go.Lib Go.Proofs Go.RowKit
open Go.Am.Own
open Go.Am.Tmf (FS OkF idleL addE fs0 putT putTE getTE datT gWd)
set_option maxRecDepth 100000

variable {S : Nat → Prop} {mb g cap sb N : Nat} {bk : Nat → Nat} {w w0 w' : World} {M M' : MS} {D D' : Dm}
theorem Dx.nextF (h : Dx S w0 sb mb g cap bk M D w) (ho : OkM N M) (hw : waitJ M 8 ≠ []) {wd : Nat} (hwd : wd < 2 ^ 32) :
    Calls Try.prog 21 #[.pointer (some ⟨mb, 0, none⟩), .int .u32 ((wd : Nat) : Int)] w fun e w' => e = .returned (.tuple #[.string (frameK M (chosen M) wd), .int .i64 0]) ∧ Dx S w0 sb mb g cap bk (afterK M (chosen M)) D w' ∧ (∀ k, k < w.heap.size → ¬ S k → w'.heap[k]? = w.heap[k]?) := by
  have hk : chosen M < 8 := bests_lt (topS_mem (bests_ne hw))
  have hf := frame_ok ho hw hk hwd
  have hl : (⟨⟨((chooseM M).f (chosen M)).x.data idleL⟩⟩ : ByteArray).size ≤ 1000 := by
    have h1 : (((chooseM M).f (chosen M)).x.data idleL).length = M.size := hf.2.2.2.2.2.2.2.2.2
    have h2 := ho.hi
    show (((chooseM M).f (chosen M)).x.data idleL).length ≤ 1000
    omega
  have hfi : ((chooseM M).f (chosen M)).x.first idleL ≤ 100000 := by
    have h1 := first_ok ((chooseM M).f (chosen M)).x
    have h2 := (ho.choose hw).sz _ hk
    have h3 := (chooseM_same M).1
    have h4 := ho.hi
    omega
  have h1 := next_full h.mc ho hw wd hwd (k := chosen M) rfl rfl rfl hl hfi rfl
  rw [hf.1] at h1
  exact h1.mono fun _ _ hh => ⟨hh.1, h.mux hh.2.1 hh.2.2, fun k _ hk => hh.2.2.block k hk⟩
theorem Dx.addF (h : Dx S w0 sb mb g cap bk M D w) (ho : OkM N M) {k : Nat} (hk : k < 8) (p : ByteArray) (hp : p.size ≤ 2 ^ 40) :
    Calls Try.prog 19 #[.pointer (some ⟨mb, 0, none⟩), .int .i64 ((k : Nat) : Int), .string p] w fun e w' => e = .returned (.int .i64 (addE (M.f k).x p)) ∧ Dx S w0 sb mb g cap bk (addM M k p) D w' ∧ (∀ k, k < w.heap.size → ¬ S k → w'.heap[k]? = w.heap[k]?) :=
  (madd_at h.mc ho hk p hp).mono fun _ _ hh => ⟨hh.1, h.mux hh.2.1 hh.2.2, fun k _ hk => hh.2.2.block k hk⟩
theorem Dx.waitF (h : Dx S w0 sb mb g cap bk M D w) (ho : OkM N M) {k : Nat} (hk : k < 8) :
    Calls Try.prog 18 #[.pointer (some ⟨mb, 0, none⟩), .int .i64 ((k : Nat) : Int)] w fun e w' => e = .returned (.int .i64 (((M.f k).x.wait : Nat) : Int)) ∧ Below w.heap.size w w' := mwait_at h.mc ho hk
theorem Dx.feedF (hN : N ≤ 400) (h : Dx S w0 sb mb g cap bk M D w) (ok : OkD N D) {s : ByteArray} (hs : s.size ≤ 2 ^ 40) :
    Calls Try.prog 11 #[.pointer (some ⟨sb, 0, none⟩), .string s] w fun e w' => (∃ v, e = .returned (.tuple #[.agg (arrC (feedG D s).2 v), .int .i64 (feedE D s)]) ∧ w'.ownsRow w.heap.size 9 1 v (feedG D s).2.pk.length (cellS (feedG D s).2.pk)) ∧ Dx S w0 sb mb g cap bk M (feedG D s).1 w' ∧ (∀ k, k < w.heap.size → k ≠ sb → w'.heap[k]? = w.heap[k]?) :=
  (dfeed_at hN h.dm ok s hs).mono fun _ _ ⟨v, h1, h2, h3, h4⟩ => ⟨⟨v, h1, h2⟩, h.demux h3 h4, fun k hl hn => h4.block k fun e => by omega⟩
/-- What a demux of the same craft says of a mux's frame. -/
theorem feed_frame (ho : OkM N M) (hw : waitJ M 8 ≠ []) {k wd : Nat} (hk : k < 8) (hwd : wd < 2 ^ 32) (hc : D.craft = M.craft) (hs : D.size = M.size) :
    feedE D (frameK M k wd) = 0 ∧ (feedG D (frameK M k wd)).2.ch = k ∧ (feedG D (frameK M k wd)).1.craft = D.craft ∧ (feedG D (frameK M k wd)).1.size = D.size ∧ (frameK M k wd).size ≤ 212 := by
  obtain ⟨-, h1, h2, h3, -, -, -, h4, -, h5⟩ := frame_ok ho hw hk hwd
  have hE : feedE D (frameK M k wd) = 0 := by
    unfold feedE
    rw [if_neg (by rw [h1]; decide), if_neg]
    rw [h2, h4, hc, hs]
    rintro (e | e)
    · exact e rfl
    · exact e h5
  refine ⟨hE, ?_, ?_, ?_, (get_ok h1).1⟩
  · unfold feedG
    rw [if_neg (by rw [hE]; decide)]
    split
    · exact h3
    · exact h3
  · unfold feedG
    rw [if_neg (by rw [hE]; decide)]
    split <;> rfl
  · unfold feedG
    rw [if_neg (by rw [hE]; decide)]
    split <;> rfl
end Go.Am.Cha
