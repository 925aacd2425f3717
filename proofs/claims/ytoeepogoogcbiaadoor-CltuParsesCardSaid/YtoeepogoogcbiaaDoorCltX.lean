/-
  Cltu: the reference's Put: its walk, and its summary. Own work.
-/
import Derived.Test.YtoeepogoogcbiaaDoorCltW
namespace Go.Am.Clt
open Go Go.Am Go.Am.Lib Go.Proofs Go.RowKit
set_option maxRecDepth 100000

theorem rblk_calls {W0 : World} (hG : GOk G0 W0) {w : World} (hold : ∀ n, n < W0.heap.size → w.heap[n]? = W0.heap[n]?) (hsz : W0.heap.size ≤ w.heap.size) (s : ByteArray) (hs : s.size < 2 ^ 62) :
    Calls Tryd.prog 11 #[.string s] w fun e w' => e = .returned (.tuple #[.string (blkR s), .int .i64 (blkE s)]) ∧ Below w.heap.size w w' :=
  calls_flat okRBk hG hold hsz (args := [.string s]) rfl (v := .tuple ⟨[.string (blkR s), .int .i64 (blkE s)]⟩) rfl ⟨hs, rfl, rfl⟩
def rep (n : Nat) : ByteArray := ⟨(Lib.repeatL [85] n).toArray⟩
theorem ext_all (t : ByteArray) : t.extract 0 t.size = t := by
  have h : (t.extract 0 t.size).size = t.size := by rw [ByteArray.size_extract]; omega
  apply bytes_eq h
  intro j hj
  rw [byteAt_cut, if_pos (by omega), Nat.zero_add]
theorem ext_ext (t : ByteArray) (i k : Nat) (h : i + k ≤ t.size) : (t.extract i t.size).extract 0 k = t.extract i (i + k) := by
  have h1 : ((t.extract i t.size).extract 0 k).size = k := by rw [ByteArray.size_extract, ByteArray.size_extract]; omega
  apply bytes_eq
  · rw [h1, ByteArray.size_extract]; omega
  · intro j hj
    rw [byteAt_cut, if_pos (by omega), byteAt_cut, if_pos (by omega), byteAt_cut, if_pos (by omega), Nat.zero_add]
theorem ext_rest (t : ByteArray) (i k : Nat) (h : i + k ≤ t.size) : (t.extract i t.size).extract k (t.extract i t.size).size = t.extract (i + k) t.size := by
  have h0 : (t.extract i t.size).size = t.size - i := by rw [ByteArray.size_extract]; omega
  have h1 : ((t.extract i t.size).extract k (t.extract i t.size).size).size = t.size - i - k := by rw [ByteArray.size_extract, h0]; omega
  apply bytes_eq
  · rw [h1, ByteArray.size_extract]; omega
  · intro j hj
    rw [byteAt_cut, if_pos (by omega), byteAt_cut, if_pos (by omega), byteAt_cut, if_pos (by omega), Nat.add_assoc]
theorem rep_succ (t : ByteArray) (n : Nat) : (t ++ ⟨#[85]⟩) ++ rep n = t ++ rep (n + 1) := by
  apply ByteArray.ext
  apply Array.toList_inj.1
  simp only [ByteArray.data_append, Array.toList_append, rep, Lib.repeatL, List.append_assoc]
theorem rep_zero (t : ByteArray) : t ++ rep 0 = t := by
  apply ByteArray.ext
  apply Array.toList_inj.1
  simp [ByteArray.data_append, rep, Lib.repeatL]

set_option maxHeartbeats 1600000 in
theorem rput_walk {W0 : World} (hG : GOk G0 W0) (s : ByteArray) (w : World) (hold : ∀ n, n < W0.heap.size → w.heap[n]? = W0.heap[n]?) (hsz : W0.heap.size ≤ w.heap.size) (hs0 : 0 < s.size) (hs1 : s.size ≤ 350) :
    Calls Tryd.prog 15 #[.string s] w fun e w' => e = .returned (.tuple #[.string ⟨(putL s).toArray⟩, .int .i64 0]) ∧ Below w.heap.size w w' := by
  have he : s.toList.isEmpty = false := by
    rw [Lib.toList_data]
    cases h : s.data.toList with
    | nil => have := size_list s; rw [h] at this; simp at this; omega
    | cons x l => rfl
  have hd : ¬ 350 < ((s.size : Nat) : Int) := by omega
  obtain ⟨P, hP⟩ : ∃ P, P = padS s := ⟨_, rfl⟩
  have HP : Hid (P = padS s) := hP
  have hP0 : s ++ rep (padN s.size) = P := hP.symm
  clear hP
  go_enter Tryd.func15, Tryd.ntmps15
  go_wp2
  go_loopw [0] (fun tv wr => ∃ (t : ByteArray) (n : Nat), tv = .string t ∧ Below w.heap.size w wr ∧ t.size + n ≤ 357 ∧ (t.size + n) % 7 = 0 ∧ n < 7 ∧ t ++ rep n = P)
    (fun tv _ => 400 - strLen tv)
  case atStart => exact ⟨s, padN s.size, rfl, Below.refl _ _, by unfold padN; omega, by unfold padN; omega, by unfold padN; omega, hP0⟩
  case round =>
    obtain ⟨t, n, rfl, hnx, h1, h2, h3, hp⟩ := hrel
    clear hP0
    cases n with
    | zero =>
      rw [rep_zero] at hp
      subst hp
      have hz : (((t.size : Nat) : Int) % 7 != 0) = false := by
        have : ((t.size : Nat) : Int) % 7 = 0 := by omega
        rw [this]; rfl
      go_wp2
      go_loopw [4, 5] (fun ov iv wr => ∃ (acc : List UInt8) (i f : Nat), ov = .string ⟨acc.toArray⟩ ∧ iv = .int .i64 (i : Nat) ∧ Below w.heap.size w wr ∧ t.size = i + 7 * f ∧ acc.length + 8 * f ≤ 500 ∧
          runB 60 t [235, 144] = runB (f + 1) (t.extract i t.size) acc)
        (fun ov iv _ => 1000 - strLen ov)
      case atStart =>
        refine ⟨[235, 144], 0, t.size / 7, rfl, rfl, hnx, by omega, by show 2 + 8 * (t.size / 7) ≤ 500; omega, ?_⟩
        rw [ext_all]
        exact runB_fuel 60 (t.size / 7) t _ (by omega) (by omega)
      case round =>
        obtain ⟨acc, i, f, rfl, rfl, hnw, hf, hacc, hr⟩ := hrel
        have HD : Hid (runB 60 t [235, 144] = runB (f + 1) (t.extract i t.size) acc) := hr
        clear hr hnx
        have hsize := hnw.size
        have hal : (⟨acc.toArray⟩ : ByteArray).size = acc.length := rfl
        cases f with
        | zero =>
          have hlt : ¬ ((i : Nat) : Int) < ((t.size : Nat) : Int) := by omega
          have h0 : (t.extract i t.size).size = 0 := by rw [ByteArray.size_extract]; omega
          have hr : runB 60 t [235, 144] = acc := by rw [HD.out, runB, if_pos h0]
          have hE : ((⟨acc.toArray⟩ : ByteArray) ++ (⟨#[0, 0, 0, 0, 0, 0, 0, 248]⟩ : ByteArray)) = ⟨(putL s).toArray⟩ := by
            unfold putL
            rw [← HP.out, hr]
            apply ByteArray.ext
            apply Array.toList_inj.1
            simp [ByteArray.data_append]
          have hsv : ¬ 9223372036854775807 < acc.length + 8 := by omega
          clear HD hr
          go_wp2
          go_ret2
          exact ⟨rfl, hnw⟩
        | succ f =>
          have hlt : ((i : Nat) : Int) < ((t.size : Nat) : Int) := by omega
          have hi8 : ((i : Nat) : Int) + 7 ≤ ((t.size : Nat) : Int) := by omega
          have hi7 : ((i : Nat) : Int) ≤ ((i : Nat) : Int) + 7 := by omega
          have hi0 : (0 : Int) ≤ ((i : Nat) : Int) := by omega
          have hsl : ∀ wx : World, (Instr.slice 9 (.string t) (some (.int .i64 ((i : Nat) : Int))) (some (.int .i64 (((i : Nat) : Int) + 7))) none).run Tryd.prog wx = .ok (.string (t.extract i (i + 7))) wx := by
            intro wx
            have eh : ((((i : Nat) : Int) + 7).toNat : Int) = ((i : Nat) : Int) + 7 := Int.toNat_of_nonneg (by omega)
            have ei : (((i : Nat) : Int) + 7).toNat = i + 7 := by omega
            simp [Instr.slice, run_underlying Tryd.underlying9, Instr.sliceBounds, run_sliceBound, eh, ei, hi0, hi7, hi8, (by omega : (0 : Int) ≤ ((i : Nat) : Int) + 7), (by omega : i ≤ i + 7)]
          have hi9 : i + 7 ≤ t.size := by omega
          have hti : (((i : Nat) : Int) + 7).toNat = i + 7 := by omega
          have hf' : i + 7 * (f + 1) = t.size := hf.symm
          have h0 : ¬ (t.extract i t.size).size = 0 := by rw [ByteArray.size_extract]; omega
          have e1 : (t.extract i t.size).extract 0 7 = t.extract i (i + 7) := ext_ext t i 7 (by omega)
          have e2 : (t.extract i t.size).extract 7 (t.extract i t.size).size = t.extract (i + 7) t.size := ext_rest t i 7 (by omega)
          have hr : runB 60 t [235, 144] = runB (f + 1) (t.extract (i + 7) t.size) (acc ++ (blkR (t.extract i (i + 7))).data.toList) := by rw [HD.out, runB, if_neg h0, e1, e2]
          have hx : (t.extract i (i + 7)).size = 7 := by rw [ByteArray.size_extract]; omega
          have hq := blk_size hx
          have cB := rblk_calls hG (w := wr) (fun n hn => (hnw.block n (Nat.lt_of_lt_of_le hn hsz)).trans (hold n hn)) (Nat.le_trans hsz hsize) (t.extract i (i + 7)) (by omega)
          generalize hbq : blkR (t.extract i (i + 7)) = q at hq hr cB
          have HR : Hid (runB 60 t [235, 144] = runB (f + 1) (t.extract (i + 7) t.size) (acc ++ q.data.toList)) := hr
          have hqs : q.data.toList.length = 8 := by rw [size_list]; exact hq
          have hE : ((⟨acc.toArray⟩ : ByteArray) ++ q) = ⟨(acc ++ q.data.toList).toArray⟩ := by
            apply ByteArray.ext
            apply Array.toList_inj.1
            simp [ByteArray.data_append]
          have hsv : ¬ 9223372036854775807 < acc.length + q.size := by omega
          clear HD hr e1 e2 h0 hbq hf
          go_wp2_with (go_at_call 11; refine cB.mono ?_)
          rintro e W3 ⟨rfl, b3⟩
          have hn3 : Below w.heap.size w W3 := hnw.trans (b3.mono hsize)
          clear cB b3
          go_wp2
          exact ⟨⟨acc ++ q.data.toList, i + 7, f, rfl, by rw [Int.natCast_add]; rfl, hn3, by omega, by rw [List.length_append, hqs]; omega, HR.out⟩, by show 1000 - (acc ++ q.data.toList).length < 1000 - acc.length; rw [List.length_append, hqs]; omega⟩
    | succ n =>
      have hz : (((t.size : Nat) : Int) % 7 != 0) = true := by
        have : ¬ ((t.size : Nat) : Int) % 7 = 0 := by omega
        simpa using this
      have hsu : ¬ 9223372036854775807 < t.size + (⟨#[85]⟩ : ByteArray).size := by show ¬ 9223372036854775807 < t.size + 1; omega
      have hsv : ¬ 9223372036854775807 < t.size + 1 := by omega
      have ht : (t ++ (⟨#[85]⟩ : ByteArray)).size = t.size + 1 := by rw [ByteArray.size_append]; rfl
      rw [← rep_succ] at hp
      go_wp2
      exact ⟨⟨t ++ ⟨#[85]⟩, n, rfl, hnx, by omega, by rw [ht]; omega, by omega, hp⟩, by show 400 - (t ++ (⟨#[85]⟩ : ByteArray)).size < 400 - t.size; omega⟩
end Go.Am.Clt
