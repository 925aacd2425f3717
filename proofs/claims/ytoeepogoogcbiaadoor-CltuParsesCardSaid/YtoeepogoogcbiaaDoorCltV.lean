/-
  Cltu: Put's walk, by the kit's contracts of strings.Builder. Own work.
-/
import Derived.Test.YtoeepogoogcbiaaDoorCltH
import Derived.Test.YtoeepogoogcbiaaDoorAmY
import Derived.Test.YtoeepogoogcbiaaDoorCltS
import Derived.WalkKit
import Derived.BigCall
import Derived.Lib.SmallJoins
import Derived.Lib.Split
namespace Go.Am.Clt
open Go Go.Am Go.Am.Lib Go.Proofs Go.RowKit
set_option maxRecDepth 100000

theorem blk_calls {W0 : World} (hG : GOk G0 W0) {w : World} (hold : ∀ n, n < W0.heap.size → w.heap[n]? = W0.heap[n]?) (hsz : W0.heap.size ≤ w.heap.size) (s : ByteArray) (hs : s.size < 2 ^ 62) :
    Calls Tryd.prog 10 #[.string s] w fun e w' => e = .returned (.tuple #[.string (blkR s), .int .i64 (blkE s)]) ∧ Below w.heap.size w w' :=
  calls_flat (okBlk tabC_ok) hG hold hsz (args := [.string s]) rfl (v := .tuple ⟨[.string (blkR s), .int .i64 (blkE s)]⟩) rfl ⟨hs, rfl, rfl⟩
theorem keepB {T e : TypeId} {B b : Nat} {p : Value} {bs : List Value} {w w' : World} (h : Lib.BuilderAt T e B b p bs w) (hb : Below w.heap.size w w') : Lib.BuilderAt T e B b p bs w' := by
  have hlt := h.lt
  obtain ⟨hB, v, hbk, ⟨h1, h2⟩, hne⟩ := h
  refine ⟨hB, v, (hb.block b hlt).trans hbk, ⟨h1, ?_⟩, hne⟩
  rcases h2 with h2 | ⟨g, cap, cur, e1, e2, e3, e4⟩
  · exact Or.inl h2
  · refine Or.inr ⟨g, cap, cur, e1, e2, (hb.block g ?_).trans e3, e4⟩
    rcases Nat.lt_or_ge g w.heap.size with h | h
    · exact h
    · rw [Array.getElem?_eq_none h] at e3; cases e3
theorem keepI {T e : TypeId} {B b : Nat} {bs : List Value} {w w' : World} (h : Lib.IsBuilder T e B b bs w) (hb : Below w.heap.size w w') : Lib.IsBuilder T e B b bs w' := by
  rcases h with h | h
  · exact Or.inl (keepB h hb)
  · exact Or.inr (keepB h hb)
theorem blk_size {q : ByteArray} (h : q.size = 7) : (blkR q).size = 8 := by
  rw [blkR_7 h]; unfold blkS; show (q ++ _).size = 8; rw [ByteArray.size_append, h, bytesOf_size]; rfl
theorem rep_len (n : Nat) : (Lib.repeatL [(85 : UInt8)] n).length = n := by
  rw [Lib.repeatL_length]; show n * 1 = n; omega
def strLen : Value → Nat
  | .string s => s.size
  | _ => 0
def runB : Nat → ByteArray → List UInt8 → List UInt8
  | 0, _, acc => acc
  | n + 1, t, acc => if t.size = 0 then acc else runB n (t.extract 7 t.size) (acc ++ (blkR (t.extract 0 7)).data.toList)
theorem runB_fuel : ∀ (n f : Nat) (t : ByteArray) (acc : List UInt8), t.size = 7 * f → f + 1 ≤ n → runB n t acc = runB (f + 1) t acc
  | 0, _, _, _, _, h => by omega
  | n + 1, 0, t, acc, ht, _ => by rw [runB, runB, if_pos (by omega), if_pos (by omega)]
  | n + 1, f + 1, t, acc, ht, h => by
    rw [runB, if_neg (by omega), runB, if_neg (by omega)]
    exact runB_fuel n f _ _ (by rw [ByteArray.size_extract]; omega) (by omega)
def padN (n : Nat) : Nat := (7 - n % 7) % 7
def padS (s : ByteArray) : ByteArray := s ++ ⟨(Lib.repeatL [85] (padN s.size)).toArray⟩
def putL (s : ByteArray) : List UInt8 := runB 60 (padS s) [235, 144] ++ [0, 0, 0, 0, 0, 0, 0, 248]

set_option maxHeartbeats 1600000 in
theorem put_walk {W0 : World} (hG : GOk G0 W0) (s : ByteArray) (w : World) (hold : ∀ n, n < W0.heap.size → w.heap[n]? = W0.heap[n]?) (hsz : W0.heap.size ≤ w.heap.size) (hs0 : 0 < s.size) (hs1 : s.size ≤ 350) :
    Calls Tryd.prog 14 #[.string s] w fun e w' => e = .returned (.tuple #[.string ⟨(putL s).toArray⟩, .int .i64 0]) ∧ Below w.heap.size w w' := by
  have he : s.toList.isEmpty = false := by
    rw [Lib.toList_data]
    cases h : s.data.toList with
    | nil => have := size_list s; rw [h] at this; simp at this; omega
    | cons x l => rfl
  have hd : ¬ 350 < ((s.size : Nat) : Int) := by omega
  have hlt : 0 < w.heap.size := by
    obtain ⟨_, h, _⟩ := hG 0 startV rfl
    omega
  have hst : ∀ j u, startV[j]? = some u → (w.alloc (.cells #[.pointer none, .slice none 0 0] 59)).cell? ((⟨0, 0, none⟩ : Addr).add j) = some u := by
    obtain ⟨_, h1, cs, t, fr, rest, h2, h3⟩ := hG 0 startV rfl
    have hw : (w.alloc (.cells #[.pointer none, .slice none 0 0] 59)).heap[0]? = some (.cells cs t fr) := by
      have e := ((Below.refl w.heap.size w).alloc (Nat.le_refl _) (.cells #[.pointer none, .slice none 0 0] 59)).block 0 hlt
      rw [e, hold 0 h1, h2]
    intro j u hu
    have hj : j < 2 := by
      rcases Nat.lt_or_ge j 2 with h | h
      · exact h
      · rw [List.getElem?_eq_none (by show 2 ≤ j; exact h)] at hu; cases hu
    have hc : cs[j]? = some u := by
      rw [← Array.getElem?_toList, h3, List.getElem?_append_left (by show j < 2; exact hj)]
      exact hu
    have ha : ((⟨0, 0, none⟩ : Addr).add j) = ⟨0, j, none⟩ := by simp [Addr.add]; intro h; exact h.symm
    rw [ha]
    unfold World.cell?
    rw [hw]
    exact hc
  have h0 : Lib.IsBuilder 59 5 w.heap.size w.heap.size [] (w.alloc (.cells #[.pointer none, .slice none 0 0] 59)) := Lib.fresh_isBuilder 59 5 w
  have b0 : Below w.heap.size w (w.alloc (.cells #[.pointer none, .slice none 0 0] 59)) := (Below.refl _ w).alloc (Nat.le_refl _) _
  go_enter Tryd.func14, Tryd.ntmps14
  go_wp2_with (go_at_call 30; refine (Tryd.Builder_Write w.heap.size w.heap.size [] ⟨0, 0, none⟩ 2 2 startV _ h0 rfl hst hlt (by decide) (by decide) b0.size).mono ?_)
  rintro e W1 rfl h1 b1
  obtain ⟨p, hp⟩ : ∃ p, s ++ (⟨(Lib.repeatL [85] (padN s.size)).toArray⟩ : ByteArray) = p := ⟨_, rfl⟩
  have hp0 := hp
  obtain ⟨u, hu⟩ : ∃ u, (⟨(Lib.repeatL [85] (padN s.size)).toArray⟩ : ByteArray) = u := ⟨_, rfl⟩
  rw [hu] at hp
  have cR : ∀ wx : World, Calls Tryd.prog 31 #[.string ⟨#[85]⟩, .int .i64 (-(((s.size : Nat) : Int) % 7) % 7)] wx fun e w' => e = .returned (.string u) ∧ Below wx.heap.size wx w' := by
    intro wx
    have hc : (-(((s.size : Nat) : Int) % 7) % 7) = ((padN s.size : Nat) : Int) := by unfold padN; omega
    rw [hc, ← hu]
    exact Tryd.strings_Repeat ⟨#[85]⟩ (padN s.size) wx (by unfold padN; omega) (by show 1 * padN s.size ≤ _; unfold padN; omega)
  go_wp2_with (go_at_call 31; refine (cR _).mono ?_)
  rintro e W2 ⟨rfl, b2⟩
  have hus : u.size = padN s.size := by
    rw [← hu]; show (Lib.repeatL [85] (padN s.size)).toArray.size = _
    rw [List.size_toArray, rep_len]
  have hps : p.size = s.size + padN s.size := by rw [← hp, ByteArray.size_append, hus]
  have hpad : padN s.size < 7 := by unfold padN; omega
  have hmod : ∃ f, p.size = 7 * f ∧ f ≤ 51 := ⟨(s.size + padN s.size) / 7, by unfold padN at hps ⊢; omega, by omega⟩
  obtain ⟨f0, hf0, hf1⟩ := hmod
  have hsu : ¬ 9223372036854775807 < s.size + u.size := by omega
  have hI0 : Lib.IsBuilder 59 5 w.heap.size w.heap.size (Lib.byteCells [235, 144]) W2 := Or.inr (keepB h1 b2)
  have hB0 : Below w.heap.size w W2 := b0.trans (b1.trans (b2.mono (Nat.le_trans b0.size b1.size)))
  clear hu hus cR hst h0 h1 b0 b1 b2 hd he
  go_wp2
  go_loopw [0] (fun tv wr => ∃ (t : ByteArray) (acc : List UInt8) (f : Nat), tv = .string t ∧ t.size = 7 * f ∧ f ≤ 51 ∧ acc.length + 8 * f ≤ 500 ∧ Lib.IsBuilder 59 5 w.heap.size w.heap.size (Lib.byteCells acc) wr ∧ Below w.heap.size w wr ∧
      runB 60 p [235, 144] = runB (f + 1) t acc)
    (fun tv _ => strLen tv)
  case atStart => exact ⟨p, [235, 144], f0, rfl, hf0, hf1, by show 2 + 8 * f0 ≤ 500; omega, hI0, hB0, runB_fuel 60 f0 p _ hf0 (by omega)⟩
  case round =>
    obtain ⟨t, acc, f, rfl, ht, hf, hacc, hI, hnx, hd⟩ := hrel
    have HD : Hid (runB 60 p [235, 144] = runB (f + 1) t acc) := hd
    clear hd hI0 hB0
    have hsize := hnx.size
    cases f with
    | zero =>
      have he : t.toList.isEmpty = true := by
        rw [Lib.toList_data]
        have := size_list t
        rw [ht] at this
        rw [List.eq_nil_of_length_eq_zero this]; rfl
      have hr : runB 60 p [235, 144] = acc := by rw [HD.out, runB, if_pos (by omega)]
      go_wp2_with (go_at_call 32; refine (Tryd.Builder_WriteString w.heap.size w.heap.size _ ⟨#[0, 0, 0, 0, 0, 0, 0, 248]⟩ _ hI (by rw [Lib.byteCells_length]; show acc.length + 8 ≤ _; omega) hsize).mono ?_)
      rintro e W3 ⟨rfl, h3, b3⟩
      have h3' : Lib.IsBuilder 59 5 w.heap.size w.heap.size (Lib.byteCells (acc ++ [0, 0, 0, 0, 0, 0, 0, 248])) W3 := by
        rw [Lib.strCells_eq, ← Lib.byteCells_append] at h3
        exact Or.inr h3
      have hput : acc ++ [0, 0, 0, 0, 0, 0, 0, 248] = putL s := by unfold putL padS; rw [hp0, hr]
      rw [hput] at h3'
      go_wp2_with (go_at_call 33; refine (Tryd.Builder_String_any w.heap.size w.heap.size _ _ h3' (Nat.le_trans hsize b3.size)).mono ?_)
      rintro e W4 ⟨rfl, b4⟩
      go_wp2
      go_ret2
      exact ⟨rfl, hnx.trans (b3.trans b4)⟩
    | succ f =>
      have he : t.toList.isEmpty = false := by
        rw [Lib.toList_data]
        have := size_list t
        cases h : t.data.toList with
        | nil => rw [h] at this; simp at this; omega
        | cons x l => rfl
      have hx : (t.extract 0 7).size = 7 := by rw [ByteArray.size_extract]; omega
      have hr : runB 60 p [235, 144] = runB (f + 1) (t.extract 7 t.size) (acc ++ (blkR (t.extract 0 7)).data.toList) := by rw [HD.out, runB, if_neg (by omega)]
      have HR : Hid (runB 60 p [235, 144] = runB (f + 1) (t.extract 7 t.size) (acc ++ (blkR (t.extract 0 7)).data.toList)) := hr
      have hq := blk_size hx
      have hqs : (blkR (t.extract 0 7)).data.toList.length = 8 := by rw [size_list]; exact hq
      have cB := blk_calls hG (w := wr) (fun n hn => (hnx.block n (Nat.lt_of_lt_of_le hn hsz)).trans (hold n hn)) (Nat.le_trans hsz hsize) (t.extract 0 7) (by omega)
      clear hr HD
      go_wp2_with (go_at_call 10; refine cB.mono ?_)
      rintro e W3 ⟨rfl, b3⟩
      have hI3 := keepI hI b3
      have hn3 : Below w.heap.size w W3 := hnx.trans (b3.mono hsize)
      generalize hbq : blkR (t.extract 0 7) = q at hq hqs HR
      go_wp2_with (go_at_call 32; refine (Tryd.Builder_WriteString w.heap.size w.heap.size _ q _ hI3 (by rw [Lib.byteCells_length, hq]; omega) hn3.size).mono ?_)
      rintro e W4 ⟨rfl, h4, b4⟩
      have h4' : Lib.IsBuilder 59 5 w.heap.size w.heap.size (Lib.byteCells (acc ++ q.data.toList)) W4 := by
        rw [Lib.strCells_eq, ← Lib.byteCells_append] at h4
        exact Or.inr h4
      have hn4 : Below w.heap.size w W4 := hn3.trans b4
      have hts : (t.extract 7 t.size).size = 7 * f := by rw [ByteArray.size_extract]; omega
      clear h4 hI hI3 b3 b4 hn3 hnx cB hbq
      go_wp2
      have HR' := HR.out
      rw [ht] at HR' hts
      exact ⟨⟨t.extract 7 (7 * (f + 1)), acc ++ q.data.toList, f, rfl, hts, by omega, by rw [List.length_append, hqs]; omega, h4', hn4, HR'⟩, by show (t.extract 7 (7 * (f + 1))).size < t.size; omega⟩
end Go.Am.Clt
