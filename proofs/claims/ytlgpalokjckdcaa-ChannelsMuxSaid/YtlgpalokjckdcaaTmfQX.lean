/-
  Tmframe: the reference's filler in memory. Own work.
-/
import Derived.Test.YtlgpalokjckdcaaTmfAD
import Derived.Test.YtlgpalokjckdcaaOwnBC
namespace Go.Am.Tmf
open Go Go.Am Go.Am.Lib Go.Lib Go.Proofs Go.RowKit
open Go.Am.Own
set_option maxRecDepth 100000

def strB (l : L8) : ByteArray := ⟨⟨l⟩⟩
def cellS (L : List L8) : List Value := L.map fun l => .string (strB l)
theorem cellS_len (L : List L8) : (cellS L).length = L.length := by unfold cellS; rw [List.length_map]
/-- The reference's filler: its block and its row. -/
structure RC (S : Nat → Prop) (b : Nat) (v : Value) (y : RS) (w : World) : Prop where
 hS : ∀ k, w.heap.size ≤ k → S k
 hb : S b
 cell : w.heap[b]? = some (.cells #[intV y.size, v, .bool y.begun, .string (strB y.rest)] 171 (0, 0))
 r : w.ownsRow 0 9 1 v y.L.length (cellS y.L)
 s : ∀ k, v.ownBlock = some k → S k
section
variable {S : Nat → Prop} {b : Nat} {v : Value} {y : RS} {w w' : World}
theorem RC.lt (h : RC S b v y w) : b < w.heap.size := by
 rcases Nat.lt_or_ge b w.heap.size with h' | h'
 · exact h'
 · have := h.cell; rw [Array.getElem?_eq_none h'] at this; cases this
theorem RC.keep (h : RC S b v y w) (hs : w.heap.size ≤ w'.heap.size) (hk : ∀ k, S k → k < w.heap.size → w'.heap[k]? = w.heap[k]?) : RC S b v y w' :=
 { hS := up_S h.hS hs, hb := h.hb, cell := (hk b h.hb h.lt).trans h.cell, r := ownsRow_keep h.r fun k hv => hk k (h.s k hv) (h.r.lt k hv).2, s := h.s }
theorem RC.below (h : RC S b v y w) (hb : Below w.heap.size w w') : RC S b v y w' := h.keep hb.size fun k _ hk => hb.block k hk
theorem RC.drew (h : RC S b v y w) : RC S b v y w.drew := ⟨h.hS, h.hb, h.cell, h.r, h.s⟩
theorem RC.c0 (h : RC S b v y w) : w.cell? ⟨b, 0, none⟩ = some (intV y.size) := cell_of h.cell
theorem RC.c1 (h : RC S b v y w) : w.cell? ⟨b, 1, none⟩ = some v := cell_of h.cell
theorem RC.c2 (h : RC S b v y w) : w.cell? ⟨b, 2, none⟩ = some (.bool y.begun) := cell_of h.cell
theorem RC.c3 (h : RC S b v y w) : w.cell? ⟨b, 3, none⟩ = some (.string (strB y.rest)) := cell_of h.cell
theorem RC.fz (h : RC S b v y w) (o : Nat) : w.frozen? ⟨b, o, none⟩ = false := fz_of h.cell o
/-- A cell that is no row is another. -/
theorem RC.setB (h : RC S b v y w) (t : Bool) : RC S b v { y with begun := t } (w.setCell ⟨b, 2, none⟩ (.bool t)) := by
 have ho : OnlyB b w (w.setCell ⟨b, 2, none⟩ (.bool t)) := (OnlyB.refl b w).setCell 2 _
 exact { hS := up_S h.hS (Nat.le_of_eq ho.size.symm), hb := h.hb, cell := set_at (o := 2) (v := .bool t) h.cell, r := ownsRow_keep h.r fun k hv => ho.rest k fun e => ownsRow_neb h.r h.cell (by decide) (by rw [hv, e]), s := h.s }
theorem RC.setR (h : RC S b v y w) (l : L8) : RC S b v { y with rest := l } (w.setCell ⟨b, 3, none⟩ (.string (strB l))) := by
 have ho : OnlyB b w (w.setCell ⟨b, 3, none⟩ (.string (strB l))) := (OnlyB.refl b w).setCell 3 _
 exact { hS := up_S h.hS (Nat.le_of_eq ho.size.symm), hb := h.hb, cell := set_at (o := 3) (v := .string (strB l)) h.cell, r := ownsRow_keep h.r fun k hv => ho.rest k fun e => ownsRow_neb h.r h.cell (by decide) (by rw [hv, e]), s := h.s }
/-- The row is another. -/
theorem RC.setL (h : RC S b v y w) {v' : Value} {L' : List L8} (hr : w'.ownsRow 0 9 1 v' L'.length (cellS L')) (hs : w.heap.size ≤ w'.heap.size) (hcb : w'.heap[b]? = w.heap[b]?) (hv : ∀ k, v'.ownBlock = some k → S k) :
 RC S b v' { y with L := L' } (w'.setCell ⟨b, 1, none⟩ v') := by
 have hc := hcb.trans h.cell
 have ho : OnlyB b w' (w'.setCell ⟨b, 1, none⟩ v') := (OnlyB.refl b w').setCell 1 _
 exact { hS := up_S (up_S h.hS hs) (Nat.le_of_eq ho.size.symm), hb := h.hb, cell := set_at (o := 1) (v := v') hc, r := ownsRow_keep hr fun k hk => ho.rest k fun e => ownsRow_neb hr hc (by decide) (by rw [hk, e]), s := hv }
theorem RC.bne (h : RC S b v y w) : ∀ k, v.ownBlock = some k → k ≠ b := fun k hk e => ownsRow_neb h.r h.cell (by decide) (by rw [hk, e])
theorem RC.str (h : RC S b v y w) {g cap : Nat} (hv : v = .slice (some ⟨g, 0, none⟩) y.L.length cap) {i : Nat} {l : L8} (hi : y.L[i]? = some l) : w.cell? ⟨g, i, none⟩ = some (.string (strB l)) := by
 have := h.r.cells (g := g) (by rw [hv]; rfl) i (.string (strB l)) (by unfold cellS; rw [List.getElem?_map, hi]; rfl)
 rw [Addr.add_lit, Nat.zero_add] at this
 exact this
end
def RAt (S : Nat → Prop) (b : Nat) (y : RS) (w : World) : Prop := ∃ v, RC S b v y w
def rs0 (n : Nat) : RS := ⟨n, [], false, []⟩
theorem rnew_at (n : Int) (h0 : 32 ≤ n) (h1 : n ≤ 200) (w : World) : Calls Try.prog 45 #[.int .i64 n] w fun e w' => e = .returned (.tuple #[.pointer (some ⟨w.heap.size, 0, none⟩), .int .i64 0]) ∧ RAt (fun k => w.heap.size ≤ k) w.heap.size (rs0 n.toNat) w' ∧ Below w.heap.size w w' := by
 go_enter Try.func45, Try.ntmps45
 go_wp2
 go_ret2
 refine ⟨rfl, ⟨.slice none 0 0, ?_⟩, (Below.refl _ w).alloc (Nat.le_refl _) _⟩
 have hn : intV n.toNat = .int .i64 n := by unfold intV; rw [Int.toNat_of_nonneg (by omega)]
 exact { hS := fun k hk => (by rw [alloc_size] at hk; show w.heap.size ≤ k; omega), hb := Nat.le_refl w.heap.size, cell := (by show _ = some (Obj.cells #[intV n.toNat, _, _, _] _ _); rw [hn]; exact heap_alloc_new w _), r := World.ownsRow_nil _ _ _ _, s := fun k hk => (by cases hk) }
theorem rnew_no (n : Int) (h : n < 32 ∨ 200 < n) (w : World) : Calls Try.prog 45 #[.int .i64 n] w fun e w' => e = .returned (.tuple #[.pointer none, .int .i64 2]) ∧ w = w' := by
 rcases h with h | h
 · go_enter Try.func45, Try.ntmps45
   go_wp2
   go_ret2
   exact ⟨rfl, rfl⟩
 · have h' : ¬ n < 32 := by omega
   go_enter Try.func45, Try.ntmps45
   go_wp2
   go_ret2
   exact ⟨rfl, rfl⟩
theorem rclear_calls {S : Nat → Prop} {b : Nat} {v : Value} {y : RS} {w : World} (h : RC S b v y w) :
 Calls Try.prog 48 #[.pointer (some ⟨b, 0, none⟩)] w fun e w' => e = .returned (.tuple #[]) ∧ RAt S b (rs0 y.size) w' ∧ FrS S w w' := by
 have c1 := h.c1
 have c2 := h.c2
 have c3 := h.c3
 have f1 := h.fz 1
 have f2 := h.fz 2
 have f3 := h.fz 3
 have h1 := h.setL (w' := w) (v' := .slice none 0 0) (L' := []) (World.ownsRow_nil _ _ _ _) (Nat.le_refl _) rfl (fun k hk => by cases hk)
 have h2 := (h1.setB false).setR []
 have b2 : OnlyB b w (((w.setCell ⟨b, 1, none⟩ (.slice none 0 0)).setCell ⟨b, 2, none⟩ (.bool false)).setCell ⟨b, 3, none⟩ (.string (strB []))) := (((OnlyB.refl b w).setCell 1 _).setCell 2 _).setCell 3 _
 go_enter Try.func48, Try.ntmps48
 go_wp2
 go_end0
 exact ⟨rfl, ⟨_, h2⟩, b2.fr h.hb⟩
end Go.Am.Tmf

namespace Go.Am.Tmf
open Go Go.Am Go.Am.Lib Go.Lib Go.Proofs Go.RowKit
open Go.Am.Own
set_option maxRecDepth 100000

theorem grown_refl (w : World) (row : Option Nat) : w.grownBy w row := ⟨rfl, rfl, rfl, Nat.le_refl _, fun _ _ _ => rfl⟩
theorem clear_calls {S : Nat → Prop} {b N : Nat} {x : FS} {w : World} (h : FAt S b x w) (ho : OkF x N) :
 Calls Try.prog 47 #[.pointer (some ⟨b, 0, none⟩)] w fun e w' => e = .returned (.tuple #[]) ∧ FAt S b (fs0 x.size) w' ∧ FrS S w w' := by
 have hn := nones h ho
 obtain ⟨v1, v2, h⟩ := h
 have c0 := h.c0
 have c1 := h.c1
 have c3 := h.c3
 have f0 := h.fz 0
 have f1 := h.fz 1
 have f3 := h.fz 3
 unfold intV at c3
 have h1 := h.setQ (w' := w) (v' := .slice none 0 0) (q' := []) (row := none) (vrow_nil w) (grown_refl w none) (fun k e => by cases e) (by cases v2.ownBlock <;> simp) (fun k hk => by cases hk)
 have h2 := h1.setS (w' := (w.setCell ⟨b, 0, none⟩ (.slice none 0 0))) (v' := .slice none 0 0) (st' := []) (row := none) (World.ownsRow_nil _ _ _ _) (grown_refl _ none) (fun k e => by cases e) (.inl rfl) (fun k hk => by cases hk)
 have h3 := h2.setI 0
 have b2 : OnlyB b w (((w.setCell ⟨b, 0, none⟩ (.slice none 0 0)).setCell ⟨b, 1, none⟩ (.slice none 0 0)).setCell ⟨b, 3, none⟩ (intV 0)) := (((OnlyB.refl b w).setCell 0 _).setCell 1 _).setCell 3 _
 go_enter Try.func47, Try.ntmps47
 go_wp2_with (go_at_call 65; refine hn.mono ?_; rintro e W1 ⟨rfl, rfl⟩)
 go_wp2
 go_end0
 exact ⟨rfl, ⟨_, _, h3⟩, b2.fr h.hb⟩
theorem take_snoc {α : Type} {l : List α} {i : Nat} {x : α} (h : l[i]? = some x) : l.take (i + 1) = l.take i ++ [x] := by
 rw [List.take_add_one, h]; rfl
theorem lenS_snoc (L : List L8) (p : L8) : lenS (L ++ [p]) = lenS L + p.length := by
 unfold lenS cat
 rw [List.flatten_append, List.length_append]; simp
theorem lenS_take (L : List L8) (i : Nat) : lenS (L.take i) ≤ lenS L := by
 have h := List.take_append_drop i L
 conv => rhs; rw [← h]
 unfold lenS cat
 rw [List.flatten_append, List.length_append]; omega
set_option maxHeartbeats 1600000 in
theorem rwait_calls {S : Nat → Prop} {b : Nat} {v : Value} {y : RS} {w : World} (h : RC S b v y w) (hl : y.L.length ≤ 2 ^ 30) (hq : y.wait ≤ 2 ^ 30) :
 Calls Try.prog 52 #[.pointer (some ⟨b, 0, none⟩)] w fun e w' => e = .returned (.int .i64 ((y.wait : Nat) : Int)) ∧ w = w' := by
 obtain ⟨ao, cap, rfl⟩ := ownsRow_slice h.r
 have c1 := h.c1
 obtain ⟨L, hL⟩ : ∃ L, y.L = L := ⟨_, rfl⟩
 have hstr : ∀ i l, L[i]? = some l → ∃ g, ao = some ⟨g, 0, none⟩ ∧ i < cap ∧ w.cell? ⟨g, i, none⟩ = some (.string (strB l)) := by
  intro i l hi
  have hil := (List.getElem?_eq_some_iff.1 hi).1
  rw [← hL] at hil
  obtain ⟨hcap, g, e⟩ := ownsRow_base h.r (by omega)
  exact ⟨g, e, by omega, h.str (g := g) (cap := cap) (by rw [e]) (by rw [hL]; exact hi)⟩
 have hw : y.wait = lenS L := by unfold RS.wait; rw [hL]
 rw [hw] at hq ⊢
 rw [hL] at c1 hl
 clear h hw hL
 obtain ⟨n, hn⟩ : ∃ n, L.length = n := ⟨_, rfl⟩
 rw [hn] at c1 hl
 go_enter Try.func52, Try.ntmps52
 go_wp2
 go_loop [3, 4] (fun a i => ∃ k : Nat, k ≤ n ∧ i = .int .i64 (k : Nat) ∧ a = .int .i64 ((lenS (L.take k) : Nat) : Int)) (fun _ i => n - iOf i)
 case atStart => exact ⟨0, Nat.zero_le _, rfl, rfl⟩
 case round =>
  obtain ⟨k, hk, rfl, rfl⟩ := hrel
  rcases Nat.lt_or_ge k n with hlt | hge
  · obtain ⟨l, hl2⟩ : ∃ l, L[k]? = some l := ⟨L[k], List.getElem?_eq_getElem (by omega)⟩
    obtain ⟨g, rfl, hkc, hc⟩ := hstr k l hl2
    have hlt' : ((k : Nat) : Int) < ((n : Nat) : Int) := by omega
    have hsz : (strB l).size = l.length := rfl
    have htk := lenS_take L (k + 1)
    rw [take_snoc hl2, lenS_snoc] at htk
    obtain ⟨A, hA⟩ : ∃ A, lenS (L.take k) = A := ⟨_, rfl⟩
    rw [hA] at htk ⊢
    go_wp2
    refine ⟨⟨k + 1, by omega, by congr 1, ?_⟩, ?_⟩
    · rw [take_snoc hl2, lenS_snoc, hA]; congr 1
    · show n - (((k : Nat) : Int) + 1).toNat < n - (((k : Nat) : Int)).toNat
      omega
  · have hge' : ¬ ((k : Nat) : Int) < ((n : Nat) : Int) := by omega
    go_wp2
    go_ret
    rw [List.take_of_length_le (by omega)]
    exact ⟨rfl, rfl⟩
theorem rwaits {S : Nat → Prop} {b N : Nat} {y : RS} {w : World} (h : RAt S b y w) (hl : y.L.length ≤ N) (hn : N ≤ 2 ^ 20) (hq : y.wait ≤ 2 ^ 30) :
 Calls Try.prog 52 #[.pointer (some ⟨b, 0, none⟩)] w fun e w' => e = .returned (.int .i64 ((y.wait : Nat) : Int)) ∧ w = w' := by
 obtain ⟨v, h⟩ := h
 exact rwait_calls h (by omega) hq
end Go.Am.Tmf

namespace Go.Am.Tmf
open Go Go.Am Go.Am.Lib Go.Lib Go.Proofs Go.RowKit
open Go.Am.Own
set_option maxRecDepth 100000

theorem infoS : ∃ i0, Try.prog.info? 9 = some i0 ∧ i0.zero = some (.string ⟨#[]⟩) ∧ i0.size = 1 ∧ i0.bytes = 16 := by
 have h : (Try.prog.info? 9).map (fun i => (i.zero, i.size, i.bytes)) = some (some (.string ⟨#[]⟩), 1, 16) := by kernel_rfl
 obtain ⟨i, h1, h2⟩ := Option.map_eq_some_iff.1 h
 simp only [Prod.mk.injEq] at h2
 exact ⟨i, h1, h2.1, h2.2.1, h2.2.2⟩
theorem rget_e {p : ByteArray} {e : Int} (h : Pkt.getE p = e) (w : World) : Calls Try.prog 84 #[.string p] w fun r w' => r = .returned (.tuple #[.agg #[.bool (Pkt.gC p), .int .i64 ((Pkt.gA p : Nat) : Int), .int .i64 ((Pkt.gF p : Nat) : Int), .int .i64 ((Pkt.gN p : Nat) : Int), .string (Pkt.gD p)], .int .i64 e]) ∧ Below w.heap.size w w' := by
 have := flat_calls Pkt.okRGet w (args := [.string p]) rfl (v := .tuple ⟨[.agg ⟨[.bool (Pkt.gC p), .int .i64 ((Pkt.gA p : Nat) : Int), .int .i64 ((Pkt.gF p : Nat) : Int), .int .i64 ((Pkt.gN p : Nat) : Int), .string (Pkt.gD p)]⟩, .int .i64 (Pkt.getE p)]⟩) rfl ⟨rfl, rfl⟩
 rw [h] at this
 exact this
def raddE (y : RS) (p : ByteArray) : Int := if Pkt.getE p ≠ 0 ∨ Pkt.gA p = 2047 then 6 else if 65536 < y.wait + p.size then 5 else 0
theorem RAt.below {S : Nat → Prop} {b : Nat} {y : RS} {w w' : World} (h : RAt S b y w) (hb : Below w.heap.size w w') : RAt S b y w' := by
 obtain ⟨v, h⟩ := h; exact ⟨v, h.below hb⟩
theorem RAt.hS {S : Nat → Prop} {b : Nat} {y : RS} {w : World} (h : RAt S b y w) : ∀ k, w.heap.size ≤ k → S k := by
 obtain ⟨v, h⟩ := h; exact h.hS
theorem rfr_below {S : Nat → Prop} {b : Nat} {y : RS} {w w' : World} (h : RAt S b y w) (hb : Below w.heap.size w w') : FrS S w w' := fr_of hb h.hS
set_option maxHeartbeats 1600000 in
theorem radd_bad {S : Nat → Prop} {b : Nat} {y : RS} {w : World} (h : RAt S b y w) (p : ByteArray) (hE : Pkt.getE p = 6) :
 Calls Try.prog 46 #[.pointer (some ⟨b, 0, none⟩), .string p] w fun e w' => e = .returned (.int .i64 6) ∧ RAt S b y w' ∧ FrS S w w' := by
 go_enter Try.func46, Try.ntmps46
 go_wp2_with (go_at_call 84; refine (rget_e hE _).mono ?_; rintro e W2 ⟨rfl, b2⟩)
 obtain ⟨A, hA⟩ : ∃ A, Pkt.gA p = A := ⟨_, rfl⟩
 rw [hA]
 go_wp2
 go_ret
 have b3 := b2.alloc b2.size (.cells #[.bool (Pkt.gC p), .int .i64 ((A : Nat) : Int), .int .i64 ((Pkt.gF p : Nat) : Int), .int .i64 ((Pkt.gN p : Nat) : Int), .string (Pkt.gD p)] 110)
 exact ⟨rfl, h.below b3, rfr_below h b3⟩
set_option maxHeartbeats 1600000 in
theorem radd_idle {S : Nat → Prop} {b : Nat} {y : RS} {w : World} (h : RAt S b y w) (p : ByteArray) (hE : Pkt.getE p = 0) (hA : Pkt.gA p = 2047) :
 Calls Try.prog 46 #[.pointer (some ⟨b, 0, none⟩), .string p] w fun e w' => e = .returned (.int .i64 6) ∧ RAt S b y w' ∧ FrS S w w' := by
 go_enter Try.func46, Try.ntmps46
 go_wp2_with (go_at_call 84; refine (rget_e hE _).mono ?_; rintro e W2 ⟨rfl, b2⟩)
 go_ret
 have b3 := b2.alloc b2.size (.cells #[.bool (Pkt.gC p), .int .i64 ((2047 : Nat) : Int), .int .i64 ((Pkt.gF p : Nat) : Int), .int .i64 ((Pkt.gN p : Nat) : Int), .string (Pkt.gD p)] 110)
 exact ⟨rfl, h.below b3, rfr_below h b3⟩
set_option maxHeartbeats 1600000 in
theorem radd_full {S : Nat → Prop} {b N : Nat} {y : RS} {w : World} (h : RAt S b y w) (hl : y.L.length ≤ N) (hn : N ≤ 2 ^ 20) (hq : y.wait ≤ 2 ^ 30) (p : ByteArray) (hE : Pkt.getE p = 0) (hA : Pkt.gA p ≠ 2047) (hf : 65536 < y.wait + p.size) (hp : p.size ≤ 2 ^ 40) :
 Calls Try.prog 46 #[.pointer (some ⟨b, 0, none⟩), .string p] w fun e w' => e = .returned (.int .i64 5) ∧ RAt S b y w' ∧ FrS S w w' := by
 obtain ⟨A, hAA⟩ : ∃ A, Pkt.gA p = A := ⟨_, rfl⟩
 have hw := fun w' (h : RAt S b y w') => rwaits h hl hn hq
 obtain ⟨wt, hwt⟩ : ∃ n, y.wait = n := ⟨_, rfl⟩
 rw [hwt] at hf hq
 have hA' : (((A : Nat) : Int) == 2047) = false := by rw [← hAA]; simp; omega
 have hf' : (65536 : Int) < ((wt : Nat) : Int) + ((p.size : Nat) : Int) := by omega
 simp only [hwt] at hw
 have HW := Lib.hid hw
 clear hw hwt
 go_enter Try.func46, Try.ntmps46
 go_wp2_with (go_at_call 84; refine (rget_e hE _).mono ?_; rintro e W2 ⟨rfl, b2⟩; rw [hAA])
 have b3 := b2.alloc b2.size (.cells #[.bool (Pkt.gC p), .int .i64 ((A : Nat) : Int), .int .i64 ((Pkt.gF p : Nat) : Int), .int .i64 ((Pkt.gN p : Nat) : Int), .string (Pkt.gD p)] 110)
 go_wp2_with (go_at_call 52; refine (HW.out _ (h.below b3)).mono ?_; rintro e W4 ⟨rfl, rfl⟩)
 go_wp2
 go_ret
 exact ⟨rfl, h.below b3, rfr_below h b3⟩
set_option maxHeartbeats 3200000 in
theorem radd_ok {S : Nat → Prop} {b N : Nat} {y : RS} {w : World} (h : RAt S b y w) (hl : y.L.length ≤ N) (hn : N ≤ 2 ^ 20) (hq : y.wait ≤ 2 ^ 30) (p : ByteArray) (hE : Pkt.getE p = 0) (hA : Pkt.gA p ≠ 2047) (hf : ¬ 65536 < y.wait + p.size) :
 Calls Try.prog 46 #[.pointer (some ⟨b, 0, none⟩), .string p] w fun e w' => e = .returned (.int .i64 0) ∧ RAt S b (y.add p.data.toList) w' ∧ FrS S w w' := by
 obtain ⟨i0, hi, hz0, hz1, hz2⟩ := infoS
 have HL := Lib.hid (And.intro hl hn)
 obtain ⟨A, hAA⟩ : ∃ A, Pkt.gA p = A := ⟨_, rfl⟩
 have hw := fun w' (h : RAt S b y w') => rwaits h hl hn hq
 obtain ⟨wt, hwt⟩ : ∃ n, y.wait = n := ⟨_, rfl⟩
 rw [hwt] at hf hq
 have hA' : (((A : Nat) : Int) == 2047) = false := by rw [← hAA]; simp; omega
 have hf' : ¬ (65536 : Int) < ((wt : Nat) : Int) + ((p.size : Nat) : Int) := by omega
 have hpz : p.size ≤ 65536 := by omega
 simp only [hwt] at hw
 have HW := Lib.hid hw
 clear hw hwt hl hn
 go_enter Try.func46, Try.ntmps46
 go_wp2_with (go_at_call 84; refine (rget_e hE _).mono ?_; rintro e W2 ⟨rfl, b2⟩; rw [hAA])
 have b3 := b2.alloc b2.size (.cells #[.bool (Pkt.gC p), .int .i64 ((A : Nat) : Int), .int .i64 ((Pkt.gF p : Nat) : Int), .int .i64 ((Pkt.gN p : Nat) : Int), .string (Pkt.gD p)] 110)
 obtain ⟨v, h3⟩ := h.below b3
 have b4 := rfr_below h b3
 obtain ⟨W3, hW3⟩ : ∃ W3, W2.alloc (.cells #[.bool (Pkt.gC p), .int .i64 ((A : Nat) : Int), .int .i64 ((Pkt.gF p : Nat) : Int), .int .i64 ((Pkt.gN p : Nat) : Int), .string (Pkt.gD p)] 110) = W3 := ⟨_, rfl⟩
 rw [hW3] at h3 b4 ⊢
 clear hW3 b3 b2 h
 obtain ⟨ao, cap, rfl⟩ := ownsRow_slice h3.r
 have h5 := h3.below ((Below.refl _ W3).alloc (Nat.le_refl _) (.cells #[] 9))
 have b5 : FrS S w (W3.alloc (.cells #[] 9)) := b4.alloc h3.hS _
 have hown : (W3.alloc (.cells #[] 9)).ownsRow 0 9 1 (.slice (some ⟨W3.heap.size, 0, none⟩) 0 0) 0 [] := ⟨rfl, .inr ⟨W3.heap.size, 0, #[], rfl, Nat.zero_le _, heap_alloc_new W3 _, Nat.le_refl _, by unfold maxLen; omega, rfl, rfl⟩⟩
 have hone : ∀ u ∈ cellS y.L, u.oneCell' = true := fun u hu => by
  obtain ⟨l, _, rfl⟩ := List.mem_map.1 hu; rfl
 have hbH : b ≠ W3.heap.size := by have := h3.lt; omega
 have hk3 := h3.bne
 have hlt := h3.lt
 go_wp2_with (first
  | (go_at_call 52; refine (HW.out _ ⟨_, h3⟩).mono ?_; rintro e W4 ⟨rfl, rfl⟩; have c1 := h3.c1; have d1 := h5.c1; clear HW hAA)
  | (at_builtin; refine wpList_append_rows rfl _ _ 22 rfl 0 0 9 i0 (.string ⟨#[]⟩) 16 Try.underlying22 hi hz0 hz1 hz2 rfl _ 0 [] rfl hown _ y.L.length (cellS y.L) rfl h5.r hone ?_ (by have := HL.out; omega) (Nat.zero_le _) ?_))
 · have := HL.out; unfold maxLen; omega
 intro v6 W6 hr6 hg6 hw6
 have hr7 : (W6.alloc (.cells #[.string p] 9)).ownsRow 0 9 1 v6 y.L.length (cellS y.L) := ownsRow_keep hr6 fun k hk => (World.grownBy_alloc W6 (.cells #[.string p] 9) none).block k (hr6.lt k hk).2 (by simp)
 have hn6 : v6.ownBlock ≠ some b := fun e => by
  rcases hw6 with e1 | e1
  · rw [e1] at e; injection e with e; exact hbH e.symm
  · rw [e1] at e; injection e with e; omega
 have hb6 : W6.heap[b]? = W3.heap[b]? := (hg6.block b (by rw [alloc_size]; omega) (fun e => hbH (by injection e))).trans ((World.grownBy_alloc W3 (.cells #[] 9) none).block b hlt (by simp))
 have s6 : W3.heap.size + 1 ≤ W6.heap.size := by have := hg6.size; rw [alloc_size] at this; exact this
 go_wp2_with (at_builtin; refine wpList_append_at rfl _ _ 22 rfl 0 9 i0 (.string ⟨#[]⟩) 1 16 Try.underlying22 hi hz0 hz1 hz2 rfl (by decide) _ y.L.length (cellS y.L) rfl hr7 ⟨W6.heap.size, 0, none⟩ 1 1 [.string p] rfl rfl (cell_one W6 9 _) (by intro u hu; exact one_mem hu rfl) (by decide) ?_ (by have := HL.out; omega) (Nat.zero_le _) ?_)
 · have := HL.out; unfold maxLen; omega
 intro v8 W8 hr8 hg8 hw8
 have hb8 : W8.heap[b]? = W3.heap[b]? := ((hg8.block b (by rw [alloc_size]; omega) (fun e => hn6 e.symm)).trans ((World.grownBy_alloc W6 (.cells #[.string p] 9) none).block b (by omega) (by simp))).trans hb6
 have d8 : W8.cell? ⟨b, 1, none⟩ = some (.slice ao y.L.length cap) := cell_of (hb8.trans h3.cell)
 have f8 := fz_of (hb8.trans h3.cell) 1
 have hr8' : W8.ownsRow 0 9 1 v8 (y.L ++ [p.data.toList]).length (cellS (y.L ++ [p.data.toList])) := by
  have e : cellS (y.L ++ [p.data.toList]) = cellS y.L ++ [.string p] := by unfold cellS; rw [List.map_append]; rfl
  rw [e, List.length_append]
  exact hr8
 have hv6 : ∀ k, v6.ownBlock = some k → S k := fun k hk => by
  rcases hw6 with e1 | e1
  · rw [e1] at hk
    have hk : W3.heap.size = k := by injection hk
    exact h3.hS k (by omega)
  · rw [e1] at hk
    have hk : W3.heap.size + 1 = k := by injection hk
    exact h3.hS k (by omega)
 have hS6 : ∀ k, W6.heap.size ≤ k → S k := fun k hk => h3.hS k (by omega)
 have hv8 : ∀ k, v8.ownBlock = some k → S k := fun k hk => by
  rcases hw8 with e1 | e1
  · exact hv6 k (by rw [← e1]; exact hk)
  · rw [e1] at hk; injection hk with hk; exact hS6 k (by omega)
 have b6 : FrS S w W6 := b5.grown hg6 (fun k hk => h3.hS k (by rw [alloc_size] at hk; omega)) (fun k e => by
  have e : W3.heap.size = k := by injection e
  exact h3.hS k (by omega))
 have b8 : FrS S w W8 := (b6.alloc hS6 _).grown hg8 (fun k hk => hS6 k (by rw [alloc_size] at hk; omega)) hv6
 have h9 := h3.setL (w' := W8) hr8' (by have := hg8.size; rw [alloc_size] at this; omega) hb8 hv8
 have b9 : FrS S w (W8.setCell ⟨b, 1, none⟩ v8) := b8.trans (((OnlyB.refl b W8).setCell 1 v8).fr h3.hb)
 obtain ⟨ao8, cap8, rfl⟩ := ownsRow_slice hr8'
 obtain ⟨n8, hn8⟩ : ∃ n, (y.L ++ [p.data.toList]).length = n := ⟨_, rfl⟩
 rw [hn8] at h9 b9 ⊢
 clear hn8 hr8 hr8' hg8 hw8 hr7 hr6 hg6 hw6 hb6 hb8 b6 b8 hv6 hv8 h5 hown
 go_wp2
 go_ret
 exact ⟨rfl, ⟨_, h9⟩, b9⟩
theorem radd_at {S : Nat → Prop} {b N : Nat} {y : RS} {w : World} (h : RAt S b y w) (hl : y.L.length ≤ N) (hn : N ≤ 2 ^ 20) (hq : y.wait ≤ 2 ^ 30) (p : ByteArray) (hp : p.size ≤ 2 ^ 40) :
 Calls Try.prog 46 #[.pointer (some ⟨b, 0, none⟩), .string p] w fun e w' => e = .returned (.int .i64 (raddE y p)) ∧ RAt S b (if raddE y p = 0 then y.add p.data.toList else y) w' ∧ FrS S w w' := by
 unfold raddE
 rcases getE_cases p with hE | hE
 · by_cases hA : Pkt.gA p = 2047
   · rw [if_pos (.inr hA), if_neg (by decide)]
     exact radd_idle h p hE hA
   · rw [if_neg (by rw [hE]; simp; exact hA)]
     by_cases hf : 65536 < y.wait + p.size
     · rw [if_pos hf, if_neg (by decide)]
       exact radd_full h hl hn hq p hE hA hf hp
     · rw [if_neg hf, if_pos rfl]
       exact radd_ok h hl hn hq p hE hA hf
 · rw [if_pos (.inl (by rw [hE]; decide)), if_neg (by decide)]
   exact radd_bad h p hE
end Go.Am.Tmf
