/-
  Channels: the reference's mux in memory. Own work.
-/
import Derived.Test.YtlgpalokjckdcaaChaGB
import Derived.Test.YtlgpalokjckdcaaTmfQZ
namespace Go.Am.Cha
open Go Go.Am Go.Am.Lib Go.Lib Go.Proofs Go.RowKit
open Go.Am.Own
open Go.Am.Tmf (FS RS RAt RC OkF idleL Rel)
set_option maxRecDepth 100000

/-- The cells of the reference's mux. -/
def rmC (bk : Nat → Nat) (M : MS) : Array Value := #[intN M.craft, intN M.size, intN (M.f 0).pr, intN (M.f 1).pr, intN (M.f 2).pr, intN (M.f 3).pr, intN (M.f 4).pr, intN (M.f 5).pr, intN (M.f 6).pr, intN (M.f 7).pr, intN (M.f 0).sh, intN (M.f 1).sh, intN (M.f 2).sh, intN (M.f 3).sh, intN (M.f 4).sh, intN (M.f 5).sh, intN (M.f 6).sh, intN (M.f 7).sh, .pointer (some ⟨bk 0, 0, none⟩), .pointer (some ⟨bk 1, 0, none⟩), .pointer (some ⟨bk 2, 0, none⟩), .pointer (some ⟨bk 3, 0, none⟩), .pointer (some ⟨bk 4, 0, none⟩), .pointer (some ⟨bk 5, 0, none⟩), .pointer (some ⟨bk 6, 0, none⟩), .pointer (some ⟨bk 7, 0, none⟩), intN M.master, intN (M.f 0).ct, intN (M.f 1).ct, intN (M.f 2).ct, intN (M.f 3).ct, intN (M.f 4).ct, intN (M.f 5).ct, intN (M.f 6).ct, intN (M.f 7).ct, intN (M.f 0).cr, intN (M.f 1).cr, intN (M.f 2).cr, intN (M.f 3).cr, intN (M.f 4).cr, intN (M.f 5).cr, intN (M.f 6).cr, intN (M.f 7).cr]
theorem rm_pr (bk : Nat → Nat) (M : MS) {k : Nat} (h : k < 8) : (rmC bk M)[2 + k]? = some (intN (M.f k).pr) := by
 match k, h with
 | 0, _ | 1, _ | 2, _ | 3, _ | 4, _ | 5, _ | 6, _ | 7, _ => rfl
theorem rm_sh (bk : Nat → Nat) (M : MS) {k : Nat} (h : k < 8) : (rmC bk M)[10 + k]? = some (intN (M.f k).sh) := by
 match k, h with
 | 0, _ | 1, _ | 2, _ | 3, _ | 4, _ | 5, _ | 6, _ | 7, _ => rfl
theorem rm_fl (bk : Nat → Nat) (M : MS) {k : Nat} (h : k < 8) : (rmC bk M)[18 + k]? = some (.pointer (some ⟨bk k, 0, none⟩)) := by
 match k, h with
 | 0, _ | 1, _ | 2, _ | 3, _ | 4, _ | 5, _ | 6, _ | 7, _ => rfl
theorem rm_ct (bk : Nat → Nat) (M : MS) {k : Nat} (h : k < 8) : (rmC bk M)[27 + k]? = some (intN (M.f k).ct) := by
 match k, h with
 | 0, _ | 1, _ | 2, _ | 3, _ | 4, _ | 5, _ | 6, _ | 7, _ => rfl
theorem rm_cr (bk : Nat → Nat) (M : MS) {k : Nat} (h : k < 8) : (rmC bk M)[35 + k]? = some (intN (M.f k).cr) := by
 match k, h with
 | 0, _ | 1, _ | 2, _ | 3, _ | 4, _ | 5, _ | 6, _ | 7, _ => rfl
theorem rm_set_ct (bk : Nat → Nat) (M : MS) {k : Nat} (h : k < 8) (n : Nat) : (rmC bk M).setIfInBounds (27 + k) (intN n) = rmC bk { M with f := upd M.f k { M.f k with ct := n } } := by
 match k, h with
 | 0, _ | 1, _ | 2, _ | 3, _ | 4, _ | 5, _ | 6, _ | 7, _ => rfl
theorem rm_set_cr (bk : Nat → Nat) (M : MS) {k : Nat} (h : k < 8) (n : Nat) : (rmC bk M).setIfInBounds (35 + k) (intN n) = rmC bk { M with f := upd M.f k { M.f k with cr := n } } := by
 match k, h with
 | 0, _ | 1, _ | 2, _ | 3, _ | 4, _ | 5, _ | 6, _ | 7, _ => rfl
theorem rm_set_ma (bk : Nat → Nat) (M : MS) (n : Nat) : (rmC bk M).setIfInBounds 26 (intN n) = rmC bk { M with master := n } := rfl
theorem rm_turn (bk : Nat → Nat) (M : MS) (k : Nat) (x : FS) : rmC bk { M with f := upd M.f k { M.f k with x := x } } = rmC bk M := by
 have h : ∀ j, (upd M.f k { M.f k with x := x } j).pr = (M.f j).pr ∧ (upd M.f k { M.f k with x := x } j).sh = (M.f j).sh ∧ (upd M.f k { M.f k with x := x } j).ct = (M.f j).ct ∧ (upd M.f k { M.f k with x := x } j).cr = (M.f j).cr := by
  intro j
  by_cases e : j = k
  · subst e; rw [upd_same]; exact ⟨rfl, rfl, rfl, rfl⟩
  · rw [upd_other _ _ e]; exact ⟨rfl, rfl, rfl, rfl⟩
 unfold rmC
 simp only [h]
def updY (ys : Nat → RS) (k : Nat) (y : RS) : Nat → RS := fun j => if j = k then y else ys j
theorem updY_same (ys : Nat → RS) (k : Nat) (y : RS) : updY ys k y k = y := if_pos rfl
theorem updY_other (ys : Nat → RS) {k j : Nat} (y : RS) (h : j ≠ k) : updY ys k y j = ys j := if_neg h
theorem ryshrink {S : Nat → Prop} {b : Nat} {y : RS} {w w' : World} (h : RAt S b y w) (hk : ∀ k, S k → k < w.heap.size → w'.heap[k]? = w.heap[k]?) : RAt (ShS S w.heap.size w'.heap.size) b y w' := h.shrink hk
theorem rykeep {S : Nat → Prop} {b : Nat} {y : RS} {w w' : World} (h : RAt S b y w) (hs : w.heap.size ≤ w'.heap.size) (hk : ∀ k, S k → k < w.heap.size → w'.heap[k]? = w.heap[k]?) : RAt S b y w' := by
 obtain ⟨v, h⟩ := h; exact ⟨v, h.keep hs hk⟩
/-- The reference's mux rb: bk: its fillers; S: what may change. -/
structure RM (S : Nat → Prop) (rb : Nat) (bk : Nat → Nat) (M : MS) (ys : Nat → RS) (w : World) : Prop where
 hS : ∀ k, w.heap.size ≤ k → S k
 cell : w.heap[rb]? = some (.cells (rmC bk M) 120 (0, 0))
 Sm : S rb
 fil : ∃ Sk : Nat → Nat → Prop, (∀ k, k < 8 → RAt (Sk k) (bk k) (ys k) w) ∧ (∀ k, k < 8 → ∀ n, n < w.heap.size → Sk k n → S n ∧ n ≠ rb) ∧ ∀ k k', k < 8 → k' < 8 → k ≠ k' → ∀ n, n < w.heap.size → Sk k n → ¬ Sk k' n
variable {S : Nat → Prop} {rb N : Nat} {bk : Nat → Nat} {M M' : MS} {ys : Nat → RS} {w w' : World}
theorem RM.lt (h : RM S rb bk M ys w) : rb < w.heap.size := (Array.getElem?_eq_some_iff.1 h.cell).1
theorem RM.as (h : RM S rb bk M ys w) (e : rmC bk M' = rmC bk M) : RM S rb bk M' ys w := ⟨h.hS, by rw [e]; exact h.cell, h.Sm, h.fil⟩
/-- Where nothing of the mux has changed. -/
theorem RM.keep {S' : Nat → Prop} (h : RM S rb bk M ys w) (hk : ∀ k, S k → k < w.heap.size → w'.heap[k]? = w.heap[k]?) (hS' : ∀ k, w'.heap.size ≤ k → S' k) (hSS : ∀ k, k < w.heap.size → S k → S' k) : RM S' rb bk M ys w' := by
 obtain ⟨Sk, h1, h2, h3⟩ := h.fil
 refine ⟨hS', (hk rb h.Sm h.lt).trans h.cell, hSS rb h.lt h.Sm, fun k => ShS (Sk k) w.heap.size w'.heap.size, fun k hk8 => ryshrink (h1 k hk8) fun n hn hlt => hk n (h2 k hk8 n hlt hn).1 hlt, fun k hk8 n hn e => ?_, fun k k' a b hne n hn e e' => h3 k k' a b hne n (e.old hn).2 (e.old hn).1 (e'.old hn).1⟩
 obtain ⟨e1, e2⟩ := e.old hn
 obtain ⟨a1, a2⟩ := h2 k hk8 n e2 e1
 exact ⟨hSS n e2 a1, a2⟩
theorem RM.below (h : RM S rb bk M ys w) (hb : Below w.heap.size w w') : RM S rb bk M ys w' :=
 h.keep (fun k _ hk => hb.block k hk) (fun k hk => h.hS k (Nat.le_trans hb.size hk)) fun _ _ hs => hs
theorem RM.alloc (h : RM S rb bk M ys w) (o : Obj) : RM S rb bk M ys (w.alloc o) := h.below ((Below.refl _ w).alloc (Nat.le_refl _) o)
/-- Only the filler of one channel turns. -/
theorem RM.turn (h : RM S rb bk M ys w) {k : Nat} (hk : k < 8) {E : Ending → Prop} {y' : RS} {f : FuncId} {args : Array Value} (c : ∀ S', RAt S' (bk k) (ys k) w → Calls Try.prog f args w fun e w' => E e ∧ RAt S' (bk k) y' w' ∧ FrS S' w w') :
 Calls Try.prog f args w fun e w' => E e ∧ RM S rb bk M (updY ys k y') w' ∧ FrS S w w' := by
 obtain ⟨Sk, h1, h2, h3⟩ := h.fil
 refine (c (Sk k) (h1 k hk)).mono fun e w' ⟨he, g1, g2⟩ => ⟨he, ?_, ?_⟩
 · refine ⟨fun n hn => h.hS n (Nat.le_trans g2.size hn), (g2.block rb fun e => (h2 k hk rb h.lt e).2 rfl).trans h.cell, h.Sm, fun j => if j = k then Sk k else ShS (Sk j) w.heap.size w'.heap.size, fun j hj => ?_, fun j hj n hn e => ?_, fun j j' hj hj' hne n hn e e' => ?_⟩
   · show RAt (if j = k then Sk k else ShS (Sk j) w.heap.size w'.heap.size) (bk j) (updY ys k y' j) w'
     by_cases e : j = k
     · subst e; rw [if_pos rfl, updY_same]; exact g1
     · rw [if_neg e, updY_other _ _ e]
       exact ryshrink (h1 j hj) fun n hn hlt => g2.block n fun e' => h3 j k hj hk e n hlt hn e'
   · replace e : (if j = k then Sk k else ShS (Sk j) w.heap.size w'.heap.size) n := e
     by_cases hjk : j = k
     · subst hjk
       rw [if_pos rfl] at e
       by_cases hlt : n < w.heap.size
       · exact h2 j hj n hlt e
       · have := h.lt
         exact ⟨h.hS n (by omega), by omega⟩
     · rw [if_neg hjk] at e
       exact h2 j hj n (e.old hn).2 (e.old hn).1
   · replace e : (if j = k then Sk k else ShS (Sk j) w.heap.size w'.heap.size) n := e
     replace e' : (if j' = k then Sk k else ShS (Sk j') w.heap.size w'.heap.size) n := e'
     by_cases hjk : j = k
     · subst hjk
       rw [if_pos rfl] at e
       rw [if_neg (fun h => hne h.symm)] at e'
       exact h3 j j' hj hj' hne n (e'.old hn).2 e (e'.old hn).1
     · rw [if_neg hjk] at e
       by_cases hj'k : j' = k
       · subst hj'k
         rw [if_pos rfl] at e'
         exact h3 j j' hj hj' hne n (e.old hn).2 (e.old hn).1 e'
       · rw [if_neg hj'k] at e'
         exact h3 j j' hj hj' hne n (e.old hn).2 (e.old hn).1 (e'.old hn).1
 · refine ⟨g2.os, g2.tape, g2.output, g2.size, fun n hn => g2.block n fun e => ?_⟩
   by_cases hlt : n < w.heap.size
   · exact hn (h2 k hk n hlt e).1
   · exact hn (h.hS n (by omega))
/-- A call that only looks at one filler. -/
theorem RM.look (h : RM S rb bk M ys w) {k : Nat} (hk : k < 8) : ∃ S', RAt S' (bk k) (ys k) w := by
 obtain ⟨Sk, h1, -, -⟩ := h.fil
 exact ⟨_, h1 k hk⟩
/-- A number of the mux turns. -/
theorem RM.put (h : RM S rb bk M ys w) {p : Nat} {v : Value} (e : (rmC bk M).setIfInBounds p v = rmC bk M') : RM S rb bk M' ys (w.setCell ⟨rb, p, none⟩ v) ∧ FrS S w (w.setCell ⟨rb, p, none⟩ v) := by
 have ho : OnlyB rb w (w.setCell ⟨rb, p, none⟩ v) := (OnlyB.refl rb w).setCell p v
 obtain ⟨Sk, h1, h2, h3⟩ := h.fil
 refine ⟨⟨fun n hn => h.hS n (by rw [ho.size] at hn; exact hn), by rw [← e]; exact set_at h.cell, h.Sm, Sk, fun j hj => rykeep (h1 j hj) (Nat.le_of_eq ho.size.symm) fun n hn hlt => ho.rest n fun e => (h2 j hj n hlt hn).2 e, fun j hj n hn => h2 j hj n (by rw [ho.size] at hn; exact hn), fun j j' a b c n hn => h3 j j' a b c n (by rw [ho.size] at hn; exact hn)⟩, ho.fr h.Sm⟩
theorem RM.c0 (h : RM S rb bk M ys w) : w.cell? ⟨rb, 0, none⟩ = some (intN M.craft) := cell_of h.cell
theorem RM.c1 (h : RM S rb bk M ys w) : w.cell? ⟨rb, 1, none⟩ = some (intN M.size) := cell_of h.cell
theorem RM.cm (h : RM S rb bk M ys w) : w.cell? ⟨rb, 26, none⟩ = some (intN M.master) := cell_of h.cell
theorem RM.pr (h : RM S rb bk M ys w) {k : Nat} (hk : k < 8) : w.cell? ⟨rb, 2 + k, none⟩ = some (intN (M.f k).pr) := (cell_of h.cell).trans (rm_pr bk M hk)
theorem RM.sh (h : RM S rb bk M ys w) {k : Nat} (hk : k < 8) : w.cell? ⟨rb, 10 + k, none⟩ = some (intN (M.f k).sh) := (cell_of h.cell).trans (rm_sh bk M hk)
theorem RM.fl (h : RM S rb bk M ys w) {k : Nat} (hk : k < 8) : w.cell? ⟨rb, 18 + k, none⟩ = some (.pointer (some ⟨bk k, 0, none⟩)) := (cell_of h.cell).trans (rm_fl bk M hk)
theorem RM.cr (h : RM S rb bk M ys w) {k : Nat} (hk : k < 8) : w.cell? ⟨rb, 35 + k, none⟩ = some (intN (M.f k).cr) := (cell_of h.cell).trans (rm_cr bk M hk)
end Go.Am.Cha

namespace Go.Am.Cha
open Go Go.Am Go.Am.Lib Go.Lib Go.Proofs Go.RowKit
open Go.Am.Own
open Go.Am.Tmf (FS RS RAt RC OkF idleL Rel)
set_option maxRecDepth 100000

variable {S : Nat → Prop} {rb N : Nat} {bk : Nat → Nat} {M M' : MS} {ys : Nat → RS} {w w' : World}
/-- The fillers of both muxes know the same. -/
def Alike (M : MS) (ys : Nat → RS) : Prop := ∀ k, k < 8 → Rel (M.f k).x (ys k)
theorem yl {x : FS} {y : RS} (hr : Rel x y) (ho : OkF x N) : y.L.length ≤ N + 1 ∧ y.wait ≤ 66000 := by
 have h1 := Tmf.stOf_len1 y.L y.rest.length y.begun
 have h2 := ho.st
 rw [hr.st] at h2
 refine ⟨by omega, ?_⟩
 rw [← hr.wait]
 exact Nat.le_trans (Nat.sub_le _ _) ho.q
theorem rmwait_at (h : RM S rb bk M ys w) (ho : OkM N M) (hN : N + 1 ≤ 2 ^ 20) (hr : Alike M ys) {k : Nat} (hk : k < 8) :
 Calls Try.prog 27 #[.pointer (some ⟨rb, 0, none⟩), .int .i64 ((k : Nat) : Int)] w fun e w' => e = .returned (.int .i64 (((M.f k).x.wait : Nat) : Int)) ∧ Below w.heap.size w w' := by
 obtain ⟨S', hy⟩ := h.look hk
 obtain ⟨l1, l2⟩ := yl (hr k hk) (ho.x k hk)
 have cW := Tmf.rwaits hy l1 hN (Nat.le_trans l2 (by decide))
 rw [← (hr k hk).wait] at cW
 have k0 := h.fl hk
 obtain ⟨b, hb⟩ : ∃ b, bk k = b := ⟨_, rfl⟩
 obtain ⟨wt, hwt⟩ : ∃ b, (M.f k).x.wait = b := ⟨_, rfl⟩
 rw [hb] at k0 cW
 rw [hwt] at cW
 rw [hwt]
 have q1 : ¬ ((k : Nat) : Int) < 0 := by omega
 have q2 : ¬ (7 : Int) < ((k : Nat) : Int) := by omega
 have q3 : ((k : Nat) : Int) < 8 := by omega
 clear h hr ho hy l1 l2 hb hwt
 go_enter Try.func27, Try.ntmps27
 go_wp2_with (go_at_call 52; refine cW.mono ?_; clear cW; rintro e W1 ⟨rfl, rfl⟩)
 go_ret
 exact ⟨rfl, Below.refl _ _⟩
theorem rmwait_out (k : Int) (hk : k < 0 ∨ 7 < k) (w : World) :
 Calls Try.prog 27 #[.pointer (some ⟨rb, 0, none⟩), .int .i64 k] w fun e w' => e = .returned (.int .i64 0) ∧ Below w.heap.size w w' := by
 rcases hk with q | q
 · go_enter Try.func27, Try.ntmps27
   go_wp2
   go_ret
   exact ⟨rfl, Below.refl _ _⟩
 · have q2 : ¬ k < 0 := by omega
   go_enter Try.func27, Try.ntmps27
   go_wp2
   go_ret
   exact ⟨rfl, Below.refl _ _⟩
theorem rmadd_out (k : Int) (hk : k < 0 ∨ 7 < k) (p : ByteArray) (w : World) :
 Calls Try.prog 23 #[.pointer (some ⟨rb, 0, none⟩), .int .i64 k, .string p] w fun e w' => e = .returned (.int .i64 2) ∧ Below w.heap.size w w' := by
 rcases hk with q | q
 · go_enter Try.func23, Try.ntmps23
   go_wp2
   go_ret
   exact ⟨rfl, Below.refl _ _⟩
 · have q2 : ¬ k < 0 := by omega
   go_enter Try.func23, Try.ntmps23
   go_wp2
   go_ret
   exact ⟨rfl, Below.refl _ _⟩
/-- The fillers behind an Add to channel k. -/
def addY (M : MS) (ys : Nat → RS) (k : Nat) (p : ByteArray) : Nat → RS := updY ys k (if Tmf.addE (M.f k).x p = 0 then (ys k).add p.data.toList else ys k)
theorem rmadd_at (h : RM S rb bk M ys w) (ho : OkM N M) (hN : N + 1 ≤ 2 ^ 20) (hr : Alike M ys) {k : Nat} (hk : k < 8) (p : ByteArray) (hp : p.size ≤ 2 ^ 40) :
 Calls Try.prog 23 #[.pointer (some ⟨rb, 0, none⟩), .int .i64 ((k : Nat) : Int), .string p] w fun e w' => e = .returned (.int .i64 (Tmf.addE (M.f k).x p)) ∧ RM S rb bk M (addY M ys k p) w' ∧ FrS S w w' := by
 obtain ⟨l1, l2⟩ := yl (hr k hk) (ho.x k hk)
 have cA := h.turn hk (E := fun e => e = .returned (.int .i64 (Tmf.addE (M.f k).x p))) (y' := if Tmf.addE (M.f k).x p = 0 then (ys k).add p.data.toList else ys k) (f := 46) (args := #[.pointer (some ⟨bk k, 0, none⟩), .string p]) fun S' hf => by
  rw [(hr k hk).addE p]
  exact Tmf.radd_at hf l1 hN (Nat.le_trans l2 (by decide)) p hp
 have k0 := h.fl hk
 obtain ⟨b, hb⟩ : ∃ b, bk k = b := ⟨_, rfl⟩
 rw [hb] at k0 cA
 obtain ⟨E, hE⟩ : ∃ b, Tmf.addE (M.f k).x p = b := ⟨_, rfl⟩
 unfold addY
 rw [hE] at cA ⊢
 obtain ⟨Y, hY⟩ : ∃ Y, updY ys k (if E = 0 then (ys k).add p.data.toList else ys k) = Y := ⟨_, rfl⟩
 rw [hY] at cA ⊢
 have q1 : ¬ ((k : Nat) : Int) < 0 := by omega
 have q2 : ¬ (7 : Int) < ((k : Nat) : Int) := by omega
 have q3 : ((k : Nat) : Int) < 8 := by omega
 clear h hr ho l1 l2 hb hE hY
 go_enter Try.func23, Try.ntmps23
 go_wp2_with (go_at_call 46; refine cA.mono ?_; clear cA; rintro e W1 ⟨rfl, h1, h2⟩)
 go_ret
 exact ⟨rfl, h1, h2⟩
/-- A mux as it was made. -/
def clearM (M : MS) : MS := { M with master := 0, f := fun k => ⟨Tmf.fs0 (M.f k).x.size, (M.f k).pr, (M.f k).sh, 0, 0⟩ }
/-- The reference's fillers below j are empty. -/
def clearY (ys : Nat → RS) (j : Nat) : Nat → RS := fun k => if k < j then Tmf.rs0 (ys k).size else ys k
theorem clearY_zero (ys : Nat → RS) : clearY ys 0 = ys := funext fun k => if_neg (Nat.not_lt_zero k)
theorem clearY_next (ys : Nat → RS) (j : Nat) : clearY ys (j + 1) = updY (clearY ys j) j (Tmf.rs0 (clearY ys j j).size) := by
 funext k
 have e : clearY ys j j = ys j := if_neg (Nat.lt_irrefl j)
 rw [e]
 unfold updY clearY
 by_cases h : k = j
 · subst h; rw [if_pos (by omega), if_pos rfl]
 · rw [if_neg h]
   by_cases h2 : k < j
   · rw [if_pos (by omega), if_pos h2]
   · rw [if_neg (by omega), if_neg h2]
theorem rm_clear (bk : Nat → Nat) (M : MS) : (((((((((((((((((rmC bk M).setIfInBounds 26 (.int .i64 0)).setIfInBounds 27 (.int .i64 0)).setIfInBounds 28 (.int .i64 0)).setIfInBounds 29 (.int .i64 0)).setIfInBounds 30 (.int .i64 0)).setIfInBounds 31 (.int .i64 0)).setIfInBounds 32 (.int .i64 0)).setIfInBounds 33 (.int .i64 0)).setIfInBounds 34 (.int .i64 0)).setIfInBounds 35 (.int .i64 0)).setIfInBounds 36 (.int .i64 0)).setIfInBounds 37 (.int .i64 0)).setIfInBounds 38 (.int .i64 0)).setIfInBounds 39 (.int .i64 0)).setIfInBounds 40 (.int .i64 0)).setIfInBounds 41 (.int .i64 0)).setIfInBounds 42 (.int .i64 0) = rmC bk (clearM M) := by
 kernel_rfl
/-- Only the block of the mux itself has turned. -/
theorem RM.only (h : RM S rb bk M ys w) (ho : OnlyB rb w w') (hc : w'.heap[rb]? = some (.cells (rmC bk M') 120 (0, 0))) : RM S rb bk M' ys w' ∧ FrS S w w' := by
 obtain ⟨Sk, h1, h2, h3⟩ := h.fil
 refine ⟨⟨fun n hn => h.hS n (by rw [ho.size] at hn; exact hn), hc, h.Sm, Sk, fun j hj => rykeep (h1 j hj) (Nat.le_of_eq ho.size.symm) fun n hn hlt => ho.rest n fun e => (h2 j hj n hlt hn).2 e, fun j hj n hn => h2 j hj n (by rw [ho.size] at hn; exact hn), fun j j' a b c n hn => h3 j j' a b c n (by rw [ho.size] at hn; exact hn)⟩, ho.fr h.Sm⟩
theorem rmclear_at (h : RM S rb bk M ys w) :
 Calls Try.prog 25 #[.pointer (some ⟨rb, 0, none⟩)] w fun e w' => e = .returned (.tuple #[]) ∧ RM S rb bk (clearM M) (clearY ys 8) w' ∧ FrS S w w' := by
 go_enter Try.func25, Try.ntmps25
 go_wp2
 go_loopw [2] (fun iv wr => ∃ j : Nat, iv = .int .i64 (j : Nat) ∧ j ≤ 8 ∧ RM S rb bk M (clearY ys j) wr ∧ FrS S w wr) (fun iv _ => 8 - iOf iv)
 case atStart => exact ⟨0, rfl, Nat.zero_le _, by rw [clearY_zero]; exact h, FrS.refl _ _⟩
 case round =>
  clear h
  obtain ⟨j, rfl, hj, h, hf⟩ := hrel
  rcases Nat.lt_or_ge j 8 with hlt | hge
  · have hlt' : ((j : Nat) : Int) < 8 := by omega
    have hmeas : 8 - (j + 1) < 8 - j := by omega
    have k0 := h.fl hlt
    have cA := h.turn hlt (E := fun e => e = .returned (.tuple #[])) (y' := Tmf.rs0 (clearY ys j j).size) (f := 48) (args := #[.pointer (some ⟨bk j, 0, none⟩)]) fun S' ⟨v, hf⟩ => Tmf.rclear_calls hf
    rw [← clearY_next] at cA
    obtain ⟨b, hb⟩ : ∃ b, bk j = b := ⟨_, rfl⟩
    rw [hb] at k0 cA
    clear h hb
    go_wp2_with (go_at_call 48; refine cA.mono ?_; clear cA; rintro e W1 ⟨rfl, h1, h2⟩)
    exact ⟨⟨j + 1, by push_cast; rfl, hlt, h1, hf.trans h2⟩, hmeas⟩
  · obtain rfl : j = 8 := by omega
    have hge' : ¬ (8 : Int) < 8 := by decide
    have f0 := fz_of h.cell
    have hc := h.cell
    have H := Lib.hid (And.intro h hf)
    have HC := Lib.hid hc
    clear hc
    have c26 : wr.cell? ⟨rb, 26, none⟩ = some (intN M.master) := cell_of h.cell
    have c27 : wr.cell? ⟨rb, 27, none⟩ = some (intN (M.f 0).ct) := cell_of h.cell
    have c28 : wr.cell? ⟨rb, 28, none⟩ = some (intN (M.f 1).ct) := cell_of h.cell
    have c29 : wr.cell? ⟨rb, 29, none⟩ = some (intN (M.f 2).ct) := cell_of h.cell
    have c30 : wr.cell? ⟨rb, 30, none⟩ = some (intN (M.f 3).ct) := cell_of h.cell
    have c31 : wr.cell? ⟨rb, 31, none⟩ = some (intN (M.f 4).ct) := cell_of h.cell
    have c32 : wr.cell? ⟨rb, 32, none⟩ = some (intN (M.f 5).ct) := cell_of h.cell
    have c33 : wr.cell? ⟨rb, 33, none⟩ = some (intN (M.f 6).ct) := cell_of h.cell
    have c34 : wr.cell? ⟨rb, 34, none⟩ = some (intN (M.f 7).ct) := cell_of h.cell
    have c35 : wr.cell? ⟨rb, 35, none⟩ = some (intN (M.f 0).cr) := cell_of h.cell
    have c36 : wr.cell? ⟨rb, 36, none⟩ = some (intN (M.f 1).cr) := cell_of h.cell
    have c37 : wr.cell? ⟨rb, 37, none⟩ = some (intN (M.f 2).cr) := cell_of h.cell
    have c38 : wr.cell? ⟨rb, 38, none⟩ = some (intN (M.f 3).cr) := cell_of h.cell
    have c39 : wr.cell? ⟨rb, 39, none⟩ = some (intN (M.f 4).cr) := cell_of h.cell
    have c40 : wr.cell? ⟨rb, 40, none⟩ = some (intN (M.f 5).cr) := cell_of h.cell
    have c41 : wr.cell? ⟨rb, 41, none⟩ = some (intN (M.f 6).cr) := cell_of h.cell
    have c42 : wr.cell? ⟨rb, 42, none⟩ = some (intN (M.f 7).cr) := cell_of h.cell
    clear h hf
    go_wp2
    go_end0
    have hc := HC.out
    have hb := (((((((((((((((((OnlyB.refl rb wr).setCell 26 (.int .i64 0)).setCell 27 (.int .i64 0)).setCell 28 (.int .i64 0)).setCell 29 (.int .i64 0)).setCell 30 (.int .i64 0)).setCell 31 (.int .i64 0)).setCell 32 (.int .i64 0)).setCell 33 (.int .i64 0)).setCell 34 (.int .i64 0)).setCell 35 (.int .i64 0)).setCell 36 (.int .i64 0)).setCell 37 (.int .i64 0)).setCell 38 (.int .i64 0)).setCell 39 (.int .i64 0)).setCell 40 (.int .i64 0)).setCell 41 (.int .i64 0)).setCell 42 (.int .i64 0)
    have hd := set_at (o := 42) (v := .int .i64 0) (set_at (o := 41) (v := .int .i64 0) (set_at (o := 40) (v := .int .i64 0) (set_at (o := 39) (v := .int .i64 0) (set_at (o := 38) (v := .int .i64 0) (set_at (o := 37) (v := .int .i64 0) (set_at (o := 36) (v := .int .i64 0) (set_at (o := 35) (v := .int .i64 0) (set_at (o := 34) (v := .int .i64 0) (set_at (o := 33) (v := .int .i64 0) (set_at (o := 32) (v := .int .i64 0) (set_at (o := 31) (v := .int .i64 0) (set_at (o := 30) (v := .int .i64 0) (set_at (o := 29) (v := .int .i64 0) (set_at (o := 28) (v := .int .i64 0) (set_at (o := 27) (v := .int .i64 0) (set_at (o := 26) (v := .int .i64 0) (hc)))))))))))))))))
    rw [rm_clear] at hd
    have hA := H.out.1.only (M' := clearM M) hb hd
    exact ⟨rfl, hA.1, H.out.2.trans hA.2⟩
end Go.Am.Cha
