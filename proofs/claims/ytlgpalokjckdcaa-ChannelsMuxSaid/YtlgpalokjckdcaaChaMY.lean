/-
  Channels: the reference's choice. Own work.
-/
import Derived.Test.YtlgpalokjckdcaaChaMX
import Derived.Test.YtlgpalokjckdcaaChaSX
namespace Go.Am.Cha
open Go Go.Am Go.Am.Lib
open Go.Am.Tmf (FS RS Rel OkF idleL)
set_option maxRecDepth 100000

/-- The channels in which at least n bytes wait, below j. -/
def atJ (M : MS) (n j : Nat) : List Nat := (List.range j).filter fun k => decide (n ≤ (M.f k).x.wait)
theorem atJ_yes {M : MS} {n j : Nat} (h : n ≤ (M.f j).x.wait) : atJ M n (j + 1) = atJ M n j ++ [j] := by
 unfold atJ
 rw [List.range_succ, List.filter_append]
 simp [h]
theorem atJ_no {M : MS} {n j : Nat} (h : ¬ n ≤ (M.f j).x.wait) : atJ M n (j + 1) = atJ M n j := by
 unfold atJ
 rw [List.range_succ, List.filter_append]
 simp [h]
theorem atJ_lt {M : MS} {n j k : Nat} (h : k ∈ atJ M n j) : k < j := List.mem_range.1 (List.mem_filter.1 h).1
theorem atJ_len (M : MS) (n j : Nat) : (atJ M n j).length ≤ j := by
 have := List.length_filter_le (fun k => decide (n ≤ (M.f k).x.wait)) (List.range j)
 rw [List.length_range] at this
 exact this
theorem atJ_one (M : MS) : atJ M 1 8 = waitJ M 8 := rfl
/-- The channels among which the reference chooses. -/
def rl (M : MS) : List Nat := if atJ M M.size 8 = [] then atJ M 1 8 else atJ M M.size 8
theorem rl_lt {M : MS} {k : Nat} (h : k ∈ rl M) : k < 8 := by
 unfold rl at h
 split at h <;> exact atJ_lt h
theorem rl_len (M : MS) : (rl M).length ≤ 8 := by
 unfold rl
 split <;> exact atJ_len _ _ _
theorem topV_mem {val : Nat → Nat} {l : List Nat} (h : l ≠ []) : ∃ a ∈ l, val a = topV val l := by
 have hm := head_mem (best_ne (val := val) h)
 rw [best_eq] at hm
 have := List.mem_filter.1 hm
 exact ⟨_, this.1, of_decide_eq_true this.2⟩
theorem full_rl {M : MS} (hs : 0 < M.size) : best (fullM M) (waitJ M 8) = rl M := by
 rw [best_eq]
 unfold rl
 by_cases he : atJ M M.size 8 = []
 · rw [if_pos he, atJ_one, List.filter_eq_self]
   have h0 : ∀ a ∈ waitJ M 8, fullM M a = 0 := by
    intro a ha
    have hlt : ¬ M.size ≤ (M.f a).x.wait := fun hle => by
     have : a ∈ atJ M M.size 8 := List.mem_filter.2 ⟨List.mem_range.2 (waitJ_lt ha), decide_eq_true hle⟩
     rw [he] at this; cases this
    unfold fullM
    rw [Nat.div_eq_of_lt (by omega)]
    rfl
   intro a ha
   apply decide_eq_true
   have hne : waitJ M 8 ≠ [] := fun e => by rw [e] at ha; cases ha
   obtain ⟨b, hb, e⟩ := topV_mem (val := fullM M) hne
   rw [← e, h0 a ha, h0 b hb]
 · rw [if_neg he]
   have h1 : ∀ a, fullM M a = if M.size ≤ (M.f a).x.wait then 1 else 0 := by
    intro a
    unfold fullM
    split
    · rename_i h
      have : 1 ≤ (M.f a).x.wait / M.size := (Nat.le_div_iff_mul_le hs).2 (by omega)
      omega
    · rename_i h
      rw [Nat.div_eq_of_lt (by omega)]; rfl
   obtain ⟨a, ha⟩ := List.exists_mem_of_ne_nil _ he
   have ha2 := List.mem_filter.1 ha
   have hle : M.size ≤ (M.f a).x.wait := of_decide_eq_true ha2.2
   have haw : a ∈ waitJ M 8 := List.mem_filter.2 ⟨ha2.1, decide_eq_true (by omega)⟩
   have ht : topV (fullM M) (waitJ M 8) = 1 := by
    have g1 := topV_le (fullM M) (waitJ M 8) a haw
    rw [h1 a, if_pos hle] at g1
    obtain ⟨b, -, e⟩ := topV_mem (val := fullM M) (l := waitJ M 8) fun e => by rw [e] at haw; cases haw
    have g2 : fullM M b ≤ 1 := by rw [h1 b]; split <;> omega
    omega
   rw [ht]
   unfold waitJ atJ
   rw [List.filter_filter]
   congr 1
   funext k
   rw [h1 k]
   by_cases h : M.size ≤ (M.f k).x.wait
   · have h2 : 0 < (M.f k).x.wait := by omega
     simp [h, h2]
   · simp [h]
/-- The greatest priority. -/
def rgr (M : MS) : Nat := topV (fun k => (M.f k).pr) (rl M)
theorem bests_rl {M : MS} (hs : 0 < M.size) : bests M = (rl M).filter fun k => decide ((M.f k).pr = rgr M) := by
 unfold bests
 rw [full_rl hs, best_eq]
 rfl
theorem rl_ne {M : MS} (h : waitJ M 8 ≠ []) : rl M ≠ [] := by
 unfold rl
 split
 · exact h
 · assumption
theorem rl_nil {M : MS} (hs : 0 < M.size) (h : waitJ M 8 = []) : atJ M M.size 8 = [] ∧ atJ M 1 8 = [] := by
 refine ⟨?_, h⟩
 have h1 : ∀ a, a < 8 → ¬ 0 < (M.f a).x.wait := fun a ha hlt => by
  have : a ∈ waitJ M 8 := List.mem_filter.2 ⟨List.mem_range.2 ha, decide_eq_true hlt⟩
  rw [h] at this; cases this
 unfold atJ
 rw [List.filter_eq_nil_iff]
 intro a ha
 have := h1 a (List.mem_range.1 ha)
 simp; omega
/-- No channel of those has credit. -/
def spentJ (M : MS) (j : Nat) : Bool := ((rl M).take j).all fun k => !(decide ((M.f k).pr = rgr M) && decide (0 < (M.f k).cr))
theorem spent_iff {M : MS} (hs : 0 < M.size) (hw : waitJ M 8 ≠ []) : spentJ M (rl M).length = true ↔ (M.f (topS M (bests M))).cr = 0 := by
 have hb := bests_ne hw
 have hm := head_mem (best_ne (val := fun k => (M.f k).cr) hb)
 have ht : topS M (bests M) = (best (fun k => (M.f k).cr) (bests M)).headD 0 := rfl
 rw [ht]
 rw [best_eq] at hm ⊢
 have h2 := List.mem_filter.1 hm
 have h3 := of_decide_eq_true h2.2
 rw [h3]
 unfold spentJ
 rw [List.take_length, List.all_eq_true]
 constructor
 · intro h
   obtain ⟨b, hb1, e⟩ := topV_mem (val := fun k => (M.f k).cr) hb
   rw [← e]
   rw [bests_rl hs] at hb1
   have hb2 := List.mem_filter.1 hb1
   have h4 := h b hb2.1
   have h5 := of_decide_eq_true hb2.2
   simp [h5] at h4
   exact h4
 · intro h k hk
   by_cases e : (M.f k).pr = rgr M
   · have hkb : k ∈ bests M := by rw [bests_rl hs]; exact List.mem_filter.2 ⟨hk, decide_eq_true e⟩
     have := topV_le (fun k => (M.f k).cr) (bests M) k hkb
     have h0 : (M.f k).cr = 0 := by omega
     simp [h0]
   · simp [e]
theorem head_pr {M : MS} (hs : 0 < M.size) (hw : waitJ M 8 ≠ []) : (M.f ((bests M).headD 0)).pr = rgr M := by
 have hm := head_mem (bests_ne hw)
 rw [bests_rl hs] at hm ⊢
 exact of_decide_eq_true (List.mem_filter.1 hm).2
/-- The mux behind the filling, as the reference says it. -/
def rfill (M : MS) : MS := if spentJ M (rl M).length = true then refillJ M (rgr M) 8 else M
theorem rfill_eq {M : MS} (hs : 0 < M.size) (hw : waitJ M 8 ≠ []) : rfill M = filled M (bests M) := by
 unfold rfill filled
 by_cases h : spentJ M (rl M).length = true
 · rw [if_pos h, if_pos ((spent_iff hs hw).1 h), head_pr hs hw]
 · rw [if_neg h, if_neg fun e => h ((spent_iff hs hw).2 e)]
/-- The best of the first channels of those; none: below 0. -/
def bestJ (M : MS) (C : MS) (j : Nat) : List Nat := best (fun k => (C.f k).cr) (((rl M).take j).filter fun k => decide ((M.f k).pr = rgr M))
def idxV : List Nat → Int
 | [] => -1
 | a :: _ => ((a : Nat) : Int)
theorem take_next {l : List Nat} {j k : Nat} (h : l[j]? = some k) : l.take (j + 1) = l.take j ++ [k] := by
 rw [List.take_add_one, h]; rfl
theorem bestJ_no {M C : MS} {j k : Nat} (h : (rl M)[j]? = some k) (hp : (M.f k).pr ≠ rgr M) : bestJ M C (j + 1) = bestJ M C j := by
 unfold bestJ
 rw [take_next h, List.filter_append]
 simp [hp]
theorem bestJ_yes {M C : MS} {j k : Nat} (h : (rl M)[j]? = some k) (hp : (M.f k).pr = rgr M) : bestJ M C (j + 1) = bestStep (fun k => (C.f k).cr) (bestJ M C j) k := by
 unfold bestJ
 rw [take_next h, List.filter_append]
 simp only [hp, List.filter_cons, List.filter_nil, decide_true, if_true]
 rw [best_snoc]
/-- One channel more. -/
theorem idx_first {M C : MS} {j k : Nat} (h : (rl M)[j]? = some k) (hp : (M.f k).pr = rgr M) (hb : bestJ M C j = []) : idxV (bestJ M C (j + 1)) = ((k : Nat) : Int) := by
 rw [bestJ_yes h hp, hb]; rfl
theorem idx_more {M C : MS} {j k o : Nat} {r : List Nat} (h : (rl M)[j]? = some k) (hp : (M.f k).pr = rgr M) (hb : bestJ M C j = o :: r) (hc : (C.f o).cr < (C.f k).cr) : idxV (bestJ M C (j + 1)) = ((k : Nat) : Int) := by
 rw [bestJ_yes h hp, hb]
 show idxV (if (C.f o).cr < (C.f k).cr then [k] else _) = _
 rw [if_pos hc]; rfl
theorem idx_less {M C : MS} {j k o : Nat} {r : List Nat} (h : (rl M)[j]? = some k) (hp : (M.f k).pr = rgr M) (hb : bestJ M C j = o :: r) (hc : ¬ (C.f o).cr < (C.f k).cr) : idxV (bestJ M C (j + 1)) = ((o : Nat) : Int) := by
 rw [bestJ_yes h hp, hb]
 show idxV (if (C.f o).cr < (C.f k).cr then [k] else if (C.f k).cr = (C.f o).cr then o :: r ++ [k] else o :: r) = _
 rw [if_neg hc]
 split <;> rfl
theorem bestJ_mem {M C : MS} {j k : Nat} (h : k ∈ bestJ M C j) : k < 8 := rl_lt (List.mem_of_mem_take (List.mem_filter.1 (best_mem h)).1)
theorem bestJ_end {M : MS} (hs : 0 < M.size) (hw : waitJ M 8 ≠ []) : idxV (bestJ M (rfill M) (rl M).length) = ((chosen M : Nat) : Int) := by
 unfold bestJ
 rw [List.take_length, ← bests_rl hs]
 unfold chosen topS
 rw [rfill_eq hs hw]
 have hn := best_ne (val := fun k => ((filled M (bests M)).f k).cr) (bests_ne hw)
 generalize best (fun k => ((filled M (bests M)).f k).cr) (bests M) = l at hn ⊢
 cases l with
 | nil => exact absurd rfl hn
 | cons a r => rfl
end Go.Am.Cha

namespace Go.Am.Cha
open Go Go.Am Go.Am.Lib Go.Lib Go.Proofs Go.RowKit
open Go.Am.Own
open Go.Am.Tmf (FS RS RAt RC OkF idleL Rel cellI cellI_snoc)
set_option maxRecDepth 100000

/-- A list of numbers that has been made since w; nothing else has turned. -/
structure Al (w : World) (L : List Nat) (v : Value) (wr : World) : Prop where
 row : wr.ownsRow w.heap.size 3 1 v L.length (cellI L)
 b : Below w.heap.size w wr
variable {w wr w' : World} {L : List Nat} {v v' : Value}
theorem Al.below (h : Al w L v wr) (hb : Below wr.heap.size wr w') : Al w L v w' :=
 ⟨ownsRow_keep h.row fun k hk => hb.block k (h.row.lt k hk).2, h.b.trans (hb.mono h.b.size)⟩
theorem Al.alloc (h : Al w L v wr) (o : Obj) : Al w L v (wr.alloc o) := h.below ((Below.refl _ wr).alloc (Nat.le_refl _) o)
theorem Al.push {i : Nat} {o : Obj} (h : Al w L v wr) (hr : w'.ownsRow w.heap.size 3 1 v' (L.length + 1) (cellI L ++ [.int .i64 ((i : Nat) : Int)])) (hg : (wr.alloc o).grownBy w' v.ownBlock) : Al w (L ++ [i]) v' w' := by
 have h1 := h.alloc o
 refine ⟨by rw [List.length_append, ← cellI_snoc]; exact hr, h1.b.grown hg h1.b.size fun k e => (h1.row.lt k e).1⟩
variable {S : Nat → Prop} {rb N : Nat} {bk : Nat → Nat} {M M' : MS} {ys : Nat → RS}
set_option maxHeartbeats 1600000 in
theorem ratl_at (h : RM S rb bk M ys w) (ho : OkM N M) (hN : N + 1 ≤ 2 ^ 20) (hr : Alike M ys) (n : Nat) (_ : n ≤ 2 ^ 40) :
 Calls Try.prog 85 #[.pointer (some ⟨rb, 0, none⟩), .int .i64 ((n : Nat) : Int)] w fun e w' => ∃ v, e = .returned v ∧ Al w (atJ M n 8) v w' := by
 obtain ⟨iP, iP1, iP2, iP3, iP4⟩ := Tmf.info3
 have cW := fun (W : World) (hb : Below w.heap.size w W) {k : Nat} (hk : k < 8) => rmwait_at (h.below hb) ho hN hr hk
 have CW := Lib.hid @cW
 clear cW h ho hr
 go_enter Try.func85, Try.ntmps85
 go_wp2
 go_loopw [5, 6] (fun lv iv wr => ∃ (j : Nat) (xv : Value), xv = lv ∧ iv = .int .i64 (j : Nat) ∧ j ≤ 8 ∧ Al w (atJ M n j) xv wr) (fun _ iv _ => 8 - iOf iv)
 case atStart => exact ⟨0, _, rfl, rfl, Nat.zero_le _, World.ownsRow_nil _ _ _ _, Below.refl _ _⟩
 case round =>
  obtain ⟨j, lv, rfl, rfl, hj, hC⟩ := hrel
  rcases Nat.lt_or_ge j 8 with hlt | hge
  · have hlt' : ((j : Nat) : Int) < 8 := by omega
    have hmeas : 8 - (j + 1) < 8 - j := by omega
    have cW := CW.out wr hC.b hlt
    obtain ⟨wt, hwt⟩ : ∃ b, (M.f j).x.wait = b := ⟨_, rfl⟩
    rw [hwt] at cW
    have hWl := atJ_len M n j
    by_cases h0 : n ≤ wt
    · have hw0 : ((n : Nat) : Int) ≤ ((wt : Nat) : Int) := by omega
      have hst : atJ M n (j + 1) = atJ M n j ++ [j] := atJ_yes (by omega)
      have HS := Lib.hid hst
      clear hst
      obtain ⟨oo, oc, rfl⟩ := ownsRow_slice hC.row
      obtain ⟨L, hL⟩ : ∃ L, atJ M n j = L := ⟨_, rfl⟩
      rw [hL] at hWl HS hC
      rw [hL]
      have HC := Lib.hid hC
      clear hL hC h0
      go_wp2_with (first
       | (go_at_call 27; refine cW.mono ?_; clear cW; rintro e W2 ⟨rfl, b2⟩; have h2 := HC.out.below b2; have h3 := h2.alloc (.cells #[.int .i64 ((j : Nat) : Int)] 3); have hrA := h3.row; have hbase : w.heap.size ≤ (W2.alloc (.cells #[.int .i64 ((j : Nat) : Int)] 3)).heap.size := h3.b.size)
       | (at_builtin; refine wpList_append_at rfl _ _ 43 rfl w.heap.size 3 iP (.int .i64 0) 1 8 Try.underlying43 iP1 iP2 iP3 iP4 rfl (by decide) _ L.length (cellI L) rfl hrA ⟨W2.heap.size, 0, none⟩ 1 1 [.int .i64 ((j : Nat) : Int)] rfl rfl (cell_one W2 3 _) (by intro u hu; exact one_mem hu rfl) (by decide) ?_ (by omega) hbase ?_))
      · unfold maxLen; omega
      intro v5 V5 hr5 hg5 _
      have hR5 := h2.push (i := j) hr5 hg5
      obtain ⟨o5, c5, rfl⟩ := ownsRow_slice hR5.row
      go_wp2
      exact ⟨⟨j + 1, _, rfl, by push_cast; rfl, hlt, by rw [HS.out]; exact hR5⟩, hmeas⟩
    · have hw0 : ¬ ((n : Nat) : Int) ≤ ((wt : Nat) : Int) := by omega
      have hst : atJ M n (j + 1) = atJ M n j := atJ_no (by omega)
      have HS := Lib.hid hst
      have HC := Lib.hid hC
      clear hst hC h0
      go_wp2_with (go_at_call 27; refine cW.mono ?_; clear cW; rintro e W2 ⟨rfl, b2⟩)
      exact ⟨⟨j + 1, _, rfl, by push_cast; rfl, hlt, by rw [HS.out]; exact HC.out.below b2⟩, hmeas⟩
  · have hge' : ¬ ((j : Nat) : Int) < 8 := by omega
    obtain rfl : j = 8 := by omega
    go_wp2
    go_ret
    exact ⟨_, rfl, hC⟩
end Go.Am.Cha

namespace Go.Am.Cha
open Go Go.Am Go.Am.Lib Go.Lib Go.Proofs Go.RowKit
open Go.Am.Own
open Go.Am.Tmf (FS RS RAt RC OkF idleL Rel cellI)
set_option maxRecDepth 100000

/-- The mux and a list of numbers, while the choice runs. -/
structure Rq (S : Nat → Prop) (w : World) (rb : Nat) (bk : Nat → Nat) (M : MS) (ys : Nat → RS) (L : List Nat) (lv : Value) (wr : World) : Prop where
 rm : RM S rb bk M ys wr
 row : wr.ownsRow w.heap.size 3 1 lv L.length (cellI L)
 fr : FrS S w wr
 lt : rb < w.heap.size
variable {S : Nat → Prop} {rb N : Nat} {bk : Nat → Nat} {M M' : MS} {ys : Nat → RS} {w wr w' : World} {L : List Nat} {v v' : Value}
theorem Rq.start (h : RM S rb bk M ys w) (hA : Al w L v wr) : Rq S w rb bk M ys L v wr := ⟨h.below hA.b, hA.row, fr_of hA.b h.hS, h.lt⟩
theorem Rq.below (h : Rq S w rb bk M ys L v wr) (hb : Below wr.heap.size wr w') : Rq S w rb bk M ys L v w' :=
 ⟨h.rm.below hb, ownsRow_keep h.row fun k hk => hb.block k (h.row.lt k hk).2, h.fr.trans (fr_of hb h.rm.hS), h.lt⟩
theorem Rq.drew (h : Rq S w rb bk M ys L v wr) : Rq S w rb bk M ys L v wr.drew := h.below (Below.refl _ wr).drew
theorem Rq.put (h : Rq S w rb bk M ys L v wr) {p : Nat} {u : Value} (e : (rmC bk M).setIfInBounds p u = rmC bk M') : Rq S w rb bk M' ys L v (wr.setCell ⟨rb, p, none⟩ u) := by
 have h1 := h.rm.put e
 have ho : OnlyB rb wr (wr.setCell ⟨rb, p, none⟩ u) := (OnlyB.refl rb wr).setCell p u
 exact ⟨h1.1, ownsRow_keep h.row fun k hk => ho.rest k fun e => by have := (h.row.lt k hk).1; have := h.lt; omega, h.fr.trans h1.2, h.lt⟩
theorem Rq.num {ao : Option Addr} {cap n : Nat} (h : Rq S w rb bk M ys L (.slice ao n cap) wr) (hn : L.length = n) {j k : Nat} (hj : L[j]? = some k) : ∃ og, ao = some ⟨og, 0, none⟩ ∧ ∀ M' wq, Rq S w rb bk M' ys L (.slice ao n cap) wq → wq.cell? ⟨og, j, none⟩ = some (.int .i64 ((k : Nat) : Int)) := by
 subst hn
 have hl : j < L.length := (List.getElem?_eq_some_iff.1 hj).1
 obtain ⟨_, og, rfl⟩ := ownsRow_base h.row (by omega)
 refine ⟨og, rfl, fun M' wq hq => ?_⟩
 have := hq.row.cells (g := og) rfl j (.int .i64 ((k : Nat) : Int)) (by unfold cellI; rw [List.getElem?_map, hj]; rfl)
 rw [Addr.add_lit, Nat.zero_add] at this
 exact this
set_option maxHeartbeats 1600000 in
theorem rchoose_none (h : RM S rb bk M ys w) (ho : OkM N M) (hN : N + 1 ≤ 2 ^ 20) (hr : Alike M ys) (hw : waitJ M 8 = []) :
 Calls Try.prog 49 #[.pointer (some ⟨rb, 0, none⟩)] w fun e w' => e = .returned (.int .i64 (-1)) ∧ RM S rb bk M ys w' ∧ FrS S w w' := by
 obtain ⟨z1, z2⟩ := rl_nil (M := M) (by have := ho.lo; omega) hw
 have k1 := h.c1
 have hsz := ho.hi
 have c1 := ratl_at h ho hN hr M.size (by omega)
 have c2 := fun (W : World) (hb : Below w.heap.size w W) => ratl_at (h.below hb) ho hN hr 1 (by decide)
 rw [z1] at c1
 rw [z2] at c2
 obtain ⟨sz, hsz⟩ : ∃ s, M.size = s := ⟨_, rfl⟩
 rw [hsz] at k1 c1
 have H := Lib.hid h
 have C2 := Lib.hid c2
 clear h ho hr hw c2 hsz
 go_enter Try.func49, Try.ntmps49
 go_wp2_with (go_at_call 85; refine c1.mono ?_; clear c1; rintro e W1 ⟨v1, rfl, hA1⟩; obtain ⟨o1, q1, rfl⟩ := ownsRow_slice hA1.row; have b1 := hA1.b; clear hA1; have c2 := C2.out W1 b1)
 refine c2.mono ?_
 clear c2
 rintro e W2 ⟨v2, rfl, hA2⟩
 obtain ⟨o2, q2, rfl⟩ := ownsRow_slice hA2.row
 have b2 := b1.trans (hA2.b.mono b1.size)
 clear hA2
 go_wp2
 go_ret
 exact ⟨rfl, H.out.below b2, fr_of b2 H.out.hS⟩
end Go.Am.Cha
