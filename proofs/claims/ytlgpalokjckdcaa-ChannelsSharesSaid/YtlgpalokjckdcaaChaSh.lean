/-
  Channels: the law of shares walked. Own work.
-/
import Derived.Test.YtlgpalokjckdcaaChaSi
import Derived.Test.YtlgpalokjckdcaaChaGJ
import Derived.Deep.LoopGhost
import Derived.ChangeKeysEq
import Derived.Laws.StructEq
namespace Go.Am.Cha
open Go Go.Am Go.Am.Lib Go.Lib Go.Proofs Go.RowKit
open Go.Am.Own
set_option maxRecDepth 100000
attribute [local go_sem] Oper.semAt_some

theorem shr_new (P : Nat → Int) (w : World) : Calls Try.prog 15 #[.int .i64 7, .int .i64 32, .agg #[.int .i64 0, .int .i64 0, .int .i64 0, .int .i64 0, .int .i64 0, .int .i64 0, .int .i64 0, .int .i64 0], .agg #[.int .i64 (drawQ P 0), .int .i64 (drawQ P 1), .int .i64 (drawQ P 2), .int .i64 (drawQ P 3), .int .i64 (drawQ P 4), .int .i64 (drawQ P 5), .int .i64 (drawQ P 6), .int .i64 (drawQ P 7)]] w fun e w' => NewOk w 7 32 (fun _ => 0) (drawQ P) e w' :=
  (newmux_at 7 32 (fun _ => 0) (drawQ P) w).mono fun e w' hh => hh.1 ⟨by decide, by decide, by decide, by decide, fun k _ => ⟨Int.le_refl 0, (by decide : (0 : Int) ≤ 7), (drawQ_le P k).1, by have := (drawQ_le P k).2; omega⟩⟩
theorem shr_dem (w : World) : Calls Try.prog 9 #[.int .i64 7, .int .i64 32] w fun e w' => e = .returned (.tuple #[.pointer (some ⟨w.heap.size, 0, none⟩), .int .i64 0]) ∧ w'.heap[w.heap.size]? = some (.cells (dmC (dm0 7 32)) 74 (0, 0)) ∧ Below w.heap.size w w' :=
  newdemux_ok (craft := 7) (size := 32) (by decide) (by decide) (by decide) w
/-- The law's arrays: shares as given (bx), zeros, the shares drawn so far. -/
structure Es (w0 : World) (bx b0 : Nat) (P : Nat → Int) (j : Nat) (w : World) : Prop where
  x : w.heap[bx]? = some (.cells (arr8 P) 38 (0, 0))
  z : w.heap[b0]? = some (.cells (arr8 fun _ => 0) 38 (0, 0))
  s : w.heap[b0 + 1]? = some (.cells (arr8 (partQ P j)) 38 (0, 0))
  n1 : w0.heap.size ≤ bx
  n2 : bx < b0
  fr : Below w0.heap.size w0 w
variable {w0 w w' : World} {bx b0 j : Nat} {P : Nat → Int}
theorem Es.below (h : Es w0 bx b0 P j w) (hb : Below w.heap.size w w') : Es w0 bx b0 P j w' := by
  have l : ∀ {k o}, w.heap[k]? = some o → w'.heap[k]? = some o := fun {k o} hk => (hb.block k (Array.getElem?_eq_some_iff.1 hk).1).trans hk
  exact ⟨l h.x, l h.z, l h.s, h.n1, h.n2, h.fr.trans (hb.mono h.fr.size)⟩
theorem Es.put (h : Es w0 bx b0 P j w) (hj : j < 8) : Es w0 bx b0 P (j + 1) (w.setCell ⟨b0 + 1, j, none⟩ (.int .i64 (drawQ P j))) := by
  have ho : OnlyB (b0 + 1) w (w.setCell ⟨b0 + 1, j, none⟩ (.int .i64 (drawQ P j))) := (OnlyB.refl _ w).setCell j _
  have n1 := h.n1; have n2 := h.n2
  refine ⟨(ho.rest _ (by omega)).trans h.x, (ho.rest _ (by omega)).trans h.z, by rw [← part_set P hj]; exact set_at h.s, n1, n2, h.fr.trans ((ho.fr (S := fun k => w0.heap.size ≤ k) (by show w0.heap.size ≤ b0 + 1; omega)).below fun k hk => by show ¬ w0.heap.size ≤ k; omega)⟩
theorem Es.start {W0 W1 : World} (hx : W0.heap[w0.heap.size]? = some (.cells (arr8 P) 38 (0, 0))) (h0 : Below w0.heap.size w0 W0) (h1 : Below W0.heap.size W0 W1) : Es w0 w0.heap.size W1.heap.size P 0 ((W1.alloc (.cells #[.int .i64 0, .int .i64 0, .int .i64 0, .int .i64 0, .int .i64 0, .int .i64 0, .int .i64 0, .int .i64 0] 38)).alloc (.cells #[.int .i64 0, .int .i64 0, .int .i64 0, .int .i64 0, .int .i64 0, .int .i64 0, .int .i64 0, .int .i64 0] 38)) := by
  obtain ⟨W2, hW2⟩ : ∃ W, W1.alloc (.cells #[.int .i64 0, .int .i64 0, .int .i64 0, .int .i64 0, .int .i64 0, .int .i64 0, .int .i64 0, .int .i64 0] 38) = W := ⟨_, rfl⟩
  have b2 : Below W1.heap.size W1 W2 := by rw [← hW2]; exact (Below.refl _ W1).alloc (Nat.le_refl _) _
  have k2 : W2.heap[W1.heap.size]? = some (.cells (arr8 fun _ => 0) 38 (0, 0)) := by rw [← hW2]; exact heap_alloc_new W1 _
  have s2 : W2.heap.size = W1.heap.size + 1 := by rw [← hW2]; exact alloc_size ..
  rw [hW2]
  have b3 : Below W2.heap.size W2 (W2.alloc (.cells #[.int .i64 0, .int .i64 0, .int .i64 0, .int .i64 0, .int .i64 0, .int .i64 0, .int .i64 0, .int .i64 0] 38)) := (Below.refl _ W2).alloc (Nat.le_refl _) _
  have l0 := (Array.getElem?_eq_some_iff.1 hx).1
  have hs1 := h1.size
  refine ⟨(b3.block _ (by omega)).trans ((b2.block _ (by omega)).trans ((h1.block _ l0).trans hx)), (b3.block _ (by omega)).trans k2, ?_, Nat.le_refl _, by omega, (h0.trans (h1.mono h0.size)).trans ((b2.trans (b3.mono b2.size)).mono (by have := h0.size; omega))⟩
  rw [← s2]
  exact heap_alloc_new W2 _
theorem sum_sh {S : Nat → Prop} {w0 w : World} {sb mb g cap bs N Nd : Nat} {bk : Nat → Nat} {P : Nat → Int} {M : MS} {D : Dm} (hF : Rn S w0 sb mb g cap bk P bs N Nd M D w) : ((sum8 fun k => (M.f k).sh : Nat) : Int) = sumQ P 8 := by
  have e : (sum8 fun k => (M.f k).sh) = sum8 fun k => (drawQ P k).toNat := sum8_congr fun k hk => hF.sh k hk
  rw [e]
  have q := fun k => (drawQ_le P k).1
  have q0 := q 0; have q1 := q 1; have q2 := q 2; have q3 := q 3; have q4 := q 4; have q5 := q 5; have q6 := q 6; have q7 := q 7
  show (((drawQ P 0).toNat + (drawQ P 1).toNat + (drawQ P 2).toNat + (drawQ P 3).toNat + (drawQ P 4).toNat + (drawQ P 5).toNat + (drawQ P 6).toNat + (drawQ P 7).toNat : Nat) : Int) = 0 + drawQ P 0 + drawQ P 1 + drawQ P 2 + drawQ P 3 + drawQ P 4 + drawQ P 5 + drawQ P 6 + drawQ P 7
  omega
theorem made100 : ∀ i : Nat, i < 48 → Pkt.getE (madeN 100 i) = 0 ∧ Pkt.gA (madeN 100 i) ≠ 2047 := by decide +kernel
theorem add100 {x : Tmf.FS} {i : Nat} (hi : i < 48) (hw : x.wait < 32) : Tmf.addE x (madeN 100 i) = 0 := by
  have h := made100 i hi
  unfold Tmf.addE
  rw [if_neg (by rw [h.1]; intro q; rcases q with q | q; exact q rfl; exact h.2 q), if_neg (by rw [madeN_size (by decide)]; omega)]
/-- A packet of 100 bytes is added: the other channels are as they were. -/
theorem addM_wait {M : MS} {c i : Nat} (hi : i < 48) (hw : (M.f c).x.wait < 32) (k : Nat) : (k ≠ c → ((addM M c (madeN 100 i)).f k).x = (M.f k).x) ∧ (k = c → (M.f c).x.idle ≤ (M.f c).x.q.length → 32 ≤ ((addM M c (madeN 100 i)).f k).x.wait) ∧ ((addM M c (madeN 100 i)).f k).cr = (M.f k).cr ∧ ((addM M c (madeN 100 i)).f k).sh = (M.f k).sh := by
  have e : (addM M c (madeN 100 i)).f k = if k = c then { M.f c with x := (M.f c).x.add (madeN 100 i).data.toList } else M.f k := by
    show upd M.f c _ k = _
    unfold upd
    rw [if_pos (add100 hi hw)]
  rw [e]
  refine ⟨fun h => by rw [if_neg h], fun h hq => ?_, ?_, ?_⟩
  · rw [if_pos h]
    show 32 ≤ ((M.f c).x.q ++ (madeN 100 i).data.toList).length - (M.f c).x.idle
    have h1 : (madeN 100 i).data.toList.length = 100 := madeN_size (by decide)
    rw [List.length_append, h1]; omega
  · split
    · rename_i h; rw [h]
    · rfl
  · split
    · rename_i h; rw [h]
    · rfl
theorem RunI.same {M M' : MS} {many : Nat → Nat} {i : Nat} (h : RunI M many i) (hc : ∀ k, (M'.f k).cr = (M.f k).cr) (hs : ∀ k, (M'.f k).sh = (M.f k).sh) : RunI M' many i := by
  rcases h with ⟨h0, h1⟩ | ⟨h0, h2, h1⟩
  · exact .inl ⟨h0, fun k hk => ⟨(h1 k hk).1, (hc k).trans (h1 k hk).2⟩⟩
  · exact .inr ⟨h0, h2, fun k hk => by rw [hc, hs]; exact h1 k hk⟩
theorem Rn.full {S : Nat → Prop} {w0 w : World} {sb mb g cap bs N Nd : Nat} {bk : Nat → Nat} {P : Nat → Int} {M : MS} {D : Dm} (h : Rn S w0 sb mb g cap bk P bs N Nd M D w) (hw : ∀ k, k < 8 → 32 ≤ (M.f k).x.wait) : Full M :=
  ⟨fun k hk => by rw [h.sz]; exact hw k hk, by rw [h.sz]; decide, h.pr⟩
theorem part8 (P : Nat → Int) (w : World) : ∀ j, j < 8 → (part 3 (arr8 P) (j * Try.prog.cellsOf 3)).run Try.prog w = .ok (.int .i64 (P j)) w := by
  have h0 : (part 3 (arr8 P) (0 * Try.prog.cellsOf 3)).run Try.prog w = .ok (.int .i64 (P 0)) w := by kernel_rfl
  have h1 : (part 3 (arr8 P) (1 * Try.prog.cellsOf 3)).run Try.prog w = .ok (.int .i64 (P 1)) w := by kernel_rfl
  have h2 : (part 3 (arr8 P) (2 * Try.prog.cellsOf 3)).run Try.prog w = .ok (.int .i64 (P 2)) w := by kernel_rfl
  have h3 : (part 3 (arr8 P) (3 * Try.prog.cellsOf 3)).run Try.prog w = .ok (.int .i64 (P 3)) w := by kernel_rfl
  have h4 : (part 3 (arr8 P) (4 * Try.prog.cellsOf 3)).run Try.prog w = .ok (.int .i64 (P 4)) w := by kernel_rfl
  have h5 : (part 3 (arr8 P) (5 * Try.prog.cellsOf 3)).run Try.prog w = .ok (.int .i64 (P 5)) w := by kernel_rfl
  have h6 : (part 3 (arr8 P) (6 * Try.prog.cellsOf 3)).run Try.prog w = .ok (.int .i64 (P 6)) w := by kernel_rfl
  have h7 : (part 3 (arr8 P) (7 * Try.prog.cellsOf 3)).run Try.prog w = .ok (.int .i64 (P 7)) w := by kernel_rfl
  intro j h
  match j, h with
  | 0, _ => exact h0
  | 1, _ => exact h1
  | 2, _ => exact h2
  | 3, _ => exact h3
  | 4, _ => exact h4
  | 5, _ => exact h5
  | 6, _ => exact h6
  | 7, _ => exact h7
theorem neq8 (P : Nat → Int) (w : World) : (binOp .neq 38 (.agg (arr8 P)) (.agg (arr8 P))).run Try.prog w = .ok (.bool false) w := by
  have hi : ∃ i, Try.prog.info? 3 = some i := by
    obtain ⟨i, h, -⟩ := Tmf.info3
    exact ⟨i, h⟩
  obtain ⟨i, hi⟩ := hi
  rw [run_neq_struct, run_equalIn_array (n := 8) (e := 3) w 9999 (arr8 P) (arr8 P) (by kernel_rfl) hi]
  have h : ∀ l : List Nat, (∀ j ∈ l, j < 8) → (Op.eqItems 9999 3 (Try.prog.cellsOf 3) (arr8 P) (arr8 P) l).run Try.prog w = .ok true w := by
    intro l
    induction l with
    | nil => intro _; rfl
    | cons j l ih =>
      intro h
      have hj := part8 P w j (h j (List.mem_cons_self ..))
      have hint : Try.prog.underlying 3 = some (.int .i64) := by kernel_rfl
      simp only [Op.eqItems, Sem.run_bind, hj, Result.andThen_ok, run_equalIn_int w 9998 3 .i64 .i64 _ _ hint]
      simp
      exact ih fun a ha => h a (List.mem_cons_of_mem _ ha)
  rw [h _ (fun j hj => List.mem_range.1 hj)]
  rfl
theorem guard8 (P : Nat → Int) (x y : Operand) (w : World) : (eqGuard .neq 38 x y (.agg (arr8 P)) (.agg (arr8 P))).run Try.prog w = .ok () w :=
  run_eqGuard_agg w .neq 38 x y _ _ (by kernel_rfl)
/-- What belongs to the mux may be more. -/
theorem Rn.wide {S S2 : Nat → Prop} {w0 w : World} {sb mb g cap bs N Nd : Nat} {bk : Nat → Nat} {P : Nat → Int} {M : MS} {D : Dm} (h : Rn S2 w0 sb mb g cap bk P bs N Nd M D w) (hSS : ∀ k, S2 k → S k) (hS : ∀ k, w.heap.size ≤ k → S k) (n1 : ¬ S sb) (n2 : ¬ S bs) (n3 : ∀ k, k < w0.heap.size → ¬ S k) : Rn S w0 sb mb g cap bk P bs N Nd M D w :=
  ⟨⟨h.dx.mc.keep (fun _ _ _ => rfl) hS fun k _ hk => hSS k hk, h.dx.dm, n1, n3, h.dx.l0, h.dx.fr⟩, h.ok, h.od, h.cr, h.sz, h.pr, h.sh, h.dc, h.ds, h.b, n2, h.nb⟩
theorem arr8_bump (m : Nat → Nat) {k : Nat} (h : k < 8) : (arr8 fun j => ((m j : Nat) : Int)).setIfInBounds k (.int .i64 (((m k : Nat) : Int) + 1)) = arr8 fun j => (((if j = k then m j + 1 else m j : Nat)) : Int) := by
  match k, h with
  | 0, _ | 1, _ | 2, _ | 3, _ | 4, _ | 5, _ | 6, _ | 7, _ => rfl
theorem arr8_congr {P Q : Nat → Int} (h : ∀ k, k < 8 → P k = Q k) : arr8 P = arr8 Q := by
  unfold arr8
  rw [h 0 (by decide), h 1 (by decide), h 2 (by decide), h 3 (by decide), h 4 (by decide), h 5 (by decide), h 6 (by decide), h 7 (by decide)]
set_option maxHeartbeats 6400000 in
theorem shares_walk (P : Nat → Int) (r : Int) (w0 : World) : Calls Try.prog 5 #[.agg (arr8 P), .int .i64 r] w0 fun e w' => e = .returned (.bool true) ∧ Below w0.heap.size w0 w' := by
  have hb0 := (Below.refl _ w0).alloc (Nat.le_refl _) (.cells (arr8 P) 38)
  have hx0 := heap_alloc_new w0 (.cells (arr8 P) 38)
  obtain ⟨W0, hW0⟩ : ∃ W, w0.alloc (.cells (arr8 P) 38) = W := ⟨_, rfl⟩
  rw [hW0] at hb0 hx0
  have hs := shown_calls W0
  go_enter Try.func5, Try.ntmps5
  go_wp2_with (go_at_call 8; refine hs.mono ?_; clear hs; rintro e W1 ⟨rfl, b1⟩)
  have hE := Es.start hx0 hb0 b1
  clear hx0 hb0 b1
  go_loopw [5, 8] (fun sv iv wr => ∃ j : Nat, sv = .int .i64 (sumQ P j) ∧ iv = .int .i64 (j : Nat) ∧ j ≤ 8 ∧ Es w0 w0.heap.size W1.heap.size P j wr) (fun _ iv _ => 8 - iOf iv)
  case atStart => exact ⟨0, rfl, rfl, Nat.zero_le _, hE⟩
  case round =>
    clear hE
    obtain ⟨j, rfl, rfl, hj, hE⟩ := hrel
    rcases Nat.lt_or_ge j 8 with hlt | hge
    · have hlt' : ((j : Nat) : Int) < 8 := by omega
      have hmeas : 8 - (j + 1) < 8 - j := by omega
      have c1 : wr.cell? ⟨w0.heap.size, j, none⟩ = some (.int .i64 (P j)) := (cell_of hE.x).trans (arr8_at P hlt)
      have cP := pick_calls (P j) 6 (by decide) (by decide) wr
      have hq := drawQ_le P j
      have hsq := sumQ_le P j
      obtain ⟨dq, hdq⟩ : ∃ d, drawQ P j = d := ⟨_, rfl⟩
      have hpk : P j % 6 = dq - 1 := by rw [← hdq]; unfold drawQ; omega
      rw [hpk] at cP
      go_wp2_with (go_at_call 17; refine cP.mono ?_; clear cP; rintro e W2 ⟨rfl, b2⟩; have hE2 := hE.below b2; have c2 : W2.cell? ⟨W1.heap.size + 1, j, none⟩ = some (.int .i64 (partQ P j j)) := (cell_of hE2.s).trans (arr8_at _ hlt); have z2 := fz_of hE2.s)
      have e1 : 1 + (dq - 1) = drawQ P j := by rw [hdq]; omega
      refine ⟨⟨j + 1, ?_, by push_cast; rfl, hlt, ?_⟩, hmeas⟩
      · rw [e1]; rfl
      · rw [e1]; exact hE2.put hlt
    · obtain rfl : j = 8 := by omega
      clear hge hj
      have z0 : wr.cell? ⟨W1.heap.size, 0, none⟩ = some (.int .i64 0) := cell_of hE.z
      have z1 : wr.cell? ⟨W1.heap.size, 1, none⟩ = some (.int .i64 0) := cell_of hE.z
      have z2 : wr.cell? ⟨W1.heap.size, 2, none⟩ = some (.int .i64 0) := cell_of hE.z
      have z3 : wr.cell? ⟨W1.heap.size, 3, none⟩ = some (.int .i64 0) := cell_of hE.z
      have z4 : wr.cell? ⟨W1.heap.size, 4, none⟩ = some (.int .i64 0) := cell_of hE.z
      have z5 : wr.cell? ⟨W1.heap.size, 5, none⟩ = some (.int .i64 0) := cell_of hE.z
      have z6 : wr.cell? ⟨W1.heap.size, 6, none⟩ = some (.int .i64 0) := cell_of hE.z
      have z7 : wr.cell? ⟨W1.heap.size, 7, none⟩ = some (.int .i64 0) := cell_of hE.z
      have s0 : wr.cell? ⟨W1.heap.size + 1, 0, none⟩ = some (.int .i64 (drawQ P 0)) := cell_of hE.s
      have s1 : wr.cell? ⟨W1.heap.size + 1, 1, none⟩ = some (.int .i64 (drawQ P 1)) := cell_of hE.s
      have s2 : wr.cell? ⟨W1.heap.size + 1, 2, none⟩ = some (.int .i64 (drawQ P 2)) := cell_of hE.s
      have s3 : wr.cell? ⟨W1.heap.size + 1, 3, none⟩ = some (.int .i64 (drawQ P 3)) := cell_of hE.s
      have s4 : wr.cell? ⟨W1.heap.size + 1, 4, none⟩ = some (.int .i64 (drawQ P 4)) := cell_of hE.s
      have s5 : wr.cell? ⟨W1.heap.size + 1, 5, none⟩ = some (.int .i64 (drawQ P 5)) := cell_of hE.s
      have s6 : wr.cell? ⟨W1.heap.size + 1, 6, none⟩ = some (.int .i64 (drawQ P 6)) := cell_of hE.s
      have s7 : wr.cell? ⟨W1.heap.size + 1, 7, none⟩ = some (.int .i64 (drawQ P 7)) := cell_of hE.s
      have hE0 := Lib.hid hE
      clear hE
      have cM := shr_new P wr
      go_wp2_with (go_at_call 15; refine cM.mono ?_; clear cM; rintro e W2 ⟨mb, g, cap, bk, rfl, hm, b2⟩)
      refine (shr_dem W2).mono ?_
      rintro e W3 ⟨rfl, hd, b3⟩
      have hX := Dx.make hm b2 hE0.out.fr.size hE0.out.fr hd b3
      have hE3 := (hE0.out.below b2).below b3
      obtain ⟨S, hS⟩ : ∃ S : Nat → Prop, ShS (fun k => wr.heap.size ≤ k) W2.heap.size W3.heap.size = S := ⟨_, rfl⟩
      have hbl := (Array.getElem?_eq_some_iff.1 hE0.out.s).1
      have hs2 := b2.size
      have hnS : ¬ ShS (fun k => wr.heap.size ≤ k) W2.heap.size W3.heap.size (W1.heap.size + 1) := by
        have := b3.size
        rintro (⟨a, -⟩ | a) <;> omega
      have hR := Rn.start (P := P) hX hE3.s hnS (by omega)
      rw [hS] at hR
      clear hX hE3 hnS hS hm hd b2 b3 hs2 hbl z0 z1 z2 z3 z4 z5 z6 z7 s0 s1 s2 s3 s4 s5 s6 s7
      go_wp2_with fail
      go_loopw [13] (fun iv wr => ∃ (rn N Nd : Nat) (M : MS) (D : Dm), iv = .int .i64 (rn : Nat) ∧ rn ≤ 4 ∧ N ≤ rn * 1000 ∧ Nd ≤ rn * 48 ∧ (∀ k, k < 8 → (M.f k).cr = 0) ∧ Rn S w0 W2.heap.size mb g cap bk P (W1.heap.size + 1) N Nd M D wr) (fun iv _ => 5 - iOf iv)
      case atStart => exact ⟨0, 0, 0, _, _, rfl, Nat.zero_le _, Nat.zero_le _, Nat.zero_le _, fun _ _ => rfl, hR⟩
      case round =>
        clear hR
        obtain ⟨rn, N, Nd, M, D, rfl, hrn, hN, hNd, hz, hR⟩ := hrel
        have cK := pick_calls r 4 (by decide) (by decide) wr
        obtain ⟨R4, hR4⟩ : ∃ R : Nat, r % 4 = (R : Int) := ⟨(r % 4).toNat, by omega⟩
        have hR43 : R4 ≤ 3 := by omega
        rw [hR4] at cK
        rcases Nat.lt_or_ge R4 rn with hgt | hle
        · have hc : ¬ ((rn : Nat) : Int) ≤ ((R4 : Nat) : Int) := by omega
          go_wp2_with (go_at_call 17; refine cK.mono ?_; clear cK; rintro e V1 ⟨rfl, c1⟩)
          go_ret
          exact ⟨rfl, hR.dx.fr.trans (c1.mono hR.dx.fr.size)⟩
        · have hc : ((rn : Nat) : Int) ≤ ((R4 : Nat) : Int) := by omega
          go_wp2_with (go_at_call 17; refine cK.mono ?_; clear cK; rintro e V1 ⟨rfl, c1⟩)
          have hRv := hR.below c1
          obtain ⟨hF, hFs, hFb, hFx⟩ := hRv.fresh (.cells #[.int .i64 0, .int .i64 0, .int .i64 0, .int .i64 0, .int .i64 0, .int .i64 0, .int .i64 0, .int .i64 0] 38)
          have kM : (V1.alloc (.cells #[.int .i64 0, .int .i64 0, .int .i64 0, .int .i64 0, .int .i64 0, .int .i64 0, .int .i64 0, .int .i64 0] 38)).heap[V1.heap.size]? = some (.cells (arr8 fun _ => ((0 : Nat) : Int)) 38 (0, 0)) := heap_alloc_new V1 _
          obtain ⟨S2, hS2⟩ : ∃ S' : Nat → Prop, ShS S V1.heap.size (V1.heap.size + 1) = S' := ⟨_, rfl⟩
          have hV1 : w0.heap.size ≤ V1.heap.size := hRv.dx.fr.size
          have HS := Lib.hid (And.intro hRv.dx.mc.hS (And.intro hRv.dx.ns (And.intro hRv.nS (And.intro hRv.dx.n0 hS2))))
          rw [hS2] at hF hFs
          clear hR hRv c1 hS2
          go_loopw [15] (fun iv wq => ∃ (i N2 Nd2 : Nat) (M2 : MS) (D2 : Dm) (many : Nat → Nat), iv = .int .i64 (i : Nat) ∧ ((i : Nat) : Int) ≤ sumQ P 8 ∧ N2 ≤ N + i * 9 ∧ Nd2 ≤ Nd + i ∧ RunI M2 many i ∧ Rn S2 w0 W2.heap.size mb g cap bk P (W1.heap.size + 1) N2 Nd2 M2 D2 wq ∧ wq.heap[V1.heap.size]? = some (.cells (arr8 fun k => ((many k : Nat) : Int)) 38 (0, 0))) (fun iv _ => (sumQ P 8).toNat - iOf iv)
          case atStart => exact ⟨0, N, Nd, M, D, fun _ => 0, rfl, (sumQ_le P 8).1, by omega, by omega, .inl ⟨rfl, fun k hk => ⟨rfl, hz k hk⟩⟩, hF, kM⟩
          case round =>
            clear hF kM
            obtain ⟨i, N2, Nd2, M2, D2, many, rfl, hi, hN2, hNd2, hrun, hF, kM⟩ := hrel
            have hsum := sum_sh hF
            rcases Int.lt_or_le ((i : Nat) : Int) (sumQ P 8) with hlt | hge
            · have hi48 : i < 48 := by have := (sumQ_le P 8).2; omega
              go_wp2_with fail
              go_loopw [16] (fun cv wq => ∃ (c N3 : Nat) (M3 : MS), cv = .int .i64 (c : Nat) ∧ c ≤ 8 ∧ N3 ≤ N2 + c ∧ RunI M3 many i ∧ (∀ k, k < c → 32 ≤ (M3.f k).x.wait) ∧ Rn S2 w0 W2.heap.size mb g cap bk P (W1.heap.size + 1) N3 Nd2 M3 D2 wq ∧ wq.heap[V1.heap.size]? = some (.cells (arr8 fun k => ((many k : Nat) : Int)) 38 (0, 0))) (fun cv _ => 8 - iOf cv)
              case atStart => exact ⟨0, N2, M2, rfl, by omega, by omega, hrun, fun k hk => absurd hk (Nat.not_lt_zero k), hF, kM⟩
              case round =>
                clear hF kM hrun hsum
                obtain ⟨c, N3, M3, rfl, hc, hN3, hrun, hwt, hF, kM⟩ := hrel
                rcases Nat.lt_or_ge c 8 with hc8 | hc8
                · have hcI : ((c : Nat) : Int) < 8 := by omega
                  have hmeas : 8 - (c + 1) < 8 - c := by omega
                  go_wp2_with fail
                  go_loopg [] 1 (fun q wq => ∃ (N4 : Nat) (M4 : MS), q ≤ 1 ∧ N4 + q ≤ N3 + 1 ∧ (q = 0 → 32 ≤ (M4.f c).x.wait) ∧ RunI M4 many i ∧ (∀ k, k < c → 32 ≤ (M4.f k).x.wait) ∧ Rn S2 w0 W2.heap.size mb g cap bk P (W1.heap.size + 1) N4 Nd2 M4 D2 wq ∧ wq.heap[V1.heap.size]? = some (.cells (arr8 fun k => ((many k : Nat) : Int)) 38 (0, 0)))
                  case atStart => exact ⟨N3, M3, by omega, by omega, by omega, hrun, hwt, hF, kM⟩
                  case round =>
                    clear hF kM hrun hwt
                    obtain ⟨N4, M4, hq, hN4, hq0, hrun, hwt, hF, kM⟩ := hrel
                    have cW := hF.dx.waitF hF.ok.ok (k := c) hc8
                    rcases Nat.lt_or_ge (M4.f c).x.wait 32 with hlw | hgw
                    · obtain ⟨wt, hwt0⟩ : ∃ wt, (M4.f c).x.wait = wt := ⟨_, rfl⟩
                      have hlwI : ((wt : Nat) : Int) < 32 := by omega
                      have hq1 : gk = 1 := by omega
                      subst hq1
                      rw [hwt0] at cW
                      have hlw0 := Lib.hid (And.intro hlw hwt0)
                      have hid := Lib.hid (hF.ok.ok.x c hc8).idle
                      clear hlw hwt0
                      go_wp2_with (first | (go_at_call 18; refine cW.mono ?_; clear cW; rintro e U1 ⟨rfl, u1⟩; have cMd := madeN_calls (n := 100) (k := i) (by decide) (by decide) (by omega) U1; have hF1 := hF.below u1; have kM1 := (u1.block _ (Array.getElem?_eq_some_iff.1 kM).1).trans kM; clear hF kM) | (go_at_call 20; refine cMd.mono ?_; clear cMd; rintro e U2 ⟨rfl, u2⟩; have cA := (hF1.below u2).add (by omega) hc8 (madeN 100 i) (by rw [madeN_size (by decide)]; decide); rw [add100 hi48 hlw0.out.1] at cA; have kM2 := (u2.block _ (Array.getElem?_eq_some_iff.1 kM1).1).trans kM1; clear hF1 kM1) | (go_at_call 19; refine cA.mono ?_; clear cA; rintro e U3 ⟨rfl, hF3, hk3⟩))
                      go_roundg 0
                      case measure => decide
                      case rel =>
                        have hl := hlw0.out.1
                        have ha := addM_wait (c := c) hi48 hl
                        refine ⟨N4 + 1, addM M4 c (madeN 100 i), by omega, by omega, fun _ => ?_, hrun.same (fun k => (ha k).2.2.1) (fun k => (ha k).2.2.2), fun k hk => ?_, hF3, (hk3 _ (Array.getElem?_eq_some_iff.1 kM2).1 hFs hFb).trans kM2⟩
                        · exact (ha c).2.1 rfl hid.out
                        · rw [(ha k).1 (by omega)]; exact hwt k hk
                    · have hgwI : ¬ (((M4.f c).x.wait : Nat) : Int) < 32 := by omega
                      go_wp2_with (go_at_call 18; refine cW.mono ?_; clear cW; rintro e U1 ⟨rfl, u1⟩)
                      refine ⟨⟨c + 1, N4, M4, by push_cast; rfl, hc8, by omega, hrun, fun k hk => ?_, hF.below u1, (u1.block _ (Array.getElem?_eq_some_iff.1 kM).1).trans kM⟩, hmeas⟩
                      rcases Nat.lt_or_ge k c with h1 | h1
                      · exact hwt k h1
                      · obtain rfl : k = c := by omega
                        exact hgw
                · obtain rfl : c = 8 := by omega
                  have hFull := hF.full hwt
                  have hw : waitJ M3 8 ≠ [] := by rw [hFull.wait8]; decide
                  have hsum3 := sum_sh hF
                  have hstep := hrun.step hF.ok.ok hFull (by omega)
                  have hk8 : chosen M3 < 8 := bests_lt (topS_mem (bests_ne hw))
                  obtain ⟨g1, g2, g3, g4, g5⟩ := feed_frame (D := D2) hF.ok.ok hw hk8 (wd := 0) (by decide) (hF.dc.trans hF.cr.symm) (hF.ds.trans hF.sz.symm)
                  have cN := hF.next (by omega) hw
                  obtain ⟨k, hk⟩ : ∃ k, chosen M3 = k := ⟨_, rfl⟩
                  obtain ⟨fr, hfr⟩ : ∃ f, frameK M3 (chosen M3) 0 = f := ⟨_, rfl⟩
                  rw [hfr] at cN g1 g2 g3 g4 g5
                  rw [hk] at cN hstep hk8 g2
                  have hNd400 : Nd2 ≤ 400 := by omega
                  have hmk48 : many k ≤ 48 := by
                    rcases hrun with ⟨-, h0⟩ | ⟨-, h1, -⟩
                    · rw [(h0 k hk8).1]; omega
                    · have := sum8_le (g := many) hk8
                      omega
                  have hmeas : (sumQ P 8).toNat - (i + 1) < (sumQ P 8).toNat - i := by omega
                  have q0 : ¬ ((k : Nat) : Int) < 0 := by omega
                  have q7 : ¬ (7 : Int) < ((k : Nat) : Int) := by omega
                  have q8 : ((k : Nat) : Int) < 8 := by omega
                  have HST := Lib.hid (And.intro hstep (And.intro hN3 (And.intro hN2 (And.intro hNd2 (And.intro hlt hi48)))))
                  have HFD := Lib.hid (And.intro g1 (And.intro g2 (And.intro g3 (And.intro g4 g5))))
                  clear hstep hk hfr hw hFull hrun hwt hsum3 hF hN3 hN2 hNd2 g1 g2 g3 g4 g5
                  have hbump := arr8_bump many hk8
                  obtain ⟨mk, hmk⟩ : ∃ m, many k = m := ⟨_, rfl⟩
                  rw [hmk] at hmk48 hbump
                  have hHB := Lib.hid hbump
                  clear hbump
                  go_wp2_with (first | (go_at_call 21; refine cN.mono ?_; clear cN; rintro e U1 ⟨rfl, hF1, hk1⟩; have kM1 := (hk1 _ (Array.getElem?_eq_some_iff.1 kM).1 hFs hFb).trans kM; have cF := hF1.feed hNd400 HFD.out.2.2.2.2 HFD.out.1 HFD.out.2.1 HFD.out.2.2.1 HFD.out.2.2.2.1; clear kM hF1 hk1) | (go_at_call 11; refine cF.mono ?_; clear cF; rintro e U2 ⟨⟨db, lo, mi, oo, no, oc, br, wd, rfl⟩, hF2, hk2⟩; have kM2 := (hk2 _ (Array.getElem?_eq_some_iff.1 kM1).1 hFs hFb).trans kM1; have hA := (Below.refl U2.heap.size U2).alloc (Nat.le_refl _) (.cells #[.int .i64 ((k : Nat) : Int), .bool db, .int .i64 lo, .int .i64 mi, .slice oo no oc, .int .i64 br, .int .u32 wd] 33); have kM3 := (hA.block _ (Array.getElem?_eq_some_iff.1 kM2).1).trans kM2; have c3 : (U2.alloc (.cells #[.int .i64 ((k : Nat) : Int), .bool db, .int .i64 lo, .int .i64 mi, .slice oo no oc, .int .i64 br, .int .u32 wd] 33)).cell? ⟨V1.heap.size, k, none⟩ = some (.int .i64 ((mk : Nat) : Int)) := ((cell_of kM3).trans (arr8_at _ hk8)).trans (by rw [hmk]); have f3 := fz_of kM3 k; have HF2 := Lib.hid (And.intro (hF2.below hA) kM3); clear hF2 kM2 kM3 kM1 hk2 hA))
                  obtain ⟨h1, h2, h3, h4, h5, -⟩ := HST.out
                  have hz := (HF2.out.1.only ((OnlyB.refl V1.heap.size _).setCell k (.int .i64 (((mk : Nat) : Int) + 1))) hFs hFb hFx hV1 (Array.getElem?_eq_some_iff.1 HF2.out.2).1)
                  have hkz := set_at (o := k) (v := .int .i64 (((mk : Nat) : Int) + 1)) HF2.out.2
                  rw [hHB.out] at hkz
                  exact ⟨⟨i + 1, N3 + 1, Nd2 + 1, _, _, _, by push_cast; rfl, by push_cast; omega, by omega, by omega, h1, hz, hkz⟩, hmeas⟩
            · have hie : i = sum8 fun k => (M2.f k).sh := by have := sum_sh hF; omega
              have hsp : 0 < sum8 fun k => (M2.f k).sh := Nat.lt_of_lt_of_le (hF.ok.ok.sh 0 (by decide)).1 (sum8_le (g := fun k => (M2.f k).sh) (by decide))
              have hdone := RunI.done (by rw [← hie]; exact hrun) hsp
              have hi48 : i ≤ 48 := by have := (sumQ_le P 8).2; omega
              have hge' : ¬ ((i : Nat) : Int) < sumQ P 8 := by omega
              have harr : (arr8 fun k => ((many k : Nat) : Int)) = arr8 (drawQ P) := arr8_congr fun k hk => by
                rw [(hdone k hk).1, hF.sh k hk]
                have := (drawQ_le P k).1
                show (((drawQ P k).toNat : Nat) : Int) = drawQ P k
                omega
              rw [harr] at kM
              have z0 : wr.cell? ⟨V1.heap.size, 0, none⟩ = some (.int .i64 (drawQ P 0)) := cell_of kM
              have z1 : wr.cell? ⟨V1.heap.size, 1, none⟩ = some (.int .i64 (drawQ P 1)) := cell_of kM
              have z2 : wr.cell? ⟨V1.heap.size, 2, none⟩ = some (.int .i64 (drawQ P 2)) := cell_of kM
              have z3 : wr.cell? ⟨V1.heap.size, 3, none⟩ = some (.int .i64 (drawQ P 3)) := cell_of kM
              have z4 : wr.cell? ⟨V1.heap.size, 4, none⟩ = some (.int .i64 (drawQ P 4)) := cell_of kM
              have z5 : wr.cell? ⟨V1.heap.size, 5, none⟩ = some (.int .i64 (drawQ P 5)) := cell_of kM
              have z6 : wr.cell? ⟨V1.heap.size, 6, none⟩ = some (.int .i64 (drawQ P 6)) := cell_of kM
              have z7 : wr.cell? ⟨V1.heap.size, 7, none⟩ = some (.int .i64 (drawQ P 7)) := cell_of kM
              have s0 : wr.cell? ⟨W1.heap.size + 1, 0, none⟩ = some (.int .i64 (drawQ P 0)) := cell_of hF.b
              have s1 : wr.cell? ⟨W1.heap.size + 1, 1, none⟩ = some (.int .i64 (drawQ P 1)) := cell_of hF.b
              have s2 : wr.cell? ⟨W1.heap.size + 1, 2, none⟩ = some (.int .i64 (drawQ P 2)) := cell_of hF.b
              have s3 : wr.cell? ⟨W1.heap.size + 1, 3, none⟩ = some (.int .i64 (drawQ P 3)) := cell_of hF.b
              have s4 : wr.cell? ⟨W1.heap.size + 1, 4, none⟩ = some (.int .i64 (drawQ P 4)) := cell_of hF.b
              have s5 : wr.cell? ⟨W1.heap.size + 1, 5, none⟩ = some (.int .i64 (drawQ P 5)) := cell_of hF.b
              have s6 : wr.cell? ⟨W1.heap.size + 1, 6, none⟩ = some (.int .i64 (drawQ P 6)) := cell_of hF.b
              have s7 : wr.cell? ⟨W1.heap.size + 1, 7, none⟩ = some (.int .i64 (drawQ P 7)) := cell_of hF.b
              have hwsz := hF.dx.mc.hS
              have hFw : Rn S w0 W2.heap.size mb g cap bk P (W1.heap.size + 1) N2 Nd2 M2 D2 wr := by
                obtain ⟨a1, a2, a3, a4, a5⟩ := HS.out
                have hlt := (Array.getElem?_eq_some_iff.1 kM).1
                refine hF.wide (fun k hk => ?_) (fun k hk => a1 k (by omega)) a2 a3 a4
                rw [← a5] at hk
                rcases hk with h | h
                · exact h.1
                · exact a1 k (by omega)
              have hz2 : ∀ k, k < 8 → (M2.f k).cr = 0 := fun k hk => (hdone k hk).2
              have hmeas : 5 - (rn + 1) < 5 - rn := by omega
              have HFW := Lib.hid (And.intro hFw hz2)
              clear hFw hz2 hF kM hwsz harr hdone hrun hie hsp
              have hnq := neq8 (drawQ P)
              have hgq := fun x y w => guard8 (drawQ P) x y w
              unfold arr8 at hnq hgq
              go_wp2
              exact ⟨⟨rn + 1, N2, Nd2, M2, D2, by push_cast; rfl, by omega, by omega, by omega, HFW.out.2, HFW.out.1⟩, hmeas⟩
end Go.Am.Cha
