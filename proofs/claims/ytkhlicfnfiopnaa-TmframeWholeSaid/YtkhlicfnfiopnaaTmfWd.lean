/-
  Tmframe: what TmframeWhole calls. Own work.
-/
import Derived.Test.YtkhlicfnfiopnaaTmfWc
import Derived.Test.YtkhlicfnfiopnaaTmfAE
namespace Go.Am.Tmf
open Go Go.Am Go.Am.Lib Go.Lib Go.Proofs Go.RowKit
open Go.Am.Own
open Go.Am.Pkt (G0)
set_option maxRecDepth 100000

/-- An element of a list of strings in memory. -/
theorem row_at {w : World} {B : Nat} {ao : Option Addr} {n cap : Nat} {L : List L8} (h : w.ownsRow B 9 1 (.slice ao n cap) L.length (cellS L)) {i : Nat} (hi : i < n) (hl : L.length = n) :
    ∃ g, ao = some ⟨g, 0, none⟩ ∧ w.cell? ⟨g, i, none⟩ = some (.string (strB (L.getD i []))) := by
  obtain ⟨_, g, rfl⟩ := ownsRow_base h (by omega)
  refine ⟨g, rfl, ?_⟩
  have hc := h.cells (g := g) rfl i (.string (strB (L.getD i []))) (by
    unfold cellS
    rw [List.getElem?_map, List.getD_eq_getElem?_getD, List.getElem?_eq_getElem (by omega)]; rfl)
  have ha : ((⟨g, 0, none⟩ : Addr).add i) = ⟨g, i, none⟩ := by simp [Addr.add]; intro h; exact h.symm
  rw [ha] at hc
  exact hc
/-- An element of a list of numbers in memory. -/
theorem int_at {w : World} {B : Nat} {ao : Option Addr} {n cap : Nat} {L : List Nat} (h : w.ownsRow B 3 1 (.slice ao n cap) L.length (cellI L)) {i : Nat} (hi : i < n) (hl : L.length = n) :
    ∃ g, ao = some ⟨g, 0, none⟩ ∧ w.cell? ⟨g, i, none⟩ = some (intV (L.getD i 0)) := by
  obtain ⟨_, g, rfl⟩ := ownsRow_base h (by omega)
  refine ⟨g, rfl, ?_⟩
  have hc := h.cells (g := g) rfl i (intV (L.getD i 0)) (by
    unfold cellI
    rw [List.getElem?_map, List.getD_eq_getElem?_getD, List.getElem?_eq_getElem (by omega)]; rfl)
  have ha : ((⟨g, 0, none⟩ : Addr).add i) = ⟨g, i, none⟩ := by simp [Addr.add]; intro h; exact h.symm
  rw [ha] at hc
  exact hc
set_option maxHeartbeats 1600000 in
theorem same_calls {w : World} {va vb : Value} {L : List L8} (ha : w.ownsRow 0 9 1 va L.length (cellS L)) (hb : w.ownsRow 0 9 1 vb L.length (cellS L)) (hL : L.length < 2 ^ 40) :
    Calls Try.prog 22 #[va, vb] w fun e w' => e = .returned (.bool true) ∧ Below w.heap.size w w' := by
  obtain ⟨ao, ca, rfl⟩ := ownsRow_slice ha
  obtain ⟨bo, cb, rfl⟩ := ownsRow_slice hb
  obtain ⟨n, hn⟩ : ∃ n, L.length = n := ⟨_, rfl⟩
  rw [hn]
  have hnn : ((((n : Nat) : Int) != ((n : Nat) : Int))) = false := by simp
  go_enter Try.func22, Try.ntmps22
  go_wp2
  go_loopw [5] (fun iv wr => ∃ (i : Nat), iv = .int .i64 (i : Nat) ∧ i ≤ n ∧ Below w.heap.size w wr)
    (fun iv _ => n - iOf iv)
  case atStart => exact ⟨0, rfl, Nat.zero_le _, Below.refl _ _⟩
  case round =>
    obtain ⟨i, rfl, hi, hH⟩ := hrel
    rcases Nat.lt_or_ge i n with hlt | hge
    · have hlt' : ((i : Nat) : Int) < ((n : Nat) : Int) := by omega
      rw [hn] at ha hb
      obtain ⟨g1, rfl, k1⟩ := row_at (by rw [hn]; exact ha) hlt hn
      obtain ⟨g2, rfl, k2⟩ := row_at (by rw [hn]; exact hb) hlt hn
      have k1' := (World.cell?_of_block (hH.block g1 (World.block_lt_of_cell? w _ k1))).trans k1
      have k2' := (World.cell?_of_block (hH.block g2 (World.block_lt_of_cell? w _ k2))).trans k2
      clear ha hb
      obtain ⟨S, hS⟩ : ∃ S, strB (L.getD i []) = S := ⟨_, rfl⟩
      rw [hS] at k1 k2 k1' k2'
      go_wp2
      go_region
      go_wp2
      exact ⟨⟨i + 1, by push_cast; rfl, hlt, hH.trans ((Below.refl _ _).drew.mono hH.size)⟩, by show n - (i + 1) < n - i; omega⟩
    · have hge' : ¬ ((i : Nat) : Int) < ((n : Nat) : Int) := by omega
      go_wp2
      go_ret
      exact ⟨rfl, hH⟩
theorem take_calls (s : ByteArray) (w : World) : Calls Try.prog 21 #[.string s] w fun e w' => e = .returned (.tuple #[.agg #[.bool (Pkt.pC s), .int .i64 ((Pkt.pA s : Nat) : Int), .int .i64 ((Pkt.pF s : Nat) : Int), .int .i64 ((Pkt.pN s : Nat) : Int), .string (Pkt.pD s)], .int .i64 ((Pkt.pL s : Nat) : Int), .int .i64 (Pkt.takeE s)]) ∧ Below w.heap.size w w' :=
  flat_calls Pkt.okTake w (args := [.string s]) rfl (v := .tuple ⟨[.agg ⟨[.bool (Pkt.pC s), .int .i64 ((Pkt.pA s : Nat) : Int), .int .i64 ((Pkt.pF s : Nat) : Int), .int .i64 ((Pkt.pN s : Nat) : Int), .string (Pkt.pD s)]⟩, .int .i64 ((Pkt.pL s : Nat) : Int), .int .i64 (Pkt.takeE s)]⟩) rfl ⟨rfl, rfl⟩

/-! ### the four lists -/
theorem cellS_snoc (l : List L8) (p : ByteArray) : cellS l ++ [.string p] = cellS (l ++ [p.data.toList]) := by unfold cellS; rw [List.map_append]; rfl
variable {W0 : World} {b : Nat} {x : FS} {w w' : World} {va vb vc vd v' : Value} {la lc : List L8} {lb ld : List Nat} {ra rb rc rd : RowM}
theorem Wk.row0 (h : Wk W0 b x (R4 (9, va, cellS la) rb rc rd) w) : w.ownsRow W0.heap.size 9 1 va la.length (cellS la) := by
  have h := h.own 0 (by decide)
  have e : (R4 (9, va, cellS la) rb rc rd 0).2.2.length = la.length := cellS_len la
  rw [e] at h; exact h
theorem Wk.row1 (h : Wk W0 b x (R4 ra (3, vb, cellI lb) rc rd) w) : w.ownsRow W0.heap.size 3 1 vb lb.length (cellI lb) := by
  have h := h.own 1 (by decide)
  have e : (R4 ra (3, vb, cellI lb) rc rd 1).2.2.length = lb.length := cellI_len lb
  rw [e] at h; exact h
theorem Wk.row2 (h : Wk W0 b x (R4 ra rb (9, vc, cellS lc) rd) w) : w.ownsRow W0.heap.size 9 1 vc lc.length (cellS lc) := by
  have h := h.own 2 (by decide)
  have e : (R4 ra rb (9, vc, cellS lc) rd 2).2.2.length = lc.length := cellS_len lc
  rw [e] at h; exact h
theorem Wk.row3 (h : Wk W0 b x (R4 ra rb rc (3, vd, cellI ld)) w) : w.ownsRow W0.heap.size 3 1 vd ld.length (cellI ld) := by
  have h := h.own 3 (by decide)
  have e : (R4 ra rb rc (3, vd, cellI ld) 3).2.2.length = ld.length := cellI_len ld
  rw [e] at h; exact h
theorem Wk.push0 {p : ByteArray} (h : Wk W0 b x (R4 (9, va, cellS la) rb rc rd) w) (hr : w'.ownsRow W0.heap.size 9 1 v' (la.length + 1) (cellS la ++ [.string p])) (hg : w.grownBy w' va.ownBlock) (hw : v'.ownBlock = va.ownBlock ∨ v'.ownBlock = some w.heap.size) :
    Wk W0 b x (R4 (9, v', cellS (la ++ [p.data.toList])) rb rc rd) w' := by
  have e : (R4 (9, va, cellS la) rb rc rd 0).2.2.length = la.length := cellS_len la
  refine h.push (i := 0) (u := .string p) (v' := v') (e := 9) (by decide) (by rw [e]; exact hr) hg hw ?_ fun j hj hne => ?_
  · rw [← cellS_snoc]; rfl
  · match j, hj, hne with
    | 1, _, _ => rfl
    | 2, _, _ => rfl
    | 3, _, _ => rfl
theorem Wk.push1 {n : Nat} (h : Wk W0 b x (R4 ra (3, vb, cellI lb) rc rd) w) (hr : w'.ownsRow W0.heap.size 3 1 v' (lb.length + 1) (cellI lb ++ [.int .i64 ((n : Nat) : Int)])) (hg : w.grownBy w' vb.ownBlock) (hw : v'.ownBlock = vb.ownBlock ∨ v'.ownBlock = some w.heap.size) :
    Wk W0 b x (R4 ra (3, v', cellI (lb ++ [n])) rc rd) w' := by
  have e : (R4 ra (3, vb, cellI lb) rc rd 1).2.2.length = lb.length := cellI_len lb
  refine h.push (i := 1) (u := .int .i64 ((n : Nat) : Int)) (v' := v') (e := 3) (by decide) (by rw [e]; exact hr) hg hw ?_ fun j hj hne => ?_
  · rw [← cellI_snoc]; rfl
  · match j, hj, hne with
    | 0, _, _ => rfl
    | 2, _, _ => rfl
    | 3, _, _ => rfl
theorem Wk.push2 {p : ByteArray} (h : Wk W0 b x (R4 ra rb (9, vc, cellS lc) rd) w) (hr : w'.ownsRow W0.heap.size 9 1 v' (lc.length + 1) (cellS lc ++ [.string p])) (hg : w.grownBy w' vc.ownBlock) (hw : v'.ownBlock = vc.ownBlock ∨ v'.ownBlock = some w.heap.size) :
    Wk W0 b x (R4 ra rb (9, v', cellS (lc ++ [p.data.toList])) rd) w' := by
  have e : (R4 ra rb (9, vc, cellS lc) rd 2).2.2.length = lc.length := cellS_len lc
  refine h.push (i := 2) (u := .string p) (v' := v') (e := 9) (by decide) (by rw [e]; exact hr) hg hw ?_ fun j hj hne => ?_
  · rw [← cellS_snoc]; rfl
  · match j, hj, hne with
    | 0, _, _ => rfl
    | 1, _, _ => rfl
    | 3, _, _ => rfl
theorem Wk.push3 {n : Nat} (h : Wk W0 b x (R4 ra rb rc (3, vd, cellI ld)) w) (hr : w'.ownsRow W0.heap.size 3 1 v' (ld.length + 1) (cellI ld ++ [.int .i64 ((n : Nat) : Int)])) (hg : w.grownBy w' vd.ownBlock) (hw : v'.ownBlock = vd.ownBlock ∨ v'.ownBlock = some w.heap.size) :
    Wk W0 b x (R4 ra rb rc (3, v', cellI (ld ++ [n]))) w' := by
  have e : (R4 ra rb rc (3, vd, cellI ld) 3).2.2.length = ld.length := cellI_len ld
  refine h.push (i := 3) (u := .int .i64 ((n : Nat) : Int)) (v' := v') (e := 3) (by decide) (by rw [e]; exact hr) hg hw ?_ fun j hj hne => ?_
  · rw [← cellI_snoc]; rfl
  · match j, hj, hne with
    | 0, _, _ => rfl
    | 1, _, _ => rfl
    | 2, _, _ => rfl
    | 3, _, h3 => exact absurd rfl h3
theorem Wk.alloc {R : Nat → RowM} (h : Wk W0 b x R w) (o : Obj) : Wk W0 b x R (w.alloc o) := h.below ((Below.refl _ w).alloc (Nat.le_refl _) o)
theorem Wk.drew {R : Nat → RowM} (h : Wk W0 b x R w) : Wk W0 b x R w.drew := h.below ((Below.refl _ w).drew)
theorem Wk.lo {R : Nat → RowM} (h : Wk W0 b x R w) : W0.heap.size ≤ w.heap.size := h.fr.size

/-! ### the calls -/
theorem made_get {k : Nat} (h0 : 7 ≤ k) (h1 : k ≤ 306) : Pkt.getE (madeS k) = 0 ∧ Pkt.gA (madeS k) ≠ 2047 := by
  obtain ⟨e1, e2, e3⟩ := itm_take (p := madeL k) (.inl ⟨k, h0, h1, rfl⟩) (s := madeS k) (r := []) (by rw [List.append_nil]; rfl)
  rw [real_made h0 h1] at e3
  have e4 : Pkt.getE (madeS k) = 0 := by
    unfold Pkt.getE
    rw [if_pos ⟨e1, by rw [e2]; rfl⟩]
  refine ⟨e4, ?_⟩
  unfold Pkt.gA
  rw [if_pos e4]
  exact of_decide_eq_true e3.symm
variable {m i : Nat} {A : L8} {T want : List L8} {fs : List Nat} {R : Nat → RowM}
theorem wk_add (h : Wk W0 b x R w) (hs : Str m x A T want fs) (hT : T.length ≤ i) (hi : i ≤ 60) {k : Nat} (h0 : 7 ≤ k) (h1 : k ≤ 306) : Calls Try.prog 18 #[.pointer (some ⟨b, 0, none⟩), .string (madeS k)] w fun e w' => e = .returned (.int .i64 0) ∧ Wk W0 b (x.add (madeL k)) R w' :=
  h.call fun _ hS => add_ok hS (hs.ok hT (by omega)) (madeS k) (made_get h0 h1).1 (made_get h0 h1).2 (by
    have := hs.toStr0.len
    have := madeS_size h0
    unfold FS.wait
    omega)
theorem wk_wait (h : Wk W0 b x R w) {N : Nat} (ho : OkF x N) : Calls Try.prog 19 #[.pointer (some ⟨b, 0, none⟩)] w fun e w' => e = .returned (.int .i64 ((x.wait : Nat) : Int)) ∧ Wk W0 b x R w' :=
  h.call fun _ hS => (waits hS ho).mono fun _ _ ⟨h1, h2⟩ => ⟨h1, hS.below h2, fr_below hS h2⟩
theorem wk_next (h : Wk W0 b x R w) {N : Nat} (ho : OkF x N) (hw : x.wait ≠ 0) : Calls Try.prog 20 #[.pointer (some ⟨b, 0, none⟩)] w fun e w' => e = .returned (.tuple #[.string (strB (x.data idleL)), .int .i64 ((x.first idleL : Nat) : Int), .bool true]) ∧ Wk W0 b (x.next idleL) R w' :=
  h.call fun _ hS => next_some hS ho hw

/-! ### parts of a string; a block beside the rows -/
theorem cut_l {t u : ByteArray} {k : Nat} (hu : t.extract k t.size = u) (hk : k ≤ t.size) : ∀ wx : World, (Instr.slice 9 (.string t) (some (.int .i64 (k : Nat))) none none).run Try.prog wx = .ok (.string u) wx := by
  intro wx
  have := run_slice_string_l (P := Try.prog) wx 9 t Try.underlying9 .i64 (k : Nat) (by omega) (by omega)
  rw [Int.toNat_natCast, hu] at this
  exact this
theorem cut_lh {t u : ByteArray} {i j : Nat} (hu : t.extract i j = u) (h1 : i ≤ j) (h2 : j ≤ t.size) : ∀ wx : World, (Instr.slice 9 (.string t) (some (.int .i64 (i : Nat))) (some (.int .i64 (j : Nat))) none).run Try.prog wx = .ok (.string u) wx := by
  intro wx
  have := run_slice_string (P := Try.prog) wx 9 t .i64 .i64 (i : Nat) (j : Nat) Try.underlying9 (by omega) (by omega) (by omega)
  rw [Int.toNat_natCast, Int.toNat_natCast, hu] at this
  exact this
theorem ext_drop (A : L8) (k : Nat) : (strB A).extract k (strB A).size = strB (A.drop k) := Pkt.ba_ext (by
  rw [Pkt.ext_list]
  show (A.drop k).take (A.length - k) = A.drop k
  rw [List.take_of_length_le (by rw [List.length_drop]; exact Nat.le_refl _)])
theorem ext_part {A : L8} {k n : Nat} {p : L8} (h : (A.drop k).take n = p) : (strB A).extract k (k + n) = strB p := Pkt.ba_ext (by
  rw [Pkt.ext_list, Nat.add_sub_cancel_left]
  exact h)
/-- A new block stays as it is while a row grows. -/
theorem Wk.beside {R : Nat → RowM} {q : Nat} {o : Obj} (h : Wk W0 b x R w) {i : Nat} (hi : i < 4) (hq : w.heap.size ≤ q) {w1 w2 : World} (h1 : w1.heap[q]? = some o) (hg : w1.grownBy w2 (R i).2.1.ownBlock) : w2.heap[q]? = some o := by
  have hlt : q < w1.heap.size := by
    rcases Nat.lt_or_ge q w1.heap.size with h | h
    · exact h
    · rw [Array.getElem?_eq_none h] at h1; cases h1
  refine (hg.block q hlt fun e => ?_).trans h1
  have := ((h.own i hi).lt q e.symm).2
  omega
end Go.Am.Tmf
