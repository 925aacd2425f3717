/-
  Channels: both demuxes side by side; their law. Own work.
-/
import Derived.Test.YtlgpalokjckdcaaChaRf1
import Derived.Test.YtlgpalokjckdcaaChaRf2
import Derived.Test.YtlgpalokjckdcaaChaGL
namespace Go.Am.Cha
open Go Go.Am Go.Am.Lib Go.Lib Go.Proofs Go.RowKit
open Go.Am.Own
open Go.Am.Tmf (getTE gFr datT gWd by2N)
set_option maxRecDepth 100000

theorem nrm_kn (x : Sk) : (nrm x).kn = x.kn := by unfold nrm; split <;> rfl
theorem nrm_fr (x : Sk) : (nrm x).fr = x.fr := by unfold nrm; split <;> rfl
theorem nrm_ct (x : Sk) : (nrm x).ct = x.ct := by unfold nrm; split <;> rfl
theorem nrm_size (x : Sk) : (nrm x).pt.size ≤ x.pt.size := by
  unfold nrm
  split
  · exact Nat.le_refl _
  · exact Nat.zero_le _
theorem nrm_nrm (x : Sk) : nrm (nrm x) = nrm x := by
  cases h : x.bg with
  | true => rw [nrm_yes h, nrm_yes h]
  | false => rw [nrm_no h]; exact nrm_no h
theorem nrmD_nrmD (D : Dm) : nrmD (nrmD D) = nrmD D := by
  unfold nrmD
  congr 1
  funext k
  exact nrm_nrm _
theorem nrmD_zero (c z : Nat) : nrmD (dm0 c z) = dm0 c z := by
  unfold nrmD dm0
  congr 1
theorem cutM_nrm (y : Sk) (lo : Nat) : (cutM (nrm y) lo).1 = nrm (cutM y lo).1 ∧ (cutM (nrm y) lo).2 = (cutM y lo).2 := by
  unfold cutM
  rw [nrm_bg]
  by_cases h : lo ≠ 0 ∧ y.bg = true
  · rw [if_pos h, if_pos h, nrm_yes h.2]
    exact ⟨(nrm_no (s := ⟨y.kn, y.fr, y.ct, false, ⟨#[]⟩⟩) rfl).symm, rfl⟩
  · rw [if_neg h, if_neg h]
    exact ⟨rfl, rfl⟩
theorem nowS_nrm (D : Dm) (s : ByteArray) : (nowS (nrmD D) s).1 = nrm (nowS D s).1 ∧ (nowS (nrmD D) s).2 = (nowS D s).2 := by
  have hl : lostN (nrmD D) s = lostN D s := by
    unfold lostN
    show (if (nrm (D.sk (fK s))).kn = true then behindN (fN s) (nrm (D.sk (fK s))).ct else 0) = _
    rw [nrm_kn, nrm_ct]
  have hy : (⟨true, s, fN s, (nrm (D.sk (fK s))).bg, (nrm (D.sk (fK s))).pt⟩ : Sk) = nrm ⟨true, s, fN s, (D.sk (fK s)).bg, (D.sk (fK s)).pt⟩ := by
    generalize D.sk (fK s) = X
    cases h : X.bg with
    | true =>
      rw [nrm_yes h, h]
      exact (nrm_yes (s := ⟨true, s, fN s, true, X.pt⟩) rfl).symm
    | false =>
      rw [nrm_no h]
      show (⟨true, s, fN s, X.bg, ⟨#[]⟩⟩ : Sk) = _
      rw [h]
      exact (nrm_no (s := ⟨true, s, fN s, false, X.pt⟩) rfl).symm
  unfold nowS
  rw [hl]
  show (cutM ⟨true, s, fN s, (nrm (D.sk (fK s))).bg, (nrm (D.sk (fK s))).pt⟩ _).1 = _ ∧ (cutM ⟨true, s, fN s, (nrm (D.sk (fK s))).bg, (nrm (D.sk (fK s))).pt⟩ _).2 = _
  rw [hy]
  exact cutM_nrm _ _
theorem fieldS_nrm (D : Dm) (s : ByteArray) : nrm (fieldS (nrmD D) s).1 = nrm (fieldS D s).1 ∧ (fieldS (nrmD D) s).2 = (fieldS D s).2 := by
  have h := nowS_nrm D s
  unfold fieldS
  split
  · exact ⟨by show nrm (nowS (nrmD D) s).1 = nrm (nowS D s).1; rw [h.1, nrm_nrm], by show ((nowS (nrmD D) s).2, ([] : List L8)) = _; rw [h.2]⟩
  · rw [h.1, h.2]
    exact takeM_nrm _ _ _ _ _
theorem OkD.nrm {N : Nat} {D : Dm} (h : OkD N D) : OkD N (nrmD D) := ⟨h.1, h.2.1, h.2.2.1, h.2.2.2.1, fun k hk => ⟨by show (Cha.nrm (D.sk k)).ct ≤ 255; rw [nrm_ct]; exact (h.2.2.2.2 k hk).1, Nat.le_trans (nrm_size _) (h.2.2.2.2 k hk).2⟩⟩
theorem feedE_nrm (D : Dm) (s : ByteArray) : feedE (nrmD D) s = feedE D s := rfl
variable {sb N : Nat} {w : World} {D : Dm}
theorem rfeed_at (hN : N ≤ 400) (hk : w.heap[sb]? = some (.cells (dmC (nrmD D)) 83 (0, 0))) (ok : OkD N D) (s : ByteArray) (hs : s.size ≤ 2 ^ 40) :
    Calls Try.prog 12 #[.pointer (some ⟨sb, 0, none⟩), .string s] w (R.Fed sb w (nrmD (feedG D s).1) (feedG D s).2 (feedE D s)) := by
  have okn := ok.nrm
  by_cases he : getTE s = 0
  · by_cases hx : fC s = D.craft ∧ (datT s).size = D.size
    · have hE : feedE D s = 0 := by unfold feedE; rw [if_neg (by rw [he]; decide), if_neg (by omega)]
      by_cases hd : dupB D s = true
      · have hG : feedG D s = (D, { arr0 with ch := fK s, wd := gWd s, db := true }) := by unfold feedG; rw [if_neg (by rw [hE]; decide), if_pos hd]
        rw [hE, hG]
        have h2 := (dupB_iff D s).1 hd
        exact R.dfeed_dup hk ⟨okn.2.1, okn.2.2.1⟩ s hs he hx ⟨by show (nrm (D.sk (fK s))).kn = true; rw [nrm_kn]; exact h2.1, by show (nrm (D.sk (fK s))).fr = s; rw [nrm_fr]; exact h2.2⟩
      · have hG : feedG D s = (({ D with kn := true, ms := fM s } : Dm).put (fK s) (fieldS D s).1, ⟨fK s, false, lostN D s, missN D s, (fieldS D s).2.2, (fieldS D s).2.1, gWd s⟩) := by unfold feedG; rw [if_neg (by rw [hE]; decide), if_neg hd]
        rw [hE, hG]
        have hd2 : ¬ dupS D s := fun h => hd ((dupB_iff D s).2 h)
        have hl : lostN (nrmD D) s = lostN D s := by
          unfold lostN
          show (if (nrm (D.sk (fK s))).kn = true then behindN (fN s) (nrm (D.sk (fK s))).ct else 0) = _
          rw [nrm_kn, nrm_ct]
        have hf := fieldS_nrm D s
        have hm : missN (nrmD D) s = missN D s := rfl
        have hput : (({ nrmD D with kn := true, ms := fM s } : Dm).put (fK s) (nrm (fieldS (nrmD D) s).1)) = nrmD (({ D with kn := true, ms := fM s } : Dm).put (fK s) (fieldS D s).1) := by
          rw [nrmD_put, hf.1]; rfl
        cases hkn : (D.sk (fK s)).kn with
        | false =>
          have h := R.dfeed_first hN hk okn (nrmD_nrmD D) s hs he hx (by show (nrm (D.sk (fK s))).kn = false; rw [nrm_kn]; exact hkn)
          rw [hput, hl, hm, hf.2] at h
          exact h
        | true =>
          have h := R.dfeed_next hN hk okn (nrmD_nrmD D) s hs he hx ⟨by show (nrm (D.sk (fK s))).kn = true; rw [nrm_kn]; exact hkn, by show (nrm (D.sk (fK s))).fr ≠ s; rw [nrm_fr]; exact fun h => hd2 ⟨hkn, h⟩⟩
          rw [hput, hl, hm, hf.2] at h
          exact h
    · have hE : feedE D s = 2 := by unfold feedE; rw [if_neg (by rw [he]; decide), if_pos (by omega)]
      have hG : feedG D s = (D, arr0) := by unfold feedG; rw [if_pos (by rw [hE]; decide)]
      rw [hE, hG]
      exact R.dfeed_arg hk ⟨okn.2.1, okn.2.2.1⟩ s hs he (by show fC s ≠ D.craft ∨ (datT s).size ≠ D.size; omega)
  · have hE : feedE D s = getTE s := by unfold feedE; rw [if_pos he]
    have hG : feedG D s = (D, arr0) := by unfold feedG; rw [if_pos (by rw [hE]; exact he)]
    rw [hE, hG]
    exact R.dfeed_bad hk ⟨okn.2.1, okn.2.2.1⟩ s hs he
theorem rnewdemux_ok {craft size : Nat} (h0 : craft ≤ 255) (h1 : 32 ≤ size) (h2 : size ≤ 200) (w : World) :
    Calls Try.prog 10 #[.int .i64 ((craft : Nat) : Int), .int .i64 ((size : Nat) : Int)] w fun e w' => e = .returned (.tuple #[.pointer (some ⟨w.heap.size, 0, none⟩), .int .i64 0]) ∧ w'.heap[w.heap.size]? = some (.cells (dmC (dm0 craft size)) 83 (0, 0)) ∧ Below w.heap.size w w' := by
  have a0 : ¬ ((craft : Nat) : Int) < 0 := by omega
  have a1 : ¬ (255 : Int) < ((craft : Nat) : Int) := by omega
  have a2 : ¬ ((size : Nat) : Int) < 32 := by omega
  have a3 : ¬ (200 : Int) < ((size : Nat) : Int) := by omega
  go_enter Try.func10, Try.ntmps10
  go_wp2
  go_ret2
  exact ⟨rfl, heap_alloc_new w _, (Below.refl _ w).alloc (Nat.le_refl _) _⟩
theorem rnewdemux_no {craft size : Int} (h : craft < 0 ∨ 255 < craft ∨ size < 32 ∨ 200 < size) (w : World) :
    Calls Try.prog 10 #[.int .i64 craft, .int .i64 size] w fun e w' => e = .returned (.tuple #[.pointer none, .int .i64 2]) ∧ w = w' := by
  have hc : craft < 0 ∨ (¬ craft < 0 ∧ 255 < craft) ∨ (¬ craft < 0 ∧ ¬ 255 < craft ∧ size < 32) ∨ (¬ craft < 0 ∧ ¬ 255 < craft ∧ ¬ size < 32 ∧ 200 < size) := by omega
  clear h
  rcases hc with q1 | ⟨q1, q2⟩ | ⟨q1, q2, q3⟩ | ⟨q1, q2, q3, q4⟩
  all_goals
    go_enter Try.func10, Try.ntmps10
    go_wp2
    go_ret2
    exact ⟨rfl, rfl⟩
end Go.Am.Cha

namespace Go.Am.Cha
open Go Go.Am Go.Am.Lib Go.Lib Go.Proofs Go.RowKit
open Go.Am.Own
set_option maxRecDepth 100000
attribute [local go_sem] Oper.semAt_some

theorem step_len (x : Sk) (first : Nat) (data : ByteArray) (n : Nat) : (stepM x first data n []).2.2.length ≤ 1 := by
  unfold stepM
  split
  · split
    · simpa using dlv_len _ _
    · split <;> simp
  · simp
theorem take_lenL (x : Sk) (first : Nat) (data : ByteArray) (n : Nat) : (takeM x first data n []).2.2.length ≤ 1 + data.size := by
  have h1 := step_len x first data n
  unfold takeM
  split
  · omega
  · have h2 : (parses (data.extract (min first data.size) data.size)).1.length ≤ (data.extract (min first data.size) data.size).size := parse_len _ _
    have hsz : (data.extract (min first data.size) data.size).size ≤ data.size := by rw [ByteArray.size_extract]; omega
    have h3 := came_len (parses (data.extract (min first data.size) data.size)).1
    generalize stepM x first data n [] = a at h1 ⊢
    generalize parses (data.extract (min first data.size) data.size) = p at h2 h3 ⊢
    show (a.2.2 ++ came p.1).length ≤ _
    rw [List.length_append]
    omega
theorem feed_len (D : Dm) (s : ByteArray) : (feedG D s).2.pk.length ≤ 1000 := by
  unfold feedG
  split
  · exact Nat.zero_le _
  · rename_i hE
    split
    · exact Nat.zero_le _
    · have he : Tmf.getTE s = 0 := by
        have h0 : feedE D s = 0 := by simpa using hE
        unfold feedE at h0
        split at h0
        · rename_i h; exact absurd h0 h
        · rename_i h; simpa using h
      have hd := (get_ok he).2.2.2.2.2.2.2.1
      show (fieldS D s).2.2.length ≤ 1000
      unfold fieldS
      split
      · exact Nat.zero_le _
      · have := take_lenL (nowS D s).1 (fF s) (Tmf.datT s) (nowS D s).2
        omega
/-- Both demuxes in memory. -/
structure Dd (w0 : World) (b1 b2 : Nat) (D1 D2 : Dm) (w : World) : Prop where
  p : w.heap[b1]? = some (.cells (dmC D1) 74 (0, 0))
  r : w.heap[b2]? = some (.cells (dmC (nrmD D2)) 83 (0, 0))
  l1 : w0.heap.size ≤ b1
  l2 : w0.heap.size ≤ b2
  ne : b1 ≠ b2
  fr : Below w0.heap.size w0 w
variable {w0 w w' : World} {b1 b2 : Nat} {D1 D2 D' : Dm}
theorem Dd.below (h : Dd w0 b1 b2 D1 D2 w) (hb : Below w.heap.size w w') : Dd w0 b1 b2 D1 D2 w' := by
  have l : ∀ {k o}, w.heap[k]? = some o → w'.heap[k]? = some o := fun {k o} hk => (hb.block k (Array.getElem?_eq_some_iff.1 hk).1).trans hk
  exact ⟨l h.p, l h.r, h.l1, h.l2, h.ne, h.fr.trans (hb.mono h.fr.size)⟩
theorem Dd.fp (h : Dd w0 b1 b2 D1 D2 w) (hd : w'.heap[b1]? = some (.cells (dmC D') 74 (0, 0))) (hf : FrS (fun k => k = b1 ∨ w.heap.size ≤ k) w w') : Dd w0 b1 b2 D' D2 w' := by
  have l2 := (Array.getElem?_eq_some_iff.1 h.r).1
  have ne := h.ne
  refine ⟨hd, (hf.block b2 (by omega)).trans h.r, h.l1, h.l2, h.ne, h.fr.trans (hf.below fun k hk => ?_)⟩
  have := h.l1; have := h.fr.size; omega
theorem Dd.frr (h : Dd w0 b1 b2 D1 D2 w) (hd : w'.heap[b2]? = some (.cells (dmC (nrmD D')) 83 (0, 0))) (hf : FrS (fun k => k = b2 ∨ w.heap.size ≤ k) w w') : Dd w0 b1 b2 D1 D' w' := by
  have l1 := (Array.getElem?_eq_some_iff.1 h.p).1
  have ne := h.ne
  refine ⟨(hf.block b1 (by omega)).trans h.p, hd, h.l1, h.l2, h.ne, h.fr.trans (hf.below fun k hk => ?_)⟩
  have := h.l2; have := h.fr.size; omega
/-- Strings, as a law is handed them. -/
def StrsIn (w : World) (ao : Option Addr) (n : Nat) : Prop := ∀ i, i < n → ∃ (x : Addr) (s : ByteArray), ao = some x ∧ w.cell? (x.add i) = some (.string s) ∧ (x.add i).block < w.heap.size ∧ s.size ≤ maxLen
theorem strs_old {ao : Option Addr} {n : Nat} (h : StrsIn w0 ao n) (hb : Below w0.heap.size w0 w) {i : Nat} (hi : i < n) : ∃ (x : Addr) (s : ByteArray), ao = some x ∧ w.cell? (x.add i) = some (.string s) := by
  obtain ⟨x, s, h1, h2, h3, -⟩ := h i hi
  exact ⟨x, s, h1, (World.cell?_of_block (hb.block _ h3)).trans h2⟩
theorem fed_p {sb : Nat} {w : World} {D' : Dm} {cA lA mA bA wA : Nat} {dA : Bool} {pA : List L8} {E : Int} {f : FuncId} {args : Array Value} (h : Calls Try.prog f args w (Fed sb w D' ⟨cA, dA, lA, mA, pA, bA, wA⟩ E)) :
    Calls Try.prog f args w fun e w' => ∃ o1 c1, e = .returned (.tuple #[.agg #[.int .i64 ((cA : Nat) : Int), .bool dA, .int .i64 ((lA : Nat) : Int), .int .i64 ((mA : Nat) : Int), .slice o1 pA.length c1, .int .i64 ((bA : Nat) : Int), .int .u32 ((wA : Nat) : Int)], .int .i64 E]) ∧ w'.ownsRow w.heap.size 9 1 (.slice o1 pA.length c1) pA.length (cellS pA) ∧ w'.heap[sb]? = some (.cells (dmC D') 74 (0, 0)) ∧ FrS (fun k => k = sb ∨ w.heap.size ≤ k) w w' :=
  h.mono fun e w' ⟨v, g1, g2, g3, g4⟩ => by
    obtain ⟨o, c, rfl⟩ := ownsRow_slice g2
    exact ⟨o, c, g1, g2, g3, g4⟩
theorem fed_r {sb : Nat} {w : World} {D' : Dm} {cA lA mA bA wA : Nat} {dA : Bool} {pA : List L8} {E : Int} {f : FuncId} {args : Array Value} (h : Calls Try.prog f args w (R.Fed sb w D' ⟨cA, dA, lA, mA, pA, bA, wA⟩ E)) :
    Calls Try.prog f args w fun e w' => ∃ o1 c1, e = .returned (.tuple #[.agg #[.int .i64 ((cA : Nat) : Int), .bool dA, .int .i64 ((lA : Nat) : Int), .int .i64 ((mA : Nat) : Int), .slice o1 pA.length c1, .int .i64 ((bA : Nat) : Int), .int .u32 ((wA : Nat) : Int)], .int .i64 E]) ∧ w'.ownsRow w.heap.size 9 1 (.slice o1 pA.length c1) pA.length (cellS pA) ∧ w'.heap[sb]? = some (.cells (dmC D') 83 (0, 0)) ∧ FrS (fun k => k = sb ∨ w.heap.size ≤ k) w w' :=
  h.mono fun e w' ⟨v, g1, g2, g3, g4⟩ => by
    obtain ⟨o, c, rfl⟩ := ownsRow_slice g2
    exact ⟨o, c, g1, g2, g3, g4⟩
theorem arr7 {W : World} {b : Nat} {y0 y1 y2 y3 y4 y5 y6 : Value} (h : W.heap[b]? = some (.cells #[y0, y1, y2, y3, y4, y5, y6] 33 (0, 0))) : W.cell? ⟨b, 0, none⟩ = some y0 ∧ W.cell? ⟨b, 1, none⟩ = some y1 ∧ W.cell? ⟨b, 2, none⟩ = some y2 ∧ W.cell? ⟨b, 3, none⟩ = some y3 ∧ W.cell? ⟨b, 4, none⟩ = some y4 ∧ W.cell? ⟨b, 5, none⟩ = some y5 ∧ W.cell? ⟨b, 6, none⟩ = some y6 :=
  ⟨cell_of h, cell_of h, cell_of h, cell_of h, cell_of h, cell_of h, cell_of h⟩
set_option maxHeartbeats 40000000 in
theorem demux_ok (c z : Nat) (h0 : c ≤ 255) (h1 : 32 ≤ z) (h2 : z ≤ 200) (ao : Option Addr) (no cap : Nat) (hno : no ≤ 300) (hin : StrsIn w0 ao no) :
    Calls Try.prog 3 #[.int .i64 ((c : Nat) : Int), .int .i64 ((z : Nat) : Int), .slice ao no cap] w0 fun e w' => e = .returned (.bool true) ∧ Below w0.heap.size w0 w' := by
  have hs := shown_calls w0
  have hnb : ¬ (300 : Int) < ((no : Nat) : Int) := by omega
  go_enter Try.func3, Try.ntmps3
  go_wp2_with (go_at_call 8; refine hs.mono ?_; clear hs; rintro e W1 ⟨rfl, b1⟩)
  refine (newdemux_ok h0 h1 h2 W1).mono ?_
  rintro e W2 ⟨rfl, k2, b2⟩
  go_wp2_with (go_at_call 10; refine (rnewdemux_ok h0 h1 h2 W2).mono ?_; rintro e W3 ⟨rfl, k3, b3⟩)
  have hX : Dd w0 W1.heap.size W2.heap.size (dm0 c z) (dm0 c z) W3 := by
    have l2 := (Array.getElem?_eq_some_iff.1 k2).1
    have s1 := b1.size
    have s2 := b2.size
    exact ⟨(b3.block _ l2).trans k2, by rw [nrmD_zero]; exact k3, s1, by omega, by omega, (b1.trans (b2.mono s1)).trans (b3.mono (by omega))⟩
  obtain ⟨B1, hB1⟩ : ∃ B, W1.heap.size = B := ⟨_, rfl⟩
  obtain ⟨B2, hB2⟩ : ∃ B, W2.heap.size = B := ⟨_, rfl⟩
  rw [hB1, hB2] at hX
  rw [hB1, hB2]
  clear k2 k3 b1 b2 b3 hB1 hB2 hnb
  have ok0 : OkD 0 (dm0 c z) := OkD.zero h0 h1 h2
  clear h0 h1 h2
  go_loopw [11] (fun iv wr => ∃ (i : Nat) (D : Dm), iv = .int .i64 (i : Nat) ∧ i ≤ no ∧ OkD i D ∧ Dd w0 B1 B2 D D wr) (fun iv _ => no - iOf iv)
  case atStart => exact ⟨0, _, rfl, Nat.zero_le _, ok0, hX⟩
  case round =>
    clear hX ok0
    obtain ⟨i, D, rfl, hi, hok, hX⟩ := hrel
    rcases Nat.lt_or_ge i no with hlt | hge
    · have hlt' : ((i : Nat) : Int) < ((no : Nat) : Int) := by omega
      have hmeas : no - (i + 1) < no - i := by omega
      obtain ⟨x, s, rfl, hc0, hbk, -⟩ := hin i hlt
      have hcw : ∀ W, Below w0.heap.size w0 W → W.cell? (x.add i) = some (.string s) := fun W hb => (World.cell?_of_block (hb.block _ hbk)).trans hc0
      have hc := hcw _ hX.fr
      by_cases hbig : 2000 < s.size
      · have hb : (2000 : Int) < ((s.size : Nat) : Int) := by omega
        go_wp2
        go_ret
        exact ⟨rfl, hX.fr⟩
      · have hb : ¬ (2000 : Int) < ((s.size : Nat) : Int) := by omega
        have cP := dfeed_at (by omega) hX.p hok s (by omega)
        have hlen := feed_len D s
        have hok2 := hok.feed s
        obtain ⟨E, hE⟩ : ∃ E, feedE D s = E := ⟨_, rfl⟩
        obtain ⟨⟨D', A⟩, hG⟩ : ∃ G, feedG D s = G := ⟨_, rfl⟩
        rw [hE, hG] at cP
        rw [hG] at hlen hok2
        obtain ⟨cA, dA, lA, mA, pA, bA, wA⟩ := A
        have hlen : pA.length ≤ 1000 := hlen
        replace cP := fed_p (cA := cA) (lA := lA) (mA := mA) (bA := bA) (wA := wA) (dA := dA) (pA := pA) cP
        have HW := Lib.hid hcw
        clear hcw
        go_wp2_with (go_at_call 11; refine cP.mono ?_; clear cP; rintro e Wa ⟨o1, c1, rfl, row1, kp, ka⟩; have beA := (Below.refl Wa.heap.size Wa).alloc (Nat.le_refl _) (.cells #[.int .i64 ((cA : Nat) : Int), .bool dA, .int .i64 ((lA : Nat) : Int), .int .i64 ((mA : Nat) : Int), .slice o1 pA.length c1, .int .i64 ((bA : Nat) : Int), .int .u32 ((wA : Nat) : Int)] 33); have kA := heap_alloc_new Wa (.cells #[.int .i64 ((cA : Nat) : Int), .bool dA, .int .i64 ((lA : Nat) : Int), .int .i64 ((mA : Nat) : Int), .slice o1 pA.length c1, .int .i64 ((bA : Nat) : Int), .int .u32 ((wA : Nat) : Int)] 33); have hXa := (hX.fp kp ka).below beA; have row1a := ownsRow_keep row1 (fun k e => beA.block k (row1.lt k e).2); have hca := HW.out _ hXa.fr; obtain ⟨Va, hVa⟩ : ∃ V, Wa.alloc (.cells #[.int .i64 ((cA : Nat) : Int), .bool dA, .int .i64 ((lA : Nat) : Int), .int .i64 ((mA : Nat) : Int), .slice o1 pA.length c1, .int .i64 ((bA : Nat) : Int), .int .u32 ((wA : Nat) : Int)] 33) = V := ⟨_, rfl⟩; rw [hVa] at hXa row1a hca kA; clear row1 kp ka beA)
        have cR := rfeed_at (by omega) hXa.r hok s (by omega)
        rw [hE, hG] at cR
        replace cR := fed_r (cA := cA) (lA := lA) (mA := mA) (bA := bA) (wA := wA) (dA := dA) (pA := pA) cR
        refine cR.mono ?_
        clear cR
        rintro e Wb ⟨o2, c2, rfl, row2, kr, kb⟩
        have bB := (Below.refl Wb.heap.size Wb).alloc (Nat.le_refl _) (.cells #[.int .i64 ((cA : Nat) : Int), .bool dA, .int .i64 ((lA : Nat) : Int), .int .i64 ((mA : Nat) : Int), .slice o2 pA.length c2, .int .i64 ((bA : Nat) : Int), .int .u32 ((wA : Nat) : Int)] 33)
        have hXb := (hXa.frr kr kb).below bB
        have lA1 := (Array.getElem?_eq_some_iff.1 kA).1
        have hAB : Wa.heap.size ≠ B2 := fun e => by rw [e, hXa.r] at kA; cases kA
        have kA2 := (bB.block _ (Nat.lt_of_lt_of_le lA1 kb.size)).trans ((kb.block _ (by omega)).trans kA)
        have kB2 := heap_alloc_new Wb (.cells #[.int .i64 ((cA : Nat) : Int), .bool dA, .int .i64 ((lA : Nat) : Int), .int .i64 ((mA : Nat) : Int), .slice o2 pA.length c2, .int .i64 ((bA : Nat) : Int), .int .u32 ((wA : Nat) : Int)] 33)
        have rA := ownsRow_keep row1a (fun k e => (bB.block k (Nat.lt_of_lt_of_le (row1a.lt k e).2 kb.size)).trans (kb.block k (by
          have h1 := (row1a.lt k e).2
          have h2 : k ≠ B2 := fun e' => ownsRow_neb row1a hXa.r (by decide) (by rw [e, e'])
          omega)))
        have rB := ownsRow_keep row2 (fun k e => bB.block k (row2.lt k e).2)
        obtain ⟨Vb, hVb⟩ : ∃ V, Wb.alloc (.cells #[.int .i64 ((cA : Nat) : Int), .bool dA, .int .i64 ((lA : Nat) : Int), .int .i64 ((mA : Nat) : Int), .slice o2 pA.length c2, .int .i64 ((bA : Nat) : Int), .int .u32 ((wA : Nat) : Int)] 33) = V := ⟨_, rfl⟩
        rw [hVb] at hXb kA2 kB2 rA rB
        have cS := sameA_calls ((cA : Nat) : Int) ((lA : Nat) : Int) ((mA : Nat) : Int) ((bA : Nat) : Int) ((wA : Nat) : Int) dA (ownsRow_up rA (Nat.zero_le _)) (ownsRow_up rB (Nat.zero_le _)) (by omega)
        obtain ⟨g0, g1, g2, g3, g4, g5, g6⟩ := arr7 kA2
        obtain ⟨j0, j1, j2, j3, j4, j5, j6⟩ := arr7 kB2
        have HX := Lib.hid hXb
        clear bB hXb kA2 kB2 rA rB row2 kr kb hXa row1a kA hca lA1 hX hc hc0
        go_wp2_with (go_at_call 13; refine cS.mono ?_; clear cS; rintro e Vc ⟨rfl, bC⟩)
        exact ⟨⟨i + 1, D', by push_cast; rfl, hlt, hok2, HX.out.below bC⟩, hmeas⟩
    · have hge' : ¬ ((i : Nat) : Int) < ((no : Nat) : Int) := by omega
      go_wp2
      go_ret
      exact ⟨rfl, hX.fr⟩
theorem demux_early (c z : Int) (ao : Option Addr) (no cap : Nat) (hno : 300 < no) :
    Calls Try.prog 3 #[.int .i64 c, .int .i64 z, .slice ao no cap] w0 fun e w' => e = .returned (.bool true) ∧ Below w0.heap.size w0 w' := by
  have hs := shown_calls w0
  have hnb : (300 : Int) < ((no : Nat) : Int) := by omega
  go_enter Try.func3, Try.ntmps3
  go_wp2_with (go_at_call 8; refine hs.mono ?_; clear hs; rintro e W1 ⟨rfl, b1⟩)
  go_ret
  exact ⟨rfl, b1⟩
set_option maxHeartbeats 3200000 in
theorem demux_no (c z : Int) (h : c < 0 ∨ 255 < c ∨ z < 32 ∨ 200 < z) (ao : Option Addr) (no cap : Nat) (hno : no ≤ 300) :
    Calls Try.prog 3 #[.int .i64 c, .int .i64 z, .slice ao no cap] w0 fun e w' => e = .returned (.bool true) ∧ Below w0.heap.size w0 w' := by
  have hs := shown_calls w0
  have hnb : ¬ (300 : Int) < ((no : Nat) : Int) := by omega
  go_enter Try.func3, Try.ntmps3
  go_wp2_with (go_at_call 8; refine hs.mono ?_; clear hs; rintro e W1 ⟨rfl, b1⟩)
  refine (newdemux_no h W1).mono ?_
  rintro e W2 ⟨rfl, rfl⟩
  go_wp2_with (go_at_call 10; refine (rnewdemux_no h W1).mono ?_; rintro e W3 ⟨rfl, rfl⟩)
  clear hnb h
  go_loopw [11] (fun iv wr => iv = .int .i64 0 ∧ wr = W1) (fun _ _ => 0)
  case atStart => exact ⟨rfl, rfl⟩
  case round =>
    obtain ⟨rfl, rfl⟩ := hrel
    rcases Nat.eq_zero_or_pos no with h0 | h0
    · have hb : ¬ (0 : Int) < ((no : Nat) : Int) := by omega
      go_wp2
      go_ret
      exact ⟨rfl, b1⟩
    · have hb : (0 : Int) < ((no : Nat) : Int) := by omega
      go_wp2
      go_ret
      exact ⟨rfl, b1⟩
theorem demux_walk (c z : Int) (ao : Option Addr) (no cap : Nat) (hin : StrsIn w0 ao no) :
    Calls Try.prog 3 #[.int .i64 c, .int .i64 z, .slice ao no cap] w0 fun e w' => e = .returned (.bool true) ∧ Below w0.heap.size w0 w' := by
  by_cases hno : 300 < no
  · exact demux_early c z ao no cap hno
  by_cases h : c < 0 ∨ 255 < c ∨ z < 32 ∨ 200 < z
  · exact demux_no c z h ao no cap (by omega)
  · obtain ⟨c', rfl⟩ : ∃ k : Nat, c = (k : Int) := ⟨c.toNat, by omega⟩
    obtain ⟨z', rfl⟩ : ∃ k : Nat, z = (k : Int) := ⟨z.toNat, by omega⟩
    exact demux_ok c' z' (by omega) (by omega) (by omega) ao no cap (by omega) hin
end Go.Am.Cha
