/-
  Joiner: PacketLosses, walked. Own work.
-/
import Derived.Test.YtbpfhjmiaaaoiaaJoiX0
namespace Go.Am.Joi
open Go Go.Am Go.Am.Lib Go.Lib Go.Proofs Go.RowKit
open Go.Am.Own
open Go.Am.Pkt (G0 manyP flP rowP badS sSplit okSplit)
set_option maxRecDepth 100000
/-- Flags, as a law is handed them. -/
def BoolsIn (w : World) (ao : Option Addr) (n : Nat) : Prop :=
  ∀ i, i < n → ∃ (a : Addr) (t : Bool), ao = some a ∧ w.cell? (a.add i) = some (.bool t) ∧ (a.add i).block < w.heap.size
set_option maxHeartbeats 3200000 in
theorem losses_many {W0 : World} (ao : Option Addr) (n cap : Nat) (z : Int) (lo : Option Addr) (nl cl : Nat) (h : 30 < n) :
    Calls Try.prog 6 #[.slice ao n cap, .int .i64 z, .slice lo nl cl] W0 fun e w' => e = .returned (.bool true) ∧ Below W0.heap.size W0 w' := by
  have hS := shown_calls W0
  have h' : (30 : Int) < ((n : Nat) : Int) := by omega
  go_enter Try.func6, Try.ntmps6
  go_wp2_with (go_at_call 10; refine hS.mono ?_; clear hS; rintro e W2 ⟨rfl, b2⟩)
  go_ret
  exact ⟨rfl, b2⟩
set_option maxHeartbeats 3200000 in
theorem losses_long {W0 : World} (ao : Option Addr) (n cap : Nat) (z : Int) (lo : Option Addr) (nl cl : Nat) (h : n ≤ 30) (hL : ∀ w, Below W0.heap.size W0 w → Calls Try.prog 21 #[.slice ao n cap, .int .i64 6000] w fun e w' => e = .returned (.bool true) ∧ Below w.heap.size w w') :
    Calls Try.prog 6 #[.slice ao n cap, .int .i64 z, .slice lo nl cl] W0 fun e w' => e = .returned (.bool true) ∧ Below W0.heap.size W0 w' := by
  have hS := shown_calls W0
  have h' : ¬ (30 : Int) < ((n : Nat) : Int) := by omega
  have HL := Lib.hid hL
  clear hL
  go_enter Try.func6, Try.ntmps6
  go_wp2_with (go_at_call 10; refine hS.mono ?_; clear hS; rintro e W2 ⟨rfl, b2⟩)
  go_wp2_with (go_at_call 21; refine (HL.out _ b2).mono ?_; clear HL; rintro e W3 ⟨rfl, b3⟩; have g3 := b2.trans (b3.mono b2.size))
  go_ret
  exact ⟨rfl, g3⟩
abbrev nilR : RowM := (9, .slice none 0 0, [])
/-- What holds ahead of a message. -/
def Lo1 (W0 : World) (F : Nat → ByteArray) (jb : Nat) (c a mi i u : Nat) (bg : Bool) (wv gv : Value) (w : World) : Prop :=
  ∃ (N : Nat) (J : Js) (L : List L8), c < 16384 ∧ a ≤ sumS F i ∧ mi + u ≤ a ∧ N ≤ a ∧ L.length ≤ i ∧ Ls c 1 ⟨#[]⟩ 0 (J 9) bg true u ∧ Wj W0 W0 none jb (N, J) (R4 (9, wv, cellS L) (9, gv, cellS L) nilR nilR) w
theorem infoS : ∃ i0, Try.prog.info? 9 = some i0 ∧ i0.zero = some (.string ⟨#[]⟩) ∧ i0.size = 1 ∧ i0.bytes = 16 := by
  have h : (Try.prog.info? 9).map (fun i => (i.zero, i.size, i.bytes)) = some (some (.string ⟨#[]⟩), 1, 16) := by kernel_rfl
  obtain ⟨i, h1, h2⟩ := Option.map_eq_some_iff.1 h
  simp only [Prod.mk.injEq] at h2
  exact ⟨i, h1, h2.1, h2.2.1, h2.2.2⟩
theorem one_mem {v u : Value} (hu : u ∈ [v]) (h : v.oneCell' = true) : u.oneCell' = true := by
  simp only [List.mem_cons, List.not_mem_nil, or_false] at hu; rw [hu]; exact h
/-- The messages got, ahead of packet k of M. -/
def gotL (wh : Bool) (k M : Nat) (L : List L8) (s : ByteArray) : List L8 := bif wh && decide (k = M) then L ++ [s.data.toList] else L
theorem gotL_lt {wh : Bool} {k M : Nat} {L : List L8} {s : ByteArray} (h : k < M) : gotL wh k M L s = L := by
  unfold gotL
  rw [decide_eq_false (by omega), Bool.and_false, cond_false]
theorem gotL_no {k M : Nat} {L : List L8} {s : ByteArray} : gotL false k M L s = L := rfl
theorem gotL_yes {M : Nat} {L : List L8} {s : ByteArray} : gotL true M M L s = L ++ [s.data.toList] := by
  unfold gotL
  rw [decide_eq_true rfl]; rfl
/-- What holds ahead of packet k of a message. -/
def Lo2 (W0 V : World) (g jb B c p : Nat) (s : ByteArray) (M : Nat) (L : List L8) (wv : Value) (a mi k u : Nat) (bg wh : Bool) (gv : Value) (w : World) : Prop :=
  ∃ (N : Nat) (J : Js), k ≤ M ∧ a ≤ B + k ∧ mi + u ≤ a ∧ N ≤ a ∧ Ls c (1 + p) s k (J 9) bg wh u ∧ Wj W0 V (some g) jb (N, J) (R4 (9, wv, cellS L) (9, gv, cellS (gotL wh k M L s)) nilR nilR) w
variable {W0 V w : World} {F : Nat → ByteArray} {g jb B c p M a mi i k u : Nat} {s : ByteArray} {L : List L8} {wv gv : Value} {bg wh : Bool}
theorem lo2_lost (h : Lo2 W0 V g jb B c p s M L wv a mi k u bg wh gv w) (hk : k < M) : Lo2 W0 V g jb B c p s M L wv (a + 1) mi (k + 1) (u + 1) bg false gv w := by
  obtain ⟨N, J, h1, h2, h3, h4, h5, h6⟩ := h
  rw [gotL_lt hk] at h6
  exact ⟨N, J, hk, by omega, by omega, by omega, h5.lost, h6⟩
theorem lo2_fed (h : Lo2 W0 V g jb B c p s M L wv a mi k u bg wh gv w) (hk : k < M) (hM : manyP s (1 + p) = M) (hp : p < 50) (s1 : s.size ≤ 16000) (hB : B + M ≤ 16000) {wl : Bool} (hwl : (wh && decide (k + 1 = M)) = wl) {mm : Nat} (hmm : (if bg = true then u else 0) = mm) {mz : Int} (hmz : ((mm : Nat) : Int) = mz) (w1 : World) (hw : Below w.heap.size w w1) :
    Calls Try.prog 16 #[.pointer (some ⟨jb, 0, none⟩), .agg #[.bool true, .int .i64 9, .int .i64 ((flP M k : Nat) : Int), .int .i64 (((c + k) % 16384 : Nat) : Int), .string (Pkt.part s (1 + p) k)]] w1
      fun e w' => ∃ (t : ByteArray) (br : Bool) (x : Nat × Js), e = .returned (.tuple #[.agg #[.bool wl, .string t, .int .i64 mz, .bool br], .int .i64 0]) ∧ (wl = true → s = t) ∧ Wj W0 V (some g) jb x (R4 (9, wv, cellS L) (9, gv, cellS L) nilR nilR) w' ∧
        ∀ gv' w', Wj W0 V (some g) jb x (R4 (9, wv, cellS L) (9, gv', cellS (bif wl then L ++ [s.data.toList] else L)) nilR nilR) w' → Lo2 W0 V g jb B c p s M L wv (a + 1) (mi + mm) (k + 1) 0 true wh gv' w' := by
  obtain ⟨N, J, h1, h2, h3, h4, h5, h6⟩ := h
  rw [gotL_lt hk] at h6
  have c0 := wj_feed (h6.below hw) (by unfold maxLen; omega) h5 (by omega) (by omega) (by omega) (by omega) (by rw [hM]; exact hk) true
  rw [hM] at c0
  refine c0.mono ?_
  rintro e w' ⟨J', t, br, rfl, ht, hl, hw'⟩
  refine ⟨t, br, _, by rw [hwl, hmm, hmz], fun e => ?_, hw', fun gv' w2 h2' => ⟨N + 1, J', hk, by omega, ?_, ?_, hl, ?_⟩⟩
  · rw [← hwl, Bool.and_eq_true, decide_eq_true_eq] at e
    exact (ht.out e.1 e.2).symm
  · rw [← hmm]
    split <;> omega
  · omega
  · have e : gotL wh (k + 1) M L s = bif wl then L ++ [s.data.toList] else L := by unfold gotL; rw [hwl]
    rw [e]; exact h2'
theorem lo2_true (h : Lo2 W0 V g jb B c p s M L wv a mi M u bg true gv w) (hb : B + M ≤ sumS F (i + 1)) (hL : L.length ≤ i) :
    ∃ x, Wj W0 V (some g) jb x (R4 (9, wv, cellS L) (9, gv, cellS (L ++ [s.data.toList])) nilR nilR) w ∧ ∀ wv' w', Wj W0 V (some g) jb x (R4 (9, wv', cellS (L ++ [s.data.toList])) (9, gv, cellS (L ++ [s.data.toList])) nilR nilR) w' → Lo1 W0 F jb ((c + M) % 16384) a mi (i + 1) u bg wv' gv w' := by
  obtain ⟨N, J, h1, h2, h3, h4, h5, h6⟩ := h
  rw [gotL_yes] at h6
  exact ⟨_, h6, fun wv' w' h => ⟨N, J, _, Nat.mod_lt _ (by decide), by omega, h3, h4, by rw [List.length_append]; show L.length + 1 ≤ i + 1; omega, h5.next _ _, h.free⟩⟩
theorem lo2_false (h : Lo2 W0 V g jb B c p s M L wv a mi M u bg false gv w) (hb : B + M ≤ sumS F (i + 1)) (hL : L.length ≤ i) : Lo1 W0 F jb ((c + M) % 16384) a mi (i + 1) u bg wv gv w := by
  obtain ⟨N, J, h1, h2, h3, h4, h5, h6⟩ := h
  exact ⟨N, J, L, Nat.mod_lt _ (by decide), by omega, h3, h4, by omega, h5.next _ _, h6.free⟩
theorem lo1_lo2 {c a mi u : Nat} {N : Nat} {J : Js} (ha : a ≤ B) (hmu : mi + u ≤ a) (hN : N ≤ a) (hls : Ls c 1 ⟨#[]⟩ 0 (J 9) bg true u) (hM : 0 < M) (h : Wj W0 V (some g) jb (N, J) (R4 (9, wv, cellS L) (9, gv, cellS L) nilR nilR) w) :
    Lo2 W0 V g jb B c p s M L wv a mi 0 u bg true gv w :=
  ⟨N, J, Nat.zero_le _, by omega, hmu, hN, hls.other _ _, by rw [gotL_lt hM]; exact h⟩
end Go.Am.Joi
