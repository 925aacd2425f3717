/-
  Cltu: CltuFixes. Own work.
-/
import Derived.Test.YtoeepogoogcbiaaDoorCltAL
import Derived.Test.YtoeepogoogcbiaaDoorCltAO
namespace Go.Am.Clt
open Go Go.Am Go.Am.Lib Go.Lib Go.Proofs Go.RowKit
set_option maxRecDepth 100000

theorem flipN_at {s : ByteArray} (hs : s.size = 8) {a : Nat} (ha : a < 64) : flipN s (a : Nat) = flipS s a := by
  unfold flipN
  rw [hs]
  have : ((a : Nat) : Int) % ((8 * 8 : Nat) : Int) = ((a : Nat) : Int) := by omega
  rw [this, Int.toNat_natCast]
theorem blkE_no {q : ByteArray} (h : ¬ q.size = 7) : blkE q = 2 := by unfold blkE; rw [if_neg h]
section
variable {W0 : World} (hG : GOk G0 W0) {w : World} (hold : ∀ n, n < W0.heap.size → w.heap[n]? = W0.heap[n]?) (hsz : W0.heap.size ≤ w.heap.size)
include hG hold hsz
theorem pick_from (n m : Int) (h0 : 0 < m) (h1 : m < 2 ^ 62) : ∀ wx : World, Below w.heap.size w wx → Calls Tryd.prog 16 #[.int .i64 n, .int .i64 m] wx fun e w' => e = .returned (.int .i64 (n % m)) ∧ Below w.heap.size w w' :=
  from_spec hG hold hsz okPck (args := [.int .i64 n, .int .i64 m]) rfl (v := .int .i64 (n % m)) rfl ⟨h0, h1, fun x hx => by rw [hx]; exact ⟨rfl, rfl⟩⟩
theorem flip_from {s : ByteArray} (hs : s.size = 8) {a : Nat} (ha : a < 64) : ∀ wx : World, Below w.heap.size w wx → Calls Tryd.prog 17 #[.string s, .int .i64 (a : Nat)] wx fun e w' => e = .returned (.string (flipS s a)) ∧ Below w.heap.size w w' :=
  from_spec hG hold hsz okFlk (args := [.string s, .int .i64 (a : Nat)]) rfl (v := .string (flipS s a)) rfl ⟨by omega, by omega, by rw [flipN_at hs ha], rfl⟩
theorem chk_from (s : ByteArray) (hs : s.size < 2 ^ 62) {r : ByteArray} {k e : Int} (h : chkS s = r ∧ chkW s = k ∧ chkE s = e) : ∀ wx : World, Below w.heap.size w wx → Calls Tryd.prog 12 #[.string s] wx fun e' w' => e' = .returned (.tuple #[.string r, .int .i64 k, .int .i64 e]) ∧ Below w.heap.size w w' := by
  obtain ⟨rfl, rfl, rfl⟩ := h
  exact from_spec hG hold hsz (okChk tabC_ok) (args := [.string s]) rfl (v := .tuple ⟨[.string (chkS s), .int .i64 (chkW s), .int .i64 (chkE s)]⟩) rfl ⟨hs, rfl, rfl⟩
set_option maxHeartbeats 1600000 in
theorem fixes_no (q : ByteArray) (i j : Int) (hs : q.size < 2 ^ 62) (h7 : ¬ q.size = 7) :
    Calls Tryd.prog 5 #[.string q, .int .i64 i, .int .i64 j] w fun e w' => e = .returned (.bool true) ∧ Below w.heap.size w w' := by
  have cS := shown_from hG hold hsz
  have c1 := from_spec hG hold hsz (okBlk tabC_ok) (args := [.string q]) rfl (v := .tuple ⟨[.string (blkR q), .int .i64 2]⟩) rfl ⟨hs, by rw [blkE_no h7], rfl⟩
  have hw : (((q.size : Nat) : Int) != 7) = true := bne_iff_ne.2 (by omega)
  go_enter Tryd.func5, Tryd.ntmps5
  go_wp2_with (go_at_call 9; refine (cS _ (Below.refl _ _)).mono ?_)
  first | rintro e W1 rfl b1 | rintro e W1 ⟨rfl, b1⟩
  go_wp2_with (go_at_call 10; refine (c1 _ b1).mono ?_)
  first | rintro e W2 rfl b2 | rintro e W2 ⟨rfl, b2⟩
  go_wp2
  go_ret
  exact ⟨rfl, b2⟩
set_option maxHeartbeats 3200000 in
theorem fixes_yes (q : ByteArray) (i j : Int) (h7 : q.size = 7) :
    Calls Tryd.prog 5 #[.string q, .int .i64 i, .int .i64 j] w fun e w' => e = .returned (.bool true) ∧ Below w.heap.size w w' := by
  have cS := shown_from hG hold hsz
  obtain ⟨B, hB⟩ : ∃ B, blkS q = B := ⟨_, rfl⟩
  have hBs : B.size = 8 := by rw [← hB]; exact blkS_size h7
  have c1 := from_spec hG hold hsz (okBlk tabC_ok) (args := [.string q]) rfl (v := .tuple ⟨[.string B, .int .i64 0]⟩) rfl ⟨by omega, by rw [blkR_7 h7, blkE_7 h7, hB], rfl⟩
  have hsl : ∀ wx : World, (Instr.slice 9 (.string B) none (some (.int .i64 7)) none).run Tryd.prog wx = .ok (.string q) wx := by
    intro wx
    have hc : B.extract 0 7 = q := by rw [← hB]; exact blkS_cut h7
    rw [← hc]
    have := run_slice_string_h (P := Tryd.prog) wx 9 B Tryd.underlying9 .i64 7 (by omega) (by omega)
    simpa using this
  have hw : (((B.size : Nat) : Int) != 8) = false := by rw [hBs]; rfl
  obtain ⟨a, ha⟩ := nat_of (n := i % 64) (by omega)
  obtain ⟨b, hb⟩ := nat_of (n := j % 63) (by omega)
  have ha64 : a < 64 := by omega
  have hb63 : b < 63 := by omega
  have p1 := pick_from hG hold hsz i 64 (by omega) (by omega)
  have p2 := pick_from hG hold hsz j 63 (by omega) (by omega)
  rw [ha] at p1
  rw [hb] at p2
  have k1 := chk_from hG hold hsz B (by omega) (by rw [← hB]; exact chk_blk h7)
  have f1 := flip_from hG hold hsz hBs ha64
  obtain ⟨C, hC⟩ : ∃ C, flipS B a = C := ⟨_, rfl⟩
  have hCs : C.size = 8 := by rw [← hC, flip_size]; exact hBs
  rw [hC] at f1
  have f2 := flip_from hG hold hsz hCs (show b < 64 by omega)
  obtain ⟨D, hD⟩ : ∃ D, flipS C b = D := ⟨_, rfl⟩
  have hDs : D.size = 8 := by rw [← hD, flip_size]; exact hCs
  rw [hD] at f2
  have k2 : ∃ k : Int, (k = 1 ∧ a < 63 ∨ k = 0 ∧ a = 63) ∧ chkS C = q ∧ chkW C = k ∧ chkE C = 0 := by
    rw [← hC, ← hB]
    rcases (by omega : a < 63 ∨ a = 63) with h | h
    · exact ⟨1, Or.inl ⟨rfl, h⟩, chk_one h7 h⟩
    · subst h; exact ⟨0, Or.inr ⟨rfl, rfl⟩, chk_last h7⟩
  obtain ⟨k, hk, k2⟩ := k2
  have k2 := chk_from hG hold hsz C (by omega) k2
  have k3 : a < 63 → a ≠ b → chkE D = 6 := by
    intro h1 h2
    rw [← hD, ← hC, ← hB]
    exact chk_two h7 h1 hb63 h2
  have K3 : Hid (a < 63 → a ≠ b → chkE D = 6) := k3
  clear k3 hC hD hB ha hb
  go_enter Tryd.func5, Tryd.ntmps5
  go_wp2_with (go_at_call 9; refine (cS _ (Below.refl _ _)).mono ?_)
  first | rintro e W1 rfl b1 | rintro e W1 ⟨rfl, b1⟩
  go_wp2_with (go_at_call 10; refine (c1 _ b1).mono ?_)
  first | rintro e W2 rfl b2 | rintro e W2 ⟨rfl, b2⟩
  go_wp2_with (go_at_call 16; refine (p1 _ b2).mono ?_)
  first | rintro e W3 rfl b3 | rintro e W3 ⟨rfl, b3⟩
  go_wp2_with (go_at_call 16; refine (p2 _ b3).mono ?_)
  first | rintro e W4 rfl b4 | rintro e W4 ⟨rfl, b4⟩
  go_wp2_with (go_at_call 12; refine (k1 _ b4).mono ?_)
  first | rintro e W5 rfl b5 | rintro e W5 ⟨rfl, b5⟩
  go_wp2_with (go_at_call 17; refine (f1 _ b5).mono ?_)
  first | rintro e W6 rfl b6 | rintro e W6 ⟨rfl, b6⟩
  go_wp2_with (go_at_call 12; refine (k2 _ b6).mono ?_)
  first | rintro e W7 rfl b7 | rintro e W7 ⟨rfl, b7⟩
  rcases hk with ⟨rfl, h63⟩ | ⟨rfl, h63⟩
  · have hlt : ((a : Nat) : Int) < 63 := by omega
    have hne : ¬ ((a : Nat) : Int) = 63 := by omega
    by_cases hab : a = b
    · subst hab
      clear K3
      go_wp2
      go_ret
      exact ⟨rfl, b7⟩
    · have hnab : (((a : Nat) : Int) == ((b : Nat) : Int)) = false := beq_eq_false_iff_ne.2 (by omega)
      have hn63 : (((a : Nat) : Int) == 63) = false := beq_eq_false_iff_ne.2 (by omega)
      have k4 := chk_from hG hold hsz D (by omega) (r := chkS D) (k := chkW D) (e := 6) ⟨rfl, rfl, K3.out h63 hab⟩
      go_wp2_with (go_at_call 17; refine (f1 _ b7).mono ?_)
      first | rintro e W8 rfl b8 | rintro e W8 ⟨rfl, b8⟩
      go_wp2_with (go_at_call 17; refine (f2 _ b8).mono ?_)
      first | rintro e W9 rfl b9 | rintro e W9 ⟨rfl, b9⟩
      go_wp2_with (go_at_call 12; refine (k4 _ b9).mono ?_)
      first | rintro e W10 rfl b10 | rintro e W10 ⟨rfl, b10⟩
      go_wp2
      go_ret
      exact ⟨rfl, b10⟩
  · subst h63
    clear K3
    go_wp2
    go_ret
    exact ⟨rfl, b7⟩
theorem fixes_walk (q : ByteArray) (i j : Int) (hs : q.size < 2 ^ 62) :
    Calls Tryd.prog 5 #[.string q, .int .i64 i, .int .i64 j] w fun e w' => e = .returned (.bool true) ∧ Below w.heap.size w w' := by
  by_cases h7 : q.size = 7
  · exact fixes_yes hG hold hsz q i j h7
  · exact fixes_no hG hold hsz q i j hs h7
end
end Go.Am.Clt
