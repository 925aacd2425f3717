/-
  Cltu: the code's remainders. Own work; plain mathematics.
-/
import Derived.Test.YtlgpalokjckdcaaAmY
namespace Go.Am.Clt
open Go Go.Am Go.Am.Lib
set_option maxRecDepth 100000

/-! ### the register -/
/-- One more bit, and the division by the polynomial. -/
def step (r b : Nat) : Nat := if 2 * r + b < 128 then 2 * r + b else (2 * r + b) ^^^ 197
/-- The same for what is multiplied by x^7. -/
def stepC (r b : Nat) : Nat := (2 * r % 128) ^^^ (if (r / 64 + b) % 2 = 1 then 69 else 0)
def halves : List Nat := [0, 69, 79, 10, 91, 30, 20, 81, 115, 54, 60, 121, 40, 109, 103, 34]
def nib (r h : Nat) : Nat := (r * 16 % 128) ^^^ halves.getD ((r / 8) ^^^ h) 0
def fold (l : List Nat) (r : Nat) : Nat := l.foldl step r
def foldC (l : List Nat) (r : Nat) : Nat := l.foldl stepC r
def z7 (r : Nat) : Nat := fold [0, 0, 0, 0, 0, 0, 0] r
def Bits (l : List Nat) : Prop := ∀ b ∈ l, b < 2
theorem step_lt : ∀ (r : Fin 128) (b : Fin 2), step r.val b.val < 128 := by decide +kernel
theorem stepC_lt : ∀ (r : Fin 128) (b : Fin 2), stepC r.val b.val < 128 := by decide +kernel
theorem z7_step : ∀ (r : Fin 128) (b : Fin 2), z7 (step r.val b.val) = stepC (z7 r.val) b.val := by decide +kernel
theorem nib_step : ∀ (r : Fin 128) (h : Fin 16), nib r.val h.val = stepC (stepC (stepC (stepC r.val (h.val / 8 % 2)) (h.val / 4 % 2)) (h.val / 2 % 2)) (h.val % 2) := by decide +kernel
theorem step_lt' {r b : Nat} (hr : r < 128) (hb : b < 2) : step r b < 128 := step_lt ⟨r, hr⟩ ⟨b, hb⟩
theorem stepC_lt' {r b : Nat} (hr : r < 128) (hb : b < 2) : stepC r b < 128 := stepC_lt ⟨r, hr⟩ ⟨b, hb⟩
theorem z7_step' {r b : Nat} (hr : r < 128) (hb : b < 2) : z7 (step r b) = stepC (z7 r) b := z7_step ⟨r, hr⟩ ⟨b, hb⟩
theorem fold_lt : ∀ (l : List Nat) {r : Nat}, Bits l → r < 128 → fold l r < 128
  | [], _, _, h => h
  | b :: l, _, hb, h => fold_lt l (fun x hx => hb x (List.mem_cons_of_mem _ hx)) (step_lt' h (hb b List.mem_cons_self))
theorem foldC_lt : ∀ (l : List Nat) {r : Nat}, Bits l → r < 128 → foldC l r < 128
  | [], _, _, h => h
  | b :: l, _, hb, h => foldC_lt l (fun x hx => hb x (List.mem_cons_of_mem _ hx)) (stepC_lt' h (hb b List.mem_cons_self))
theorem fold_app (a b : List Nat) (r : Nat) : fold (a ++ b) r = fold b (fold a r) := List.foldl_append
theorem foldC_app (a b : List Nat) (r : Nat) : foldC (a ++ b) r = foldC b (foldC a r) := List.foldl_append
theorem fold_cons (b : Nat) (l : List Nat) (r : Nat) : fold (b :: l) r = fold l (step r b) := rfl
theorem foldC_cons (b : Nat) (l : List Nat) (r : Nat) : foldC (b :: l) r = foldC l (stepC r b) := rfl
theorem fold_nil (r : Nat) : fold [] r = r := rfl
theorem foldC_nil (r : Nat) : foldC [] r = r := rfl
theorem z7_eq (r : Nat) : z7 r = fold [0, 0, 0, 0, 0, 0, 0] r := rfl
theorem step_00 : step 0 0 = 0 := rfl
attribute [irreducible] step stepC z7
theorem z7_fold (l : List Nat) : ∀ {r : Nat}, Bits l → r < 128 → z7 (fold l r) = foldC l (z7 r) := by
  induction l with
  | nil => intro r _ _; rw [fold_nil, foldC_nil]
  | cons b l ih =>
    intro r hb h
    have h1 := hb b List.mem_cons_self
    rw [fold_cons, foldC_cons, ih (fun x hx => hb x (List.mem_cons_of_mem _ hx)) (step_lt' h h1), z7_step' h h1]

/-! ### it is linear -/
def sel (t : Bool) (c : Nat) : Nat := cond t c 0
theorem sel_xor (a b : Bool) (c : Nat) : sel (a ^^ b) c = sel a c ^^^ sel b c := by
  cases a <;> cases b <;> simp [sel]
def lin (t0 t1 t2 t3 t4 t5 t6 t7 : Bool) : Nat := sel t0 2 ^^^ (sel t1 4 ^^^ (sel t2 8 ^^^ (sel t3 16 ^^^ (sel t4 32 ^^^ (sel t5 64 ^^^ (sel t6 69 ^^^ sel t7 1))))))
theorem step_lin : ∀ (r : Fin 128) (b : Fin 2), step r.val b.val = lin (r.val.testBit 0) (r.val.testBit 1) (r.val.testBit 2) (r.val.testBit 3) (r.val.testBit 4) (r.val.testBit 5) (r.val.testBit 6) (b.val.testBit 0) := by decide +kernel
theorem xor4 (a b c d : Nat) : (a ^^^ b) ^^^ (c ^^^ d) = (a ^^^ c) ^^^ (b ^^^ d) := by
  rw [Nat.xor_assoc, Nat.xor_assoc, ← Nat.xor_assoc b c d, Nat.xor_comm b c, Nat.xor_assoc c b d]
theorem step_xor {r q b c : Nat} (hr : r < 128) (hq : q < 128) (hb : b < 2) (hc : c < 2) : step (r ^^^ q) (b ^^^ c) = step r b ^^^ step q c := by
  have h1 := step_lin ⟨r, hr⟩ ⟨b, hb⟩
  have h2 := step_lin ⟨q, hq⟩ ⟨c, hc⟩
  have h3 := step_lin ⟨r ^^^ q, Nat.xor_lt_two_pow (n := 7) hr hq⟩ ⟨b ^^^ c, Nat.xor_lt_two_pow (n := 1) hb hc⟩
  dsimp only at h1 h2 h3
  rw [h1, h2, h3]
  unfold lin
  simp only [Nat.testBit_xor, sel_xor]
  simp only [xor4]
def xorL : List Nat → List Nat → List Nat
  | a :: l, b :: m => (a ^^^ b) :: xorL l m
  | _, _ => []
theorem xor2 {a b : Nat} (ha : a < 2) (hb : b < 2) : a ^^^ b < 2 := Nat.xor_lt_two_pow (n := 1) ha hb
theorem xor128 {a b : Nat} (ha : a < 128) (hb : b < 128) : a ^^^ b < 128 := Nat.xor_lt_two_pow (n := 7) ha hb
theorem fold_xor : ∀ (l m : List Nat) {r q : Nat}, l.length = m.length → Bits l → Bits m → r < 128 → q < 128 → fold (xorL l m) (r ^^^ q) = fold l r ^^^ fold m q
  | [], [], _, _, _, _, _, _, _ => rfl
  | a :: l, b :: m, r, q, hl, ha, hb, hr, hq => by
    have h1 := ha a List.mem_cons_self
    have h2 := hb b List.mem_cons_self
    show fold (xorL l m) (step (r ^^^ q) (a ^^^ b)) = fold l (step r a) ^^^ fold m (step q b)
    rw [step_xor hr hq h1 h2]
    exact fold_xor l m (by simpa using hl) (fun x hx => ha x (List.mem_cons_of_mem _ hx)) (fun x hx => hb x (List.mem_cons_of_mem _ hx)) (step_lt' hr h1) (step_lt' hq h2)

/-! ### bytes -/
def bits8 (b : Nat) : List Nat := [b / 128 % 2, b / 64 % 2, b / 32 % 2, b / 16 % 2, b / 8 % 2, b / 4 % 2, b / 2 % 2, b % 2]
theorem bits8_ok (b : Nat) : Bits (bits8 b) := fun x hx => by
  unfold bits8 at hx
  simp only [List.mem_cons, List.not_mem_nil, or_false] at hx
  rcases hx with rfl | rfl | rfl | rfl | rfl | rfl | rfl | rfl <;> omega
/-- The register behind a byte, as the program computes it. -/
def byteS (r b : Nat) : Nat := nib (nib r (b / 16)) (b % 16)
theorem nib_lt {r h : Nat} (hr : r < 128) (hh : h < 16) : nib r h < 128 := by
  rw [nib_step ⟨r, hr⟩ ⟨h, hh⟩]
  exact stepC_lt' (stepC_lt' (stepC_lt' (stepC_lt' hr (Nat.mod_lt _ (by omega))) (Nat.mod_lt _ (by omega))) (Nat.mod_lt _ (by omega))) (Nat.mod_lt _ (by omega))
theorem byteS_lt {r b : Nat} (hr : r < 128) (hb : b < 256) : byteS r b < 128 := nib_lt (nib_lt hr (by omega)) (by omega)
theorem byteS_fold {r b : Nat} (hr : r < 128) (hb : b < 256) : byteS r b = foldC (bits8 b) r := by
  have h1 : b / 16 < 16 := by omega
  have h2 : b % 16 < 16 := by omega
  unfold byteS
  have e1 := nib_step ⟨r, hr⟩ ⟨b / 16, h1⟩
  dsimp only at e1
  have hn := nib_lt hr h1
  have e2 := nib_step ⟨nib r (b / 16), hn⟩ ⟨b % 16, h2⟩
  dsimp only at e2
  rw [e2, e1]
  show _ = stepC (stepC (stepC (stepC (stepC (stepC (stepC (stepC r (b / 128 % 2)) (b / 64 % 2)) (b / 32 % 2)) (b / 16 % 2)) (b / 8 % 2)) (b / 4 % 2)) (b / 2 % 2)) (b % 2)
  rw [show b / 16 / 8 % 2 = b / 128 % 2 by omega, show b / 16 / 4 % 2 = b / 64 % 2 by omega, show b / 16 / 2 % 2 = b / 32 % 2 by omega, show b % 16 / 8 % 2 = b / 8 % 2 by omega, show b % 16 / 4 % 2 = b / 4 % 2 by omega, show b % 16 / 2 % 2 = b / 2 % 2 by omega, show b % 16 % 2 = b % 2 by omega]
/-- n bytes from i on. -/
def remG (s : ByteArray) : Nat → Nat → Nat → Nat
  | 0, _, r => r
  | n + 1, i, r => remG s n (i + 1) (byteS r (byteAt s i))
def remN (s : ByteArray) : Nat := remG s s.size 0 0
def bitsG (s : ByteArray) : Nat → Nat → List Nat
  | 0, _ => []
  | n + 1, i => bits8 (byteAt s i) ++ bitsG s n (i + 1)
theorem bits_app {a b : List Nat} (ha : Bits a) (hb : Bits b) : Bits (a ++ b) := fun x hx => by
  rcases List.mem_append.1 hx with h | h
  · exact ha x h
  · exact hb x h
theorem bitsG_ok (s : ByteArray) : ∀ n i, Bits (bitsG s n i)
  | 0, _ => fun x hx => by cases hx
  | n + 1, i => bits_app (bits8_ok _) (bitsG_ok s n (i + 1))
theorem bitsG_len (s : ByteArray) : ∀ n i, (bitsG s n i).length = 8 * n
  | 0, _ => rfl
  | n + 1, i => by rw [bitsG, List.length_append, bitsG_len s n]; show 8 + 8 * n = _; omega
theorem remG_lt (s : ByteArray) : ∀ n i {r : Nat}, r < 128 → remG s n i r < 128
  | 0, _, _, h => h
  | n + 1, i, _, h => remG_lt s n (i + 1) (byteS_lt h (byteAt_lt _ _))
theorem remG_fold (s : ByteArray) : ∀ n i {r : Nat}, r < 128 → remG s n i r = foldC (bitsG s n i) r
  | 0, _, _, _ => rfl
  | n + 1, i, r, h => by
    rw [remG, bitsG, foldC_app, remG_fold s n (i + 1) (byteS_lt h (byteAt_lt _ _)), byteS_fold h (byteAt_lt _ _)]
theorem remN_lt (s : ByteArray) : remN s < 128 := remG_lt s _ _ (by omega)
/-- The program's remainder is that of the bits with seven zeros behind them. -/
theorem remN_fold (s : ByteArray) : remN s = fold (bitsG s s.size 0 ++ [0, 0, 0, 0, 0, 0, 0]) 0 := by
  unfold remN
  have h0 : z7 0 = 0 := by rw [z7_eq]; decide +kernel
  rw [remG_fold s _ _ (by omega), fold_app, ← z7_eq, z7_fold _ (bitsG_ok s _ _) (by omega), h0]

/-! ### the powers of x -/
def sh1 (p : Nat) : Nat := if 2 * p % 256 < 128 then 2 * p % 256 else (2 * p % 256) ^^^ 197
def powX : Nat → Nat
  | 0 => 1
  | k + 1 => sh1 (powX k)
def powL : List Nat := (List.range 63).map powX
theorem powX_lt : ∀ k : Fin 63, powX k.val < 128 := by decide +kernel
theorem powX_ne0 : ∀ k : Fin 63, powX k.val ≠ 0 := by decide +kernel
theorem powX_inj : ∀ j k : Fin 63, powX j.val = powX k.val → j.val = k.val := by decide +kernel
/-- A single bit, k places from the end. -/
theorem unit_fold : ∀ k : Fin 63, fold (1 :: List.replicate k.val 0) 0 = powX k.val := by decide +kernel
theorem zeros_fold : ∀ n, fold (List.replicate n 0) 0 = 0
  | 0 => rfl
  | n + 1 => by rw [List.replicate_succ, fold_cons, step_00]; exact zeros_fold n
/-- parity -/
def par7 (r : Nat) : Nat := (r / 64 + r / 32 + r / 16 + r / 8 + r / 4 + r / 2 + r) % 2
theorem powX_par : ∀ k : Fin 63, par7 (powX k.val) = 1 := by decide +kernel
theorem par7_xor : ∀ a b : Fin 128, par7 (a.val ^^^ b.val) = (par7 a.val + par7 b.val) % 2 := by decide +kernel
end Go.Am.Clt
