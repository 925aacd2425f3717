/-
  Cltu: the reference's near. Own work.
-/
import Derived.Test.YtoeepogoogcbiaaDoorCltAR
namespace Go.Am.Clt
open Go Go.Am Go.Am.Lib Go.Lib Go.Proofs Go.RowKit
set_option maxRecDepth 100000

def sumB (s : ByteArray) : Nat → Nat
  | 0 => 0
  | n + 1 => sumB s n + bitN s n
theorem sumB_le (s : ByteArray) : ∀ n, sumB s n ≤ n
  | 0 => Nat.le_refl _
  | n + 1 => by have := sumB_le s n; have := bitN_lt s n; rw [sumB]; omega
def two (a b : UInt8) : ByteArray := ⟨#[a, b]⟩
def pop8 (n : Nat) : Nat := n / 128 % 2 + n / 64 % 2 + n / 32 % 2 + n / 16 % 2 + n / 8 % 2 + n / 4 % 2 + n / 2 % 2 + n % 2
theorem sum_two (a b : UInt8) : sumB (two a b) 16 = pop8 a.toNat + pop8 b.toNat := by
  have h0 : byteAt (two a b) 0 = a.toNat := rfl
  have h1 : byteAt (two a b) 1 = b.toNat := rfl
  simp only [sumB, bitN, h0, h1, Nat.reduceDiv, Nat.reduceMod, Nat.reduceSub, Nat.reducePow]
  unfold pop8
  simp only [Nat.div_one]
  omega
theorem low_bit : ∀ n : Fin 256, (n.val &&& (n.val - 1) = 0 ↔ pop8 n.val ≤ 1) ∧ (pop8 n.val = 0 ↔ n.val = 0) := by decide +kernel
theorem bits_or (a b : Int) : bits BinOp.or IntKind.u16 a b = iOr .u16 a b := rfl
theorem bits_and (a b : Int) : bits BinOp.and IntKind.u16 a b = iAnd .u16 a b := rfl
theorem bits_xor (a b : Int) : bits BinOp.xor IntKind.u8 a b = iXor .u8 a b := rfl
theorem cap16 : cap .u16 = 65536 := by decide
theorem wrongN {l x : Nat} (hl : l < 256) (hx : x < 256) : wrongV l x = (((l ^^^ 235) * 256 + (x ^^^ 144) : Nat) : Int) := by
  have h1 : l ^^^ 235 < 256 := Nat.xor_lt_two_pow (n := 8) hl (by omega)
  have h2 : x ^^^ 144 < 256 := Nat.xor_lt_two_pow (n := 8) hx (by omega)
  unfold wrongV
  rw [bits_or, bits_xor, bits_xor, show (235 : Int) = ((235 : Nat) : Int) from rfl, show (144 : Int) = ((144 : Nat) : Int) from rfl, iXor_cast .u8 (by rw [cap8]; exact hl) (by rw [cap8]; omega), iXor_cast .u8 (by rw [cap8]; exact hx) (by rw [cap8]; omega),
    wrap_cast .u16 (by rw [cap16]; omega), wrap_cast .u16 (by rw [cap16]; omega), show (((l ^^^ 235 : Nat) : Int) * 256) = (((l ^^^ 235) * 256 : Nat) : Int) from by push_cast; rfl, wrap_cast .u16 (by rw [cap16]; omega), iOr_cast .u16 (by rw [cap16]; omega) (by rw [cap16]; omega)]
  congr 1
  have := Nat.two_pow_add_eq_or_of_lt (i := 8) h2 (l ^^^ 235)
  rw [Nat.mul_comm (l ^^^ 235) 256]
  exact this.symm
theorem and_hi {a b c d : Nat} (hb : b < 256) (hd : d < 256) : (a * 256 + b) &&& (c * 256 + d) = (a &&& c) * 256 + (b &&& d) := by
  have hbd : b &&& d < 256 := Nat.lt_of_le_of_lt Nat.and_le_left hb
  have e : ∀ (u v : Nat), v < 256 → u * 256 + v = 2 ^ 8 * u ||| v := fun u v hv => by
    rw [← Nat.two_pow_add_eq_or_of_lt (i := 8) hv u, Nat.mul_comm]
  apply Nat.eq_of_testBit_eq
  intro i
  rw [Nat.testBit_and, Nat.mul_comm a 256, Nat.mul_comm c 256, Nat.mul_comm (a &&& c) 256, show (256 : Nat) = 2 ^ 8 from rfl, Nat.testBit_two_pow_mul_add a hb, Nat.testBit_two_pow_mul_add c hd, Nat.testBit_two_pow_mul_add (a &&& c) hbd]
  split
  · rw [Nat.testBit_and]
  · rw [Nat.testBit_and]
theorem near_pop {l x : Nat} (hl : l < 256) (hx : x < 256) : nearV l x = decide (pop8 (l ^^^ 235) + pop8 (x ^^^ 144) ≤ 1) := by
  have h1 : l ^^^ 235 < 256 := Nat.xor_lt_two_pow (n := 8) hl (by omega)
  have h2 : x ^^^ 144 < 256 := Nat.xor_lt_two_pow (n := 8) hx (by omega)
  unfold nearV
  rw [wrongN hl hx]
  generalize l ^^^ 235 = a at h1
  generalize x ^^^ 144 = b at h2
  have ha := low_bit ⟨a, h1⟩
  have hb := low_bit ⟨b, h2⟩
  dsimp only at ha hb
  congr 1
  rw [bits_and]
  rcases Nat.eq_zero_or_pos b with hb0 | hb0
  · rcases Nat.eq_zero_or_pos a with ha0 | ha0
    · subst ha0 hb0
      simp only [eq_iff_iff]
      exact ⟨fun _ => by decide, fun _ => by decide +kernel⟩
    · subst hb0
      rw [show (((a * 256 + 0 : Nat) : Int) - 1) = (((a - 1) * 256 + 255 : Nat) : Int) from by omega, wrap_cast .u16 (by rw [cap16]; omega), iAnd_cast .u16 (by rw [cap16]; omega) (by rw [cap16]; omega), and_hi (by omega) (by omega)]
      rw [Nat.zero_and, Nat.add_zero, eq_iff_iff]
      have hp : pop8 0 = 0 := rfl
      rw [hp, Nat.add_zero, ← ha.1]
      omega
  · rw [show (((a * 256 + b : Nat) : Int) - 1) = ((a * 256 + (b - 1) : Nat) : Int) from by omega, wrap_cast .u16 (by rw [cap16]; omega), iAnd_cast .u16 (by rw [cap16]; omega) (by rw [cap16]; omega), and_hi h2 (by omega), Nat.and_self, eq_iff_iff]
    have hbp : pop8 b ≠ 0 := fun e => by have := hb.2.1 e; omega
    constructor
    · intro h
      have h3 : a = 0 ∧ b &&& (b - 1) = 0 := by omega
      rw [hb.1] at h3
      rw [h3.1]
      show 0 + pop8 b ≤ 1
      omega
    · intro h
      have h3 : pop8 a = 0 := by omega
      have h4 := ha.2.1 h3
      have h5 := hb.1.2 (by omega)
      rw [h4, h5]; rfl
end Go.Am.Clt

namespace Go.Am.Clt
open Go Go.Am Go.Am.Lib Go.Lib Go.Proofs Go.RowKit
set_option maxRecDepth 100000

theorem bit_at {W0 : World} (hG : GOk G0 W0) {w : World} (hold : Below W0.heap.size W0 w) (s : ByteArray) (i : Nat) (hi : i < 64) (h : i / 8 < s.size) : Calls Tryd.prog 26 #[.string s, .int .i64 (i : Nat)] w fun e w' => e = .returned (.int .i64 ((bitN s i : Nat) : Int)) ∧ Below w.heap.size w w' :=
  calls_flat okBit hG (fun k hk => hold.block k hk) hold.size (args := [.string s, .int .i64 (i : Nat)]) rfl (v := .int .i64 ((bitN s i : Nat) : Int)) rfl ⟨by omega, by omega, by omega, by rw [Int.toNat_natCast]; exact ⟨rfl, rfl⟩⟩
theorem xor_u8 (a c : UInt8) : bits BinOp.xor IntKind.u8 (a.toNat : Int) (c.toNat : Int) = ((a ^^^ c).toNat : Int) := by
  rw [bits_xor, iXor_cast .u8 (by rw [cap8]; exact a.toNat_lt) (by rw [cap8]; exact c.toNat_lt), UInt8.toNat_xor]
set_option maxHeartbeats 1600000 in
theorem near_walk {W0 : World} (hG : GOk G0 W0) {w : World} (hold : Below W0.heap.size W0 w) (a b : UInt8) :
    Calls Tryd.prog 36 #[.int .u8 (a.toNat : Int), .int .u8 (b.toNat : Int)] w fun e w' => e = .returned (.bool (nearV a.toNat b.toNat)) ∧ Below w.heap.size w w' := by
  obtain ⟨x, hx⟩ : ∃ x, a ^^^ 235 = x := ⟨_, rfl⟩
  obtain ⟨y, hy⟩ : ∃ y, b ^^^ 144 = y := ⟨_, rfl⟩
  have e1 : bits BinOp.xor IntKind.u8 (a.toNat : Int) 235 = (x.toNat : Int) := by rw [← hx]; exact xor_u8 a 235
  have e2 : bits BinOp.xor IntKind.u8 (b.toNat : Int) 144 = (y.toNat : Int) := by rw [← hy]; exact xor_u8 b 144
  have hN : nearV a.toNat b.toNat = decide (sumB (two x y) 16 ≤ 1) := by
    rw [near_pop a.toNat_lt b.toNat_lt, sum_two, ← hx, ← hy, UInt8.toNat_xor, UInt8.toNat_xor]; rfl
  have HN : Hid (nearV a.toNat b.toNat = decide (sumB (two x y) 16 ≤ 1)) := hN
  obtain ⟨S, hS⟩ : ∃ S, two x y = S := ⟨_, rfl⟩
  have hSs : S.size = 2 := by rw [← hS]; rfl
  have hcv : (convert 47 9 (.slice (some ⟨w.heap.size, 0, none⟩) 2 2)).run Tryd.prog (w.alloc (.cells #[.int .u8 (x.toNat : Int), .int .u8 (y.toNat : Int)] 5)) = .ok (.string S) (w.alloc (.cells #[.int .u8 (x.toNat : Int), .int .u8 (y.toNat : Int)] 5)) := by
    have hq := run_convert_bytes_back (P := Tryd.prog) (w.alloc (.cells #[.int .u8 (x.toNat : Int), .int .u8 (y.toNat : Int)] 5)) 47 9 5 ⟨w.heap.size, 0, none⟩ 2 [x, y] Tryd.underlying47 rfl rfl (fun j hj => by
      have hc : ∀ o, (w.alloc (.cells #[.int .u8 (x.toNat : Int), .int .u8 (y.toNat : Int)] 5)).cell? ⟨w.heap.size, o, none⟩ = #[Value.int .u8 (x.toNat : Int), .int .u8 (y.toNat : Int)][o]? := fun o => cell_of (by show (w.heap.push _)[w.heap.size]? = _; rw [Array.getElem?_push_size])
      have ha : ((⟨w.heap.size, 0, none⟩ : Addr).add j) = ⟨w.heap.size, j, none⟩ := by simp [Addr.add]; intro h; exact h.symm
      rw [ha, hc]
      match j, hj with
      | 0, _ => rfl
      | 1, _ => rfl)
    rw [← hS]; exact hq
  have b0 : Below w.heap.size w (w.alloc (.cells #[.int .u8 (x.toNat : Int), .int .u8 (y.toNat : Int)] 5)) := (Below.refl _ w).alloc (Nat.le_refl _) _
  rw [hS] at HN
  clear hS hx hy hN
  go_enter Tryd.func36, Tryd.ntmps36
  go_wp2
  go_loopw [6, 7] (fun nv iv wr => ∃ (i m : Nat), nv = .int .i64 (m : Nat) ∧ iv = .int .i64 (i : Nat) ∧ i ≤ 16 ∧ Hid (m = sumB S i) ∧ m ≤ i ∧ Below w.heap.size w wr)
    (fun _ iv _ => 16 - iOf iv)
  case atStart => exact ⟨0, 0, rfl, rfl, by omega, rfl, by omega, b0⟩
  case round =>
    obtain ⟨i, m, rfl, rfl, hi, hm, hmi, hB⟩ := hrel
    rcases Nat.lt_or_ge i 16 with hlt | hge
    · have hlt' : ((i : Nat) : Int) < 16 := by omega
      have cB := bit_at hG (hold.trans (hB.mono hold.size)) S i (by omega) (by omega)
      have hb2 := bitN_lt S i
      obtain ⟨c, hc⟩ : ∃ c, bitN S i = c := ⟨_, rfl⟩
      have hm2 : Hid (m + c = sumB S (i + 1)) := by rw [← hc, hm.out]; rfl
      rw [hc] at cB hb2
      clear hcv hc hm b0
      go_wp2_with (go_at_call 26; refine cB.mono ?_)
      first | rintro e W3 rfl b3 | rintro e W3 ⟨rfl, b3⟩
      have hB3 := hB.trans (b3.mono hB.size)
      clear b3 hB cB
      go_wp2
      exact ⟨⟨i + 1, m + c, by push_cast; rfl, by push_cast; rfl, hlt, hm2, by omega, hB3⟩, by show 16 - (i + 1) < 16 - i; omega⟩
    · have hge' : ¬ ((i : Nat) : Int) < 16 := by omega
      have h16 : i = 16 := by omega
      have hr : nearV a.toNat b.toNat = decide (((m : Nat) : Int) ≤ 1) := by
        rw [HN.out, ← h16, ← hm.out]
        congr 1
        exact propext ⟨fun h => by omega, fun h => by omega⟩
      clear hcv b0
      go_wp2
      go_ret
      exact ⟨rfl, hB⟩
end Go.Am.Clt
