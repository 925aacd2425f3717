/-
  Channels: what is got from a frame's encoding (the plain laws of TmfL2, for this seat); a mux's frames. Own work.
-/
import Derived.Test.YtlgpalokjckdcaaChaSb
import Derived.Test.YtlgpalokjckdcaaChaGH
namespace Go.Am.Tmf
open Go Go.Am Go.Am.Lib Go.Proofs
open Go.Am.Pkt (G0 codeOf mixed none_ok by2)
set_option maxRecDepth 100000

theorem hd_byte {cr ch ma co fi : Nat} {d : ByteArray} {wd : Nat} (j : Nat) : byteAt (hdT cr ch ma co fi d wd) j = if j < 6 + d.size then (if j < 6 then byteAt ⟨⟨by2 (cr * 64 + ch * 8) ++ (by2 (ma * 256 + co) ++ by2 fi)⟩⟩ j else byteAt d (j - 6)) else byteAt ⟨⟨by2 (wd / 65536) ++ by2 (wd % 65536)⟩⟩ (j - (6 + d.size)) := by
  unfold hdT
  rw [byteAt_append, byteAt_append, ByteArray.size_append, size6]
theorem enc_byte {cr ch ma co fi : Nat} {d : ByteArray} {wd : Nat} (j : Nat) : byteAt (encT cr ch ma co fi d wd) j = if j < 10 + d.size then byteAt (hdT cr ch ma co fi d wd) j else byteAt ⟨⟨by2 (crc (hdT cr ch ma co fi d wd))⟩⟩ (j - (10 + d.size)) := by
  unfold encT
  rw [byteAt_append, hdT_size]
theorem enc_two {cr ch ma co fi : Nat} {d : ByteArray} {wd : Nat} (h : cr * 64 + ch * 8 < 65536) : by2N (encT cr ch ma co fi d wd) 0 = cr * 64 + ch * 8 := by
  unfold by2N
  rw [encT_at (by omega), encT_at (by omega), two_at0 h, two_at1]; omega
theorem enc_ma {cr ch ma co fi : Nat} {d : ByteArray} {wd : Nat} (h : ma < 256) (h2 : co < 256) : byteAt (encT cr ch ma co fi d wd) 2 = ma ∧ byteAt (encT cr ch ma co fi d wd) 3 = co := by
  constructor
  · rw [encT_at (by omega), show (2 : Nat) = 0 + 2 from rfl, two_off, two_at0 (by omega)]; omega
  · rw [encT_at (by omega), show (3 : Nat) = 1 + 2 from rfl, two_off, two_at1]; omega
theorem enc_fi {cr ch ma co fi : Nat} {d : ByteArray} {wd : Nat} (h : fi < 65536) : by2N (encT cr ch ma co fi d wd) 4 = fi := by
  unfold by2N
  rw [encT_at (by omega), encT_at (by omega), show (4 : Nat) = 0 + 2 + 2 from rfl, show (0 + 2 + 2 + 1 : Nat) = 1 + 2 + 2 from rfl, two_off, two_off, two_off, two_off, two_nil fi, two_at0 h, two_at1]; omega
theorem enc_dat {cr ch ma co fi : Nat} {d : ByteArray} {wd : Nat} : datT (encT cr ch ma co fi d wd) = d := by
  refine bytes_eq ?_ fun j hj => ?_
  · unfold datT; rw [ByteArray.size_extract, encT_size]; omega
  · unfold datT at hj ⊢
    rw [ByteArray.size_extract, encT_size] at hj
    rw [byteAt_cut, if_pos (by rw [encT_size]; omega), enc_byte, if_pos (by omega), hd_byte, if_pos (by omega), if_neg (by omega)]
    congr 1; omega
theorem enc_wd {cr ch ma co fi : Nat} {d : ByteArray} {wd : Nat} (h : wd < 2 ^ 32) : gWd (encT cr ch ma co fi d wd) = wd := by
  unfold gWd by2N
  rw [encT_size]
  have e : ∀ k, k < 4 → byteAt (encT cr ch ma co fi d wd) (6 + d.size + k) = byteAt ⟨⟨by2 (wd / 65536) ++ by2 (wd % 65536)⟩⟩ k := by
    intro k hk
    rw [enc_byte, if_pos (by omega), hd_byte, if_neg (by omega)]
    congr 1; omega
  rw [show 12 + d.size - 6 = 6 + d.size + 0 by omega, show 6 + d.size + 0 + 1 = 6 + d.size + 1 by omega, show 12 + d.size - 4 = 6 + d.size + 2 by omega, show 6 + d.size + 2 + 1 = 6 + d.size + 3 by omega,
    e 0 (by omega), e 1 (by omega), e 2 (by omega), e 3 (by omega), show (2 : Nat) = 0 + 2 from rfl, show (3 : Nat) = 1 + 2 from rfl, two_off, two_off, two_nil (wd % 65536), two_at0 (by omega), two_at1, two_at0 (by omega), two_at1]
  omega
theorem enc_hd {cr ch ma co fi : Nat} {d : ByteArray} {wd : Nat} : (encT cr ch ma co fi d wd).extract 0 ((encT cr ch ma co fi d wd).size - 2) = hdT cr ch ma co fi d wd := by
  refine bytes_eq ?_ fun j hj => ?_
  · rw [ByteArray.size_extract, encT_size, hdT_size]; omega
  · rw [ByteArray.size_extract, encT_size] at hj
    rw [byteAt_cut, if_pos (by rw [encT_size]; omega), enc_byte, if_pos (by omega), Nat.zero_add]
theorem enc_crc {cr ch ma co fi : Nat} {d : ByteArray} {wd : Nat} : by2N (encT cr ch ma co fi d wd) ((encT cr ch ma co fi d wd).size - 2) = crc (hdT cr ch ma co fi d wd) := by
  have hc := crc_lt (hdT cr ch ma co fi d wd)
  unfold by2N
  rw [encT_size, enc_byte, if_neg (by omega), enc_byte, if_neg (by omega), show 12 + d.size - 2 - (10 + d.size) = 0 by omega, show 12 + d.size - 2 + 1 - (10 + d.size) = 1 by omega, two_nil, two_at0 hc, two_at1]
  omega
theorem getTE_0 {s : ByteArray} : getTE s = 0 ↔ (44 ≤ s.size ∧ s.size ≤ 212 ∧ by2N s (s.size - 2) = crc (s.extract 0 (s.size - 2)) ∧ vldS s = true) := by
  unfold getTE
  constructor
  · intro h
    split at h
    · cases h
    split at h
    · cases h
    split at h
    · cases h
    rename_i h1 h2 h3
    exact ⟨by omega, by omega, by omega, by simpa using h3⟩
  · rintro ⟨h1, h2, h3, h4⟩
    rw [if_neg (by omega), if_neg (by omega), if_neg (by rw [h4]; decide)]
/-- Get of what Put returns. -/
theorem enc_get {cr ch ma co fi : Nat} {d : ByteArray} {wd : Nat} (hv : vldT cr ch ma co fi d.size = true) : getTE (encT cr ch ma co fi d wd) = 0 := by
  obtain ⟨⟨_, a1⟩, ⟨_, a2⟩, ⟨_, a3⟩, ⟨_, a4⟩, ⟨a5, a6⟩, a7⟩ := vldT_iff.1 hv
  have h0 := enc_two (cr := cr) (ch := ch) (ma := ma) (co := co) (fi := fi) (d := d) (wd := wd) (by omega)
  obtain ⟨h1, h2⟩ := enc_ma (cr := cr) (ch := ch) (ma := ma) (co := co) (fi := fi) (d := d) (wd := wd) (by omega) (by omega)
  have h3 := enc_fi (cr := cr) (ch := ch) (ma := ma) (co := co) (fi := fi) (d := d) (wd := wd) (by omega)
  refine getTE_0.2 ⟨by rw [encT_size]; omega, by rw [encT_size]; omega, by rw [enc_crc, enc_hd], ?_⟩
  unfold vldS
  rw [h0, h1, h2, h3, enc_dat, decide_eq_true (show (cr * 64 + ch * 8) % 8 = 0 by omega), Bool.true_and, show (cr * 64 + ch * 8) / 64 = cr by omega, show (cr * 64 + ch * 8) / 8 % 8 = ch by omega]
  exact hv
end Go.Am.Tmf
