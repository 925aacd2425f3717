/-
  Tmframe: laws about plain values. Own work.
-/
import Derived.Test.YtkhlicfnfiopnaaTmfZ
namespace Go.Am.Tmf
open Go Go.Am Go.Am.Lib Go.Proofs
open Go.Am.Pkt (G0 codeOf mixed none_ok by2)
set_option maxRecDepth 100000

def sShownT : Spec := fun args h K => match args, h with
  | [], [] => K (.bool true) []
  | _, _ => False
theorem okShownT : SpecOk Try.prog G0 9 sShownT := by
  intro W0 hG args h K hk
  unfold sShownT at hk
  split at hk
  · exact sound_flat (args := []) (v := .bool true) rfl rfl hk fun w _ _ => shown_walk w
  · exact hk.elim
def tLawT : List (Nat × Spec) := [(9, sShownT), (10, sPutT), (11, sPutT), (12, sGetT), (13, sGetT)]
theorem tLawT_ok : AllOk Try.prog G0 tLawT := ⟨okShownT, okPutT, okRPutT, okGetT, okRGetT, trivial⟩
noncomputable def cPuts : FCfg := { mkG Try.prog G0 tLawT 31 [(0, [1]), (1, [1, 8]), (2, [2]), (3, [1, 12]), (4, [2]), (5, [1, 3, 4]), (6, [3, 4, 5, 6]), (7, [2])] [] [] [] [] [] 40 0 with hold := lookL [] }
noncomputable def bPuts (cr ch ma co fi : Int) (d : ByteArray) (wd : Int) (K : Value → AHeap → Prop) : Prop := bodyK cPuts (codeOf Try.f3) Try.f3.results.toList [frV cr ch ma co fi d wd] [] K
noncomputable def cGets : FCfg := { mkG Try.prog G0 tLawT 30 [(0, [0]), (1, [0, 8]), (2, [2]), (3, [0, 11]), (4, [2]), (5, [0, 3, 4]), (6, [3, 4, 5, 6]), (7, [2])] [] [] [] [] [] 40 0 with hold := lookL [] }
noncomputable def bGets (s : ByteArray) (K : Value → AHeap → Prop) : Prop := bodyK cGets (codeOf Try.f4) Try.f4.results.toList [.string s] [] K
noncomputable def cBackT : FCfg := { mkG Try.prog G0 tLawT 73 [(0, [1, 2]), (1, [1, 2, 13]), (2, [4]), (3, [1, 2, 22]), (4, [4]), (5, [1, 2, 5, 6]), (6, [1, 2, 5, 29]), (7, [1, 2, 5, 7, 8]), (8, [1, 50]), (9, [4]), (10, [1, 6, 9]), (11, [1, 9, 57]), (12, [4]), (13, [1, 10, 11]), (14, [4])] [] [] [] [] [] 40 0 with hold := lookL [] }
noncomputable def bBackT (cr ch ma co fi : Int) (d : ByteArray) (wd : Int) (t : ByteArray) (K : Value → AHeap → Prop) : Prop := bodyK cBackT (codeOf Try.f5) Try.f5.results.toList [frV cr ch ma co fi d wd, .string t] [] K
theorem bPuts_eq (cr ch ma co fi : Int) (d : ByteArray) (wd : Int) (K : Value → AHeap → Prop) : bPuts cr ch ma co fi d wd K = (∀ x1 : Int, ((x1 = (((ByteArray.size d) : Nat) : Int)) → (cond (decide ((x1 > (5000 : Int)))) (K (Value.bool Bool.true) []) (((ByteArray.size d) < (4611686018427387904 : Nat)) ∧ (((0 : Int) ≤ wd) ∧ ((wd < (4294967296 : Int)) ∧ (∀ x2 : ByteArray, ((x2 = (putT cr ch ma co fi d wd)) → (∀ x3 : Int, ((x3 = (putTE cr ch ma co fi d)) → (((ByteArray.size d) < (4611686018427387904 : Nat)) ∧ (((0 : Int) ≤ wd) ∧ ((wd < (4294967296 : Int)) ∧ (∀ x4 : ByteArray, ((x4 = (putT cr ch ma co fi d wd)) → (∀ x5 : Int, ((x5 = (putTE cr ch ma co fi d)) → (cond (strEq x2 x4) (K (Value.bool (decide ((x3 = x5)))) []) (K (Value.bool Bool.false) []))))))))))))))))))) := by
  kernel_rfl
theorem bGets_eq (s : ByteArray) (K : Value → AHeap → Prop) : bGets s K = (∀ x1 : Int, ((x1 = (((ByteArray.size s) : Nat) : Int)) → (cond (decide ((x1 > (5000 : Int)))) (K (Value.bool Bool.true) []) (((ByteArray.size s) < (4611686018427387904 : Nat)) ∧ (∀ x2 : Int, ((x2 = (getTE s)) → (((ByteArray.size s) < (4611686018427387904 : Nat)) ∧ (∀ x3 : Int, ((x3 = (getTE s)) → (cond ((decide (((okG s ((by2N s 0) / (64 : Nat) : Nat)) = (okG s ((by2N s 0) / (64 : Nat) : Nat))))) && ((decide (((okG s (((by2N s 0) / (8 : Nat) : Nat) % (8 : Nat) : Nat)) = (okG s (((by2N s 0) / (8 : Nat) : Nat) % (8 : Nat) : Nat))))) && ((decide (((okG s (Lib.byteAt s (2 : Nat))) = (okG s (Lib.byteAt s (2 : Nat)))))) && ((decide (((okG s (Lib.byteAt s (3 : Nat))) = (okG s (Lib.byteAt s (3 : Nat)))))) && ((decide (((okG s (by2N s (4 : Nat))) = (okG s (by2N s (4 : Nat)))))) && ((strEq (gDa s) (gDa s)) && ((decide (((okG s (gWd s)) = (okG s (gWd s))))) && Bool.true))))))) (K (Value.bool (decide ((x2 = x3)))) []) (K (Value.bool Bool.false) []))))))))))) := by
  kernel_rfl
theorem bBackT_eq (cr ch ma co fi : Int) (d : ByteArray) (wd : Int) (t : ByteArray) (K : Value → AHeap → Prop) : bBackT cr ch ma co fi d wd t K = (∀ x1 : Int, ((x1 = (((ByteArray.size d) : Nat) : Int)) → (cond (decide ((x1 > (5000 : Int)))) (K (Value.bool Bool.true) []) (∀ x2 : Int, ((x2 = (((ByteArray.size t) : Nat) : Int)) → (cond (decide ((x2 > (5000 : Int)))) (K (Value.bool Bool.true) []) (((ByteArray.size d) < (4611686018427387904 : Nat)) ∧ (((0 : Int) ≤ wd) ∧ ((wd < (4294967296 : Int)) ∧ (∀ x3 : ByteArray, ((x3 = (putT cr ch ma co fi d wd)) → (∀ x4 : Int, ((x4 = (putTE cr ch ma co fi d)) → (cond (decide ((x4 = (0 : Int)))) (((ByteArray.size x3) < (4611686018427387904 : Nat)) ∧ (∀ x8 : Int, ((x8 = (getTE x3)) → (cond (!(decide ((x8 = (0 : Int))))) (K (Value.bool Bool.false) []) (cond (!((decide (((okG x3 ((by2N x3 0) / (64 : Nat) : Nat)) = cr))) && ((decide (((okG x3 (((by2N x3 0) / (8 : Nat) : Nat) % (8 : Nat) : Nat)) = ch))) && ((decide (((okG x3 (Lib.byteAt x3 (2 : Nat))) = ma))) && ((decide (((okG x3 (Lib.byteAt x3 (3 : Nat))) = co))) && ((decide (((okG x3 (by2N x3 (4 : Nat))) = fi))) && ((strEq (gDa x3) d) && ((decide (((okG x3 (gWd x3)) = wd))) && Bool.true)))))))) (K (Value.bool Bool.false) []) (∀ x9 : Int, ((x9 = (((ByteArray.size x3) : Nat) : Int)) → (∀ x10 : Int, ((x10 = (((ByteArray.size d) : Nat) : Int)) → (∀ x11 : Int, ((x11 = (iAdd IntKind.i64 x10 (12 : Int))) → (cond (!(decide ((x9 = x11)))) (K (Value.bool Bool.false) []) (((ByteArray.size t) < (4611686018427387904 : Nat)) ∧ (∀ x12 : Int, ((x12 = (getTE t)) → (cond (!(decide ((x12 = (0 : Int))))) (K (Value.bool ((decide (((okG t ((by2N t 0) / (64 : Nat) : Nat)) = (0 : Int)))) && ((decide (((okG t (((by2N t 0) / (8 : Nat) : Nat) % (8 : Nat) : Nat)) = (0 : Int)))) && ((decide (((okG t (Lib.byteAt t (2 : Nat))) = (0 : Int)))) && ((decide (((okG t (Lib.byteAt t (3 : Nat))) = (0 : Int)))) && ((decide (((okG t (by2N t (4 : Nat))) = (0 : Int)))) && ((strEq (gDa t) (ByteArray.mk (Array.mk []))) && ((decide (((okG t (gWd t)) = (0 : Int)))) && Bool.true)))))))) []) (((ByteArray.size (gDa t)) < (4611686018427387904 : Nat)) ∧ (((0 : Int) ≤ (okG t (gWd t))) ∧ (((okG t (gWd t)) < (4294967296 : Int)) ∧ (∀ x13 : ByteArray, ((x13 = (putT (okG t ((by2N t 0) / (64 : Nat) : Nat)) (okG t (((by2N t 0) / (8 : Nat) : Nat) % (8 : Nat) : Nat)) (okG t (Lib.byteAt t (2 : Nat))) (okG t (Lib.byteAt t (3 : Nat))) (okG t (by2N t (4 : Nat))) (gDa t) (okG t (gWd t)))) → (∀ x14 : Int, ((x14 = (putTE (okG t ((by2N t 0) / (64 : Nat) : Nat)) (okG t (((by2N t 0) / (8 : Nat) : Nat) % (8 : Nat) : Nat)) (okG t (Lib.byteAt t (2 : Nat))) (okG t (Lib.byteAt t (3 : Nat))) (okG t (by2N t (4 : Nat))) (gDa t))) → (cond (decide ((x14 = (0 : Int)))) (K (Value.bool (strEq x13 t)) []) (K (Value.bool Bool.false) []))))))))))))))))))))))))) (((ByteArray.size t) < (4611686018427387904 : Nat)) ∧ (∀ x5 : Int, ((x5 = (getTE t)) → (cond (!(decide ((x5 = (0 : Int))))) (K (Value.bool ((decide (((okG t ((by2N t 0) / (64 : Nat) : Nat)) = (0 : Int)))) && ((decide (((okG t (((by2N t 0) / (8 : Nat) : Nat) % (8 : Nat) : Nat)) = (0 : Int)))) && ((decide (((okG t (Lib.byteAt t (2 : Nat))) = (0 : Int)))) && ((decide (((okG t (Lib.byteAt t (3 : Nat))) = (0 : Int)))) && ((decide (((okG t (by2N t (4 : Nat))) = (0 : Int)))) && ((strEq (gDa t) (ByteArray.mk (Array.mk []))) && ((decide (((okG t (gWd t)) = (0 : Int)))) && Bool.true)))))))) []) (((ByteArray.size (gDa t)) < (4611686018427387904 : Nat)) ∧ (((0 : Int) ≤ (okG t (gWd t))) ∧ (((okG t (gWd t)) < (4294967296 : Int)) ∧ (∀ x6 : ByteArray, ((x6 = (putT (okG t ((by2N t 0) / (64 : Nat) : Nat)) (okG t (((by2N t 0) / (8 : Nat) : Nat) % (8 : Nat) : Nat)) (okG t (Lib.byteAt t (2 : Nat))) (okG t (Lib.byteAt t (3 : Nat))) (okG t (by2N t (4 : Nat))) (gDa t) (okG t (gWd t)))) → (∀ x7 : Int, ((x7 = (putTE (okG t ((by2N t 0) / (64 : Nat) : Nat)) (okG t (((by2N t 0) / (8 : Nat) : Nat) % (8 : Nat) : Nat)) (okG t (Lib.byteAt t (2 : Nat))) (okG t (Lib.byteAt t (3 : Nat))) (okG t (by2N t (4 : Nat))) (gDa t))) → (cond (decide ((x7 = (0 : Int)))) (K (Value.bool (strEq x6 t)) []) (K (Value.bool Bool.false) []))))))))))))))))))))))))))) := by
  kernel_rfl
end Go.Am.Tmf

namespace Go.Am.Tmf
open Go Go.Am Go.Am.Lib Go.Proofs
open Go.Am.Pkt (G0 codeOf mixed none_ok by2)
set_option maxRecDepth 100000

theorem hd_byte {cr ch ma co fi : Nat} {d : ByteArray} {wd : Nat} (j : Nat) : byteAt (hdT cr ch ma co fi d wd) j = if j < 6 + d.size then (if j < 6 then byteAt ⟨⟨by2 (cr * 64 + ch * 8) ++ (by2 (ma * 256 + co) ++ by2 fi)⟩⟩ j else byteAt d (j - 6)) else byteAt ⟨⟨by2 (wd / 65536) ++ by2 (wd % 65536)⟩⟩ (j - (6 + d.size)) := by
  unfold hdT
  rw [byteAt_append, byteAt_append, ByteArray.size_append, size6]
theorem enc_byte {cr ch ma co fi : Nat} {d : ByteArray} {wd : Nat} (j : Nat) : byteAt (encT cr ch ma co fi d wd) j = if j < 10 + d.size then byteAt (hdT cr ch ma co fi d wd) j else byteAt ⟨⟨by2 (crc (hdT cr ch ma co fi d wd))⟩⟩ (j - (10 + d.size)) := by
  unfold encT
  rw [byteAt_append, hdT_size]
theorem enc_two {cr ch ma co fi : Nat} {d : ByteArray} {wd : Nat} (h : cr * 64 + ch * 8 < 65536) : by2N (encT cr ch ma co fi d wd) 0 = cr * 64 + ch * 8 := by
  unfold by2N
  rw [encT_at (by omega), encT_at (by omega), two_at0 h, two_at1]; omega
theorem enc_ma {cr ch ma co fi : Nat} {d : ByteArray} {wd : Nat} (h : ma < 256) (h2 : co < 256) : byteAt (encT cr ch ma co fi d wd) 2 = ma ∧ byteAt (encT cr ch ma co fi d wd) 3 = co := by
  constructor
  · rw [encT_at (by omega), show (2 : Nat) = 0 + 2 from rfl, two_off, two_at0 (by omega)]; omega
  · rw [encT_at (by omega), show (3 : Nat) = 1 + 2 from rfl, two_off, two_at1]; omega
theorem enc_fi {cr ch ma co fi : Nat} {d : ByteArray} {wd : Nat} (h : fi < 65536) : by2N (encT cr ch ma co fi d wd) 4 = fi := by
  unfold by2N
  rw [encT_at (by omega), encT_at (by omega), show (4 : Nat) = 0 + 2 + 2 from rfl, show (0 + 2 + 2 + 1 : Nat) = 1 + 2 + 2 from rfl, two_off, two_off, two_off, two_off, two_nil fi, two_at0 h, two_at1]; omega
theorem enc_dat {cr ch ma co fi : Nat} {d : ByteArray} {wd : Nat} : datT (encT cr ch ma co fi d wd) = d := by
  refine bytes_eq ?_ fun j hj => ?_
  · unfold datT; rw [ByteArray.size_extract, encT_size]; omega
  · unfold datT at hj ⊢
    rw [ByteArray.size_extract, encT_size] at hj
    rw [byteAt_cut, if_pos (by rw [encT_size]; omega), enc_byte, if_pos (by omega), hd_byte, if_pos (by omega), if_neg (by omega)]
    congr 1; omega
theorem enc_wd {cr ch ma co fi : Nat} {d : ByteArray} {wd : Nat} (h : wd < 2 ^ 32) : gWd (encT cr ch ma co fi d wd) = wd := by
  unfold gWd by2N
  rw [encT_size]
  have e : ∀ k, k < 4 → byteAt (encT cr ch ma co fi d wd) (6 + d.size + k) = byteAt ⟨⟨by2 (wd / 65536) ++ by2 (wd % 65536)⟩⟩ k := by
    intro k hk
    rw [enc_byte, if_pos (by omega), hd_byte, if_neg (by omega)]
    congr 1; omega
  rw [show 12 + d.size - 6 = 6 + d.size + 0 by omega, show 6 + d.size + 0 + 1 = 6 + d.size + 1 by omega, show 12 + d.size - 4 = 6 + d.size + 2 by omega, show 6 + d.size + 2 + 1 = 6 + d.size + 3 by omega,
    e 0 (by omega), e 1 (by omega), e 2 (by omega), e 3 (by omega), show (2 : Nat) = 0 + 2 from rfl, show (3 : Nat) = 1 + 2 from rfl, two_off, two_off, two_nil (wd % 65536), two_at0 (by omega), two_at1, two_at0 (by omega), two_at1]
  omega
theorem enc_hd {cr ch ma co fi : Nat} {d : ByteArray} {wd : Nat} : (encT cr ch ma co fi d wd).extract 0 ((encT cr ch ma co fi d wd).size - 2) = hdT cr ch ma co fi d wd := by
  refine bytes_eq ?_ fun j hj => ?_
  · rw [ByteArray.size_extract, encT_size, hdT_size]; omega
  · rw [ByteArray.size_extract, encT_size] at hj
    rw [byteAt_cut, if_pos (by rw [encT_size]; omega), enc_byte, if_pos (by omega), Nat.zero_add]
theorem enc_crc {cr ch ma co fi : Nat} {d : ByteArray} {wd : Nat} : by2N (encT cr ch ma co fi d wd) ((encT cr ch ma co fi d wd).size - 2) = crc (hdT cr ch ma co fi d wd) := by
  have hc := crc_lt (hdT cr ch ma co fi d wd)
  unfold by2N
  rw [encT_size, enc_byte, if_neg (by omega), enc_byte, if_neg (by omega), show 12 + d.size - 2 - (10 + d.size) = 0 by omega, show 12 + d.size - 2 + 1 - (10 + d.size) = 1 by omega, two_nil, two_at0 hc, two_at1]
  omega
theorem getTE_0 {s : ByteArray} : getTE s = 0 ↔ (44 ≤ s.size ∧ s.size ≤ 212 ∧ by2N s (s.size - 2) = crc (s.extract 0 (s.size - 2)) ∧ vldS s = true) := by
  unfold getTE
  constructor
  · intro h
    split at h
    · cases h
    split at h
    · cases h
    split at h
    · cases h
    rename_i h1 h2 h3
    exact ⟨by omega, by omega, by omega, by simpa using h3⟩
  · rintro ⟨h1, h2, h3, h4⟩
    rw [if_neg (by omega), if_neg (by omega), if_neg (by rw [h4]; decide)]
/-- Get of what Put returns. -/
theorem enc_get {cr ch ma co fi : Nat} {d : ByteArray} {wd : Nat} (hv : vldT cr ch ma co fi d.size = true) : getTE (encT cr ch ma co fi d wd) = 0 := by
  obtain ⟨⟨_, a1⟩, ⟨_, a2⟩, ⟨_, a3⟩, ⟨_, a4⟩, ⟨a5, a6⟩, a7⟩ := vldT_iff.1 hv
  have h0 := enc_two (cr := cr) (ch := ch) (ma := ma) (co := co) (fi := fi) (d := d) (wd := wd) (by omega)
  obtain ⟨h1, h2⟩ := enc_ma (cr := cr) (ch := ch) (ma := ma) (co := co) (fi := fi) (d := d) (wd := wd) (by omega) (by omega)
  have h3 := enc_fi (cr := cr) (ch := ch) (ma := ma) (co := co) (fi := fi) (d := d) (wd := wd) (by omega)
  refine getTE_0.2 ⟨by rw [encT_size]; omega, by rw [encT_size]; omega, by rw [enc_crc, enc_hd], ?_⟩
  unfold vldS
  rw [h0, h1, h2, h3, enc_dat, decide_eq_true (show (cr * 64 + ch * 8) % 8 = 0 by omega), Bool.true_and, show (cr * 64 + ch * 8) / 64 = cr by omega, show (cr * 64 + ch * 8) / 8 % 8 = ch by omega]
  exact hv
/-- Put of what Get accepts. -/
theorem get_put {t : ByteArray} (h : getTE t = 0) : putTE (okG t (by2N t 0 / 64)) (okG t (by2N t 0 / 8 % 8)) (okG t (byteAt t 2)) (okG t (byteAt t 3)) (okG t (by2N t 4)) (gDa t) = 0 ∧
    putT (okG t (by2N t 0 / 64)) (okG t (by2N t 0 / 8 % 8)) (okG t (byteAt t 2)) (okG t (byteAt t 3)) (okG t (by2N t 4)) (gDa t) (okG t (gWd t)) = t := by
  obtain ⟨h1, h2, h3, h4⟩ := getTE_0.1 h
  unfold vldS at h4
  simp only [Bool.and_eq_true, decide_eq_true_eq] at h4
  have e : ∀ n, okG t n = ((n : Nat) : Int) := fun n => if_pos h
  have ed : gDa t = datT t := if_pos h
  unfold putTE putT
  simp only [e, ed]
  rw [h4.2, if_pos rfl, if_pos rfl]
  exact ⟨rfl, (encT_back h1 h3).2 h4.1⟩
def sPutsL : Spec := fun args h K => match args, h with
  | [.agg ⟨[.int .i64 _, .int .i64 _, .int .i64 _, .int .i64 _, .int .i64 _, .string _, .int .u32 wd]⟩], [] => 0 ≤ wd ∧ wd < 2 ^ 32 ∧ K (.bool true) []
  | _, _ => False
theorem okPuts : SpecOk Try.prog G0 3 sPutsL :=
  spec2 mixed tLawT_ok Try.func3 (by kernel_rfl : Try.f3.body = some (codeOf Try.f3)) cPuts rfl rfl rfl (by kernel_rfl) (ids := []) (by kernel_rfl) trivial (by
    intro args h K hk
    unfold sPutsL at hk
    split at hk
    · rename_i cr ch ma co fi d wd
      obtain ⟨w0, w1, hk⟩ := hk
      show bPuts cr ch ma co fi d wd K
      rw [bPuts_eq]
      simp only [forall_eq, strEq_self, cond_true, decide_true]
      by_cases h : ((d.size : Nat) : Int) > 5000
      · rw [dT h]; exact hk
      · rw [dF h]; exact ⟨by omega, w0, w1, by omega, w0, w1, hk⟩
    · exact hk.elim)
def sGetsL : Spec := fun args h K => match args, h with
  | [.string _], [] => K (.bool true) []
  | _, _ => False
theorem okGets : SpecOk Try.prog G0 4 sGetsL :=
  spec2 mixed tLawT_ok Try.func4 (by kernel_rfl : Try.f4.body = some (codeOf Try.f4)) cGets rfl rfl rfl (by kernel_rfl) (ids := []) (by kernel_rfl) trivial (by
    intro args h K hk
    unfold sGetsL at hk
    split at hk
    · rename_i s
      show bGets s K
      rw [bGets_eq]
      simp only [forall_eq, strEq_self, cond_true, decide_true, Bool.and_true]
      by_cases h : ((s.size : Nat) : Int) > 5000
      · rw [dT h]; exact hk
      · rw [dF h]; exact ⟨by omega, by omega, hk⟩
    · exact hk.elim)
end Go.Am.Tmf

namespace Go.Am.Tmf
open Go Go.Am Go.Am.Lib Go.Proofs
open Go.Am.Pkt (G0 codeOf mixed none_ok by2)
set_option maxRecDepth 100000

def sBackL : Spec := fun args h K => match args, h with
  | [.agg ⟨[.int .i64 _, .int .i64 _, .int .i64 _, .int .i64 _, .int .i64 _, .string _, .int .u32 wd]⟩, .string _], [] => 0 ≤ wd ∧ wd < 2 ^ 32 ∧ K (.bool true) []
  | _, _ => False
theorem gWd_lt (t : ByteArray) : gWd t < 2 ^ 32 := by
  have h0 := by2N_lt t (t.size - 6)
  have h1 := by2N_lt t (t.size - 4)
  unfold gWd; omega
theorem okG_gWd (t : ByteArray) : 0 ≤ okG t (gWd t) ∧ okG t (gWd t) < 4294967296 := by
  have := gWd_lt t
  unfold okG
  split <;> omega
theorem gDa_size (t : ByteArray) (h : t.size ≤ 5000) : (gDa t).size < 4611686018427387904 := by
  unfold gDa
  split
  · unfold datT; rw [ByteArray.size_extract]; omega
  · show (0 : Nat) < _; decide
theorem putT_size {cr ch ma co fi : Int} {d : ByteArray} {wd : Int} (h : d.size ≤ 5000) : (putT cr ch ma co fi d wd).size ≤ 5012 := by
  unfold putT
  split
  · rw [encT_size]; omega
  · show (0 : Nat) ≤ _; omega
set_option maxHeartbeats 1600000 in
theorem okBackT : SpecOk Try.prog G0 5 sBackL :=
  spec2 mixed tLawT_ok Try.func5 (by kernel_rfl : Try.f5.body = some (codeOf Try.f5)) cBackT rfl rfl rfl (by kernel_rfl) (ids := []) (by kernel_rfl) trivial (by
    intro args h K hk
    unfold sBackL at hk
    split at hk
    · rename_i cr ch ma co fi d wd t
      obtain ⟨w0, w1, hk⟩ := hk
      show bBackT cr ch ma co fi d wd t K
      rw [bBackT_eq]
      simp only [forall_eq]
      by_cases h : ((d.size : Nat) : Int) > 5000
      · rw [dT h]; exact hk
      rw [dF h]
      by_cases h2 : ((t.size : Nat) : Int) > 5000
      · rw [dT h2]; exact hk
      rw [dF h2]
      refine ⟨by omega, w0, w1, ?_⟩
      obtain ⟨hg0, hg1⟩ := okG_gWd t
      have hgd := gDa_size t (by omega)
      have hps := putT_size (cr := cr) (ch := ch) (ma := ma) (co := co) (fi := fi) (wd := wd) (d := d) (by omega)
      have rest : (((ByteArray.size t) < (4611686018427387904 : Nat)) ∧ (cond (!(decide ((getTE t) = (0 : Int)))) (K (Value.bool ((decide (((okG t ((by2N t 0) / (64 : Nat) : Nat)) = (0 : Int)))) && ((decide (((okG t (((by2N t 0) / (8 : Nat) : Nat) % (8 : Nat) : Nat)) = (0 : Int)))) && ((decide (((okG t (Lib.byteAt t (2 : Nat))) = (0 : Int)))) && ((decide (((okG t (Lib.byteAt t (3 : Nat))) = (0 : Int)))) && ((decide (((okG t (by2N t (4 : Nat))) = (0 : Int)))) && ((strEq (gDa t) (ByteArray.mk (Array.mk []))) && ((decide (((okG t (gWd t)) = (0 : Int)))) && Bool.true)))))))) []) (((ByteArray.size (gDa t)) < (4611686018427387904 : Nat)) ∧ (((0 : Int) ≤ (okG t (gWd t))) ∧ (((okG t (gWd t)) < (4294967296 : Int)) ∧ (cond (decide ((putTE (okG t ((by2N t 0) / (64 : Nat) : Nat)) (okG t (((by2N t 0) / (8 : Nat) : Nat) % (8 : Nat) : Nat)) (okG t (Lib.byteAt t (2 : Nat))) (okG t (Lib.byteAt t (3 : Nat))) (okG t (by2N t (4 : Nat))) (gDa t)) = (0 : Int))) (K (Value.bool (strEq (putT (okG t ((by2N t 0) / (64 : Nat) : Nat)) (okG t (((by2N t 0) / (8 : Nat) : Nat) % (8 : Nat) : Nat)) (okG t (Lib.byteAt t (2 : Nat))) (okG t (Lib.byteAt t (3 : Nat))) (okG t (by2N t (4 : Nat))) (gDa t) (okG t (gWd t))) t)) []) (K (Value.bool Bool.false) []))))))) := by
        refine ⟨by omega, ?_⟩
        by_cases hg : getTE t = 0
        · obtain ⟨p1, p2⟩ := get_put hg
          rw [dnT hg]
          refine ⟨hgd, hg0, hg1, ?_⟩
          rw [dT p1, p2, strEq_self]
          exact hk
        · rw [dnF hg]
          have e : ∀ n, okG t n = 0 := fun n => if_neg hg
          have ed : gDa t = ⟨⟨[]⟩⟩ := if_neg hg
          simp only [e, ed, strEq_self, decide_true, Bool.and_self]
          exact hk
      cases hv : vldT cr ch ma co fi d.size with
      | false =>
        have e1 : putTE cr ch ma co fi d = 2 := by unfold putTE; rw [hv]; rfl
        rw [e1, dF (by decide)]
        exact rest
      | true =>
        obtain ⟨⟨a0, a1⟩, ⟨b0, b1⟩, ⟨c0, c1⟩, ⟨d0, d1⟩, ⟨f0, f1⟩, f2⟩ := vldT_iff.1 hv
        obtain ⟨cr, rfl⟩ := nat_of a0
        obtain ⟨ch, rfl⟩ := nat_of d0
        obtain ⟨ma, rfl⟩ := nat_of b0
        obtain ⟨co, rfl⟩ := nat_of c0
        obtain ⟨fi, rfl⟩ := nat_of (show (0 : Int) ≤ fi by omega)
        obtain ⟨wd, rfl⟩ := nat_of w0
        have e1 : putTE ((cr : Nat) : Int) ((ch : Nat) : Int) ((ma : Nat) : Int) ((co : Nat) : Int) ((fi : Nat) : Int) d = 0 := by unfold putTE; rw [hv]; rfl
        have e2 : putT ((cr : Nat) : Int) ((ch : Nat) : Int) ((ma : Nat) : Int) ((co : Nat) : Int) ((fi : Nat) : Int) d ((wd : Nat) : Int) = encT cr ch ma co fi d wd := by unfold putT; rw [hv, if_pos rfl]; rfl
        have g := enc_get (cr := cr) (ch := ch) (ma := ma) (co := co) (fi := fi) (d := d) (wd := wd) hv
        have h0 := enc_two (cr := cr) (ch := ch) (ma := ma) (co := co) (fi := fi) (d := d) (wd := wd) (by omega)
        obtain ⟨h1, h2⟩ := enc_ma (cr := cr) (ch := ch) (ma := ma) (co := co) (fi := fi) (d := d) (wd := wd) (by omega) (by omega)
        have h3 := enc_fi (cr := cr) (ch := ch) (ma := ma) (co := co) (fi := fi) (d := d) (wd := wd) (by omega)
        have h4 := enc_wd (cr := cr) (ch := ch) (ma := ma) (co := co) (fi := fi) (d := d) (wd := wd) (by omega)
        have e : ∀ n, okG (encT cr ch ma co fi d wd) n = ((n : Nat) : Int) := fun n => if_pos g
        have ed : gDa (encT cr ch ma co fi d wd) = d := (if_pos g).trans enc_dat
        have es : iAdd .i64 ((d.size : Nat) : Int) 12 = ((12 + d.size : Nat) : Int) := by rw [iAdd_i64 (by omega) (by omega)]; omega
        rw [e1, e2] 
        rw [dT rfl]
        refine ⟨by rw [encT_size]; omega, ?_⟩
        rw [dnT g, h0, h1, h2, h3, h4, ed, strEq_self, e, e, e, e, e, e, encT_size, es, dnT rfl]
        rw [show (cr * 64 + ch * 8) / 64 = cr by omega, show (cr * 64 + ch * 8) / 8 % 8 = ch by omega]
        simp only [decide_true, Bool.and_self, Bool.not_true, cond_false]
        exact rest
    · exact hk.elim)
end Go.Am.Tmf

namespace Go.Am.Tmf
open Go Go.Am Go.Am.Lib Go.Proofs
open Go.Am.Pkt (G0 codeOf mixed none_ok by2)
set_option maxRecDepth 100000

def flipV (B : List Value) (i : Nat) : List Value := B.set (i / 8) (.int .u8 ((byteAt (bytesOf B) (i / 8) ^^^ 2 ^ (7 - i % 8) : Nat) : Int))
def flipT (s : ByteArray) (i : Nat) : ByteArray := bytesOf (flipV (bytesV s) i)
def flipN (s : ByteArray) (n : Int) : ByteArray := flipT s (n % ((8 * s.size : Nat) : Int)).toNat
def sFlk : Spec := fun args h K => match args, h with
  | [.string s, .int .i64 n], [] => 0 < s.size ∧ s.size < 2 ^ 40 ∧ K (.string (flipN s n)) []
  | _, _ => False
def tabP : List (Nat × Spec) := [(14, sPck)]
noncomputable def cFlk : FCfg := { mkG Try.prog G0 tabP 33 [(0, [0, 1]), (1, [0, 1, 8]), (2, [4]), (3, [1, 5]), (4, [5, 6]), (5, [5]), (6, [4])] [] [] [] [] [] 40 0 with hold := lookL [(5, [])] }
noncomputable def bFlk (s : ByteArray) (n : Int) (K : Value → AHeap → Prop) : Prop := bodyK cFlk (codeOf Try.f15) Try.f15.results.toList [.string s, .int .i64 n] [] K
/-- Bits n to n + 15 of s are inverted where m has ones. -/
def burst : Nat → ByteArray → Nat → Nat → Nat → ByteArray
  | 0, s, _, _, _ => s
  | k + 1, s, n, m, i => burst k (if m / 2 ^ i % 2 = 1 then flipT s (n + i) else s) n m (i + 1)
def TFl : LSpec := fun e h k => match e, h with
  | [(2, .int .u16 m), (9, .int .i64 n), (10, .string s), (11, .int .i64 i)], [] =>
    0 ≤ m ∧ m < 65536 ∧ i = 0 ∧ 0 ≤ n ∧ n + 16 ≤ 8 * s.size ∧ s.size < 2 ^ 40 ∧ k (.exit 0) [(10, .string (burst 16 s n.toNat m.toNat 0))] []
  | _, _ => False
def tFlips : List (Nat × Spec) := (14, sPck) :: (15, sFlk) :: tLawT
noncomputable def cFlips : FCfg := { mkG Try.prog G0 tFlips 67 [(0, [1, 2, 3]), (1, [1, 2, 3, 15]), (2, [6]), (3, [1, 2, 7, 8]), (4, [1, 2, 7, 8, 31]), (5, [6]), (6, [2, 7, 9]), (7, [2, 9, 10]), (8, [2, 9, 10, 11]), (9, [2, 9, 10, 11, 46]), (10, [2, 9, 10, 11]), (11, [2, 9, 10, 11, 54]), (12, [2, 9, 10, 11]), (13, [13]), (14, [6])] [(9, [2, 9, 10, 11])] [(9, [10])] [(9, TFl)] [] [] 40 0 with hold := lookL [] }
noncomputable def tFlp (m n i : Int) (s : ByteArray) (k : AExit → Env → AHeap → Prop) : Prop := codeK cFlips (nthLoop 0 (codeOf Try.f6)) [(2, .int .u16 m), (9, .int .i64 n), (10, .string s), (11, .int .i64 i)] [] k
noncomputable def bFlips (cr ch ma co fi : Int) (d : ByteArray) (wd x m : Int) (K : Value → AHeap → Prop) : Prop := bodyK cFlips (codeOf Try.f6) Try.f6.results.toList [frV cr ch ma co fi d wd, .int .i64 x, .int .u16 m] [] K
theorem bFlk_eq (s : ByteArray) (n : Int) (K : Value → AHeap → Prop) : bFlk s n K = (cond (strEq s (ByteArray.mk (Array.mk []))) (K (Value.string s) []) (∀ x1 : Int, ((x1 = (((ByteArray.size s) : Nat) : Int)) → (∀ x2 : Int, ((x2 = (iMul IntKind.i64 (8 : Int) x1)) → (((0 : Int) < x2) ∧ ((x2 < (4611686018427387904 : Int)) ∧ (∀ x3 : Int, ((x3 = (Int.emod n x2)) → (∀ x4 : Int, ((x4 = x3) → (∀ x5 : Int, ((x5 = (IntKind.wrap IntKind.i64 (Int.tdiv x4 (8 : Int)))) → (∀ x6 : Int, ((x6 = (IntKind.wrap IntKind.i64 (Int.tdiv x4 (8 : Int)))) → (cond ((decide (((0 : Int) ≤ x6))) && (decide ((x6 < (((ByteArray.size s) : Nat) : Int))))) (∀ x7 : Int, ((x7 = (Int.tmod x4 (8 : Int))) → (∀ x8 : Int, ((x8 = (iSub IntKind.i64 (7 : Int) x7)) → (cond (decide (((0 : Int) ≤ x8))) (∀ x9 : Int, ((x9 = (iMul IntKind.u8 (1 : Int) ((2 : Int) ^ (ite ((Int.toNat x8) ≤ (8 : Nat)) (Int.toNat x8) (8 : Nat)) : Int))) → (cond (decide ((((Int.toNat x6) + (1 : Nat) : Nat) ≤ (List.length (bytesV s))))) (cond (isInt IntKind.u8 (List.getD (bytesV s) (Int.toNat x6) Go.undef)) (∀ x10 : Int, ((x10 = (iXor IntKind.u8 (intOf (List.getD (bytesV s) (Int.toNat x6) Go.undef)) x9)) → (cond ((decide (((0 : Int) ≤ x5))) && (decide ((x5 < (((ByteArray.size s) : Nat) : Int))))) (cond (decide ((((Int.toNat x5) + (1 : Nat) : Nat) ≤ (List.length (bytesV s))))) (cond (decide (((0 + ((ByteArray.size s) * (1 : Nat) : Nat) : Nat) ≤ (List.length (List.set (bytesV s) (Int.toNat x5) (Value.int IntKind.u8 x10)))))) (cond (List.all (List.take ((ByteArray.size s) * (1 : Nat) : Nat) (List.drop 0 (List.set (bytesV s) (Int.toNat x5) (Value.int IntKind.u8 x10)))) (isInt IntKind.u8)) (∀ x11 : ByteArray, ((x11 = (bytesOf (List.take ((ByteArray.size s) * (1 : Nat) : Nat) (List.drop 0 (List.set (bytesV s) (Int.toNat x5) (Value.int IntKind.u8 x10)))))) → (K (Value.string x11) []))) False) False) False) False))) False) False))) False))))) False)))))))))))))))) := by
  kernel_rfl
theorem tFlp_eq (m n i : Int) (s : ByteArray) (k : AExit → Env → AHeap → Prop) : tFlp m n i s k = (cond (decide ((i < (16 : Int)))) (∀ x1 : Int, ((x1 = (IntKind.wrap IntKind.u64 i)) → (cond (decide (((0 : Int) ≤ x1))) (∀ x2 : Int, ((x2 = (Int.fdiv m ((2 : Int) ^ (ite ((Int.toNat x1) ≤ (16 : Nat)) (Int.toNat x1) (16 : Nat)) : Int))) → (∀ x3 : Int, ((x3 = (Int.tmod x2 (2 : Int))) → (cond (decide ((x3 = (1 : Int)))) (∀ x5 : Int, ((x5 = (iAdd IntKind.i64 n i)) → ((0 < (ByteArray.size s)) ∧ (((ByteArray.size s) < (1099511627776 : Nat)) ∧ (∀ x6 : ByteArray, ((x6 = (flipN s x5)) → (∀ x7 : Int, ((x7 = (iAdd IntKind.i64 i (1 : Int))) → (k AExit.normal [(Prod.mk 2 (Value.int IntKind.u16 m)), (Prod.mk 9 (Value.int IntKind.i64 n)), (Prod.mk 10 (Value.string x6)), (Prod.mk 11 (Value.int IntKind.i64 x7))] []))))))))) (∀ x4 : Int, ((x4 = (iAdd IntKind.i64 i (1 : Int))) → (k AExit.normal [(Prod.mk 2 (Value.int IntKind.u16 m)), (Prod.mk 9 (Value.int IntKind.i64 n)), (Prod.mk 10 (Value.string s)), (Prod.mk 11 (Value.int IntKind.i64 x4))] [])))))))) False))) (k (AExit.exit 0) [(Prod.mk 2 (Value.int IntKind.u16 m)), (Prod.mk 9 (Value.int IntKind.i64 n)), (Prod.mk 10 (Value.string s)), (Prod.mk 11 (Value.int IntKind.i64 i)), (Prod.mk 46 (Value.bool Bool.false))] [])) := by
  kernel_rfl
theorem bFlips_eq (cr ch ma co fi : Int) (d : ByteArray) (wd x m : Int) (K : Value → AHeap → Prop) : bFlips cr ch ma co fi d wd x m K = (((ByteArray.size d) < (4611686018427387904 : Nat)) ∧ (((0 : Int) ≤ wd) ∧ ((wd < (4294967296 : Int)) ∧ (∀ x1 : ByteArray, ((x1 = (putT cr ch ma co fi d wd)) → (∀ x2 : Int, ((x2 = (putTE cr ch ma co fi d)) → (cond (!(decide ((x2 = (0 : Int))))) (cond (!(decide ((x2 = (0 : Int))))) (K (Value.bool Bool.true) []) (K (Value.bool (decide ((m = (0 : Int))))) [])) (cond (decide ((m = (0 : Int)))) (cond (!(decide ((x2 = (0 : Int))))) (K (Value.bool Bool.true) []) (K (Value.bool (decide ((m = (0 : Int))))) [])) (∀ x3 : Int, ((x3 = (((ByteArray.size x1) : Nat) : Int)) → (cond (decide ((x3 < (44 : Int)))) (cond (!(decide ((x2 = (0 : Int))))) (K (Value.bool Bool.true) []) (K (Value.bool (decide ((m = (0 : Int))))) [])) (∀ x4 : Int, ((x4 = (((ByteArray.size x1) : Nat) : Int)) → (∀ x5 : Int, ((x5 = (iMul IntKind.i64 (8 : Int) x4)) → (∀ x6 : Int, ((x6 = (iSub IntKind.i64 x5 (15 : Int))) → (((0 : Int) < x6) ∧ ((x6 < (4611686018427387904 : Int)) ∧ (∀ x7 : Int, ((x7 = (Int.emod x x6)) → (∀ x8 : Int, ((x8 = x7) → (((0 : Int) ≤ m) ∧ ((m < (65536 : Int)) ∧ (((0 : Int) = (0 : Int)) ∧ (((0 : Int) ≤ x8) ∧ (((x8 + (16 : Int) : Int) ≤ ((8 : Int) * (((ByteArray.size x1) : Nat) : Int) : Int)) ∧ (((ByteArray.size x1) < (1099511627776 : Nat)) ∧ (((ByteArray.size (burst (16 : Nat) x1 (Int.toNat x8) (Int.toNat m) 0)) < (4611686018427387904 : Nat)) ∧ (∀ x9 : Int, ((x9 = (getTE (burst (16 : Nat) x1 (Int.toNat x8) (Int.toNat m) 0))) → (K (Value.bool (decide ((x9 = (100 : Int))))) [])))))))))))))))))))))))))))))))))) := by
  kernel_rfl
end Go.Am.Tmf

namespace Go.Am.Tmf
open Go Go.Am Go.Am.Lib Go.Proofs Go.Am.Clt
open Go.Am.Pkt (G0 codeOf mixed none_ok by2)
set_option maxRecDepth 100000

theorem bytesOf_size (l : List Value) : (bytesOf l).size = l.length := by unfold bytesOf; rw [← size_list]; simp
theorem flip_size (s : ByteArray) (i : Nat) : (flipT s i).size = s.size := by unfold flipT flipV; rw [bytesOf_size, List.length_set, bytesV_length]
theorem pow7_lt (i : Nat) : 2 ^ (7 - i % 8) < 256 := by
  have : 2 ^ (7 - i % 8) ≤ 2 ^ 7 := Nat.pow_le_pow_right (by omega) (by omega)
  omega
theorem flip_at (s : ByteArray) {i : Nat} {j : Nat} (hj : j < s.size) : byteAt (flipT s i) j = if j = i / 8 then byteAt s (i / 8) ^^^ 2 ^ (7 - i % 8) else byteAt s j := by
  unfold flipT flipV
  rw [bytesOf_V]
  have hx : byteAt s (i / 8) ^^^ 2 ^ (7 - i % 8) < 256 := @Nat.xor_lt_two_pow _ _ 8 (byteAt_lt _ _) (pow7_lt i)
  have hlen : j < ((bytesV s).set (i / 8) (.int .u8 ((byteAt s (i / 8) ^^^ 2 ^ (7 - i % 8) : Nat) : Int))).length := by rw [List.length_set, bytesV_length]; exact hj
  by_cases e : j = i / 8
  · subst e
    rw [if_pos rfl]
    refine bytesOf_at ?_ hx hlen
    rw [List.getD_eq_getElem?_getD, List.getElem?_set, if_pos rfl, if_pos (by rw [bytesV_length]; exact hj)]; rfl
  · rw [if_neg e]
    refine bytesOf_at ?_ (byteAt_lt _ _) hlen
    rw [List.getD_eq_getElem?_getD, List.getElem?_set, if_neg (fun h => e h.symm), bytesV_get s hj]; rfl
theorem one_shl : ∀ j : Fin 8, iMul .u8 1 ((2 : Int) ^ (if (7 - j.val) ≤ 8 then 7 - j.val else 8)) = ((2 ^ (7 - j.val) : Nat) : Int) := by decide +kernel
theorem set_ints (s : ByteArray) (j : Nat) (x : Int) (m : Nat) : List.all (List.take m (List.drop 0 ((bytesV s).set j (.int .u8 x)))) (isInt .u8) = true := by
  rw [List.all_eq_true]
  intro u hu
  have hu := List.mem_of_mem_take hu
  rw [List.drop_zero] at hu
  rcases List.mem_or_eq_of_mem_set hu with h | h
  · unfold bytesV at h
    obtain ⟨b, _, rfl⟩ := List.mem_map.1 h
    exact isInt_int _ _
  · rw [h]; exact isInt_int _ _
theorem flip_out (s : ByteArray) {m : Nat} {x : Int} (hx : x = ((byteAt s (m / 8) ^^^ 2 ^ (7 - m % 8) : Nat) : Int)) : bytesOf (List.take (s.size * 1) (List.drop 0 ((bytesV s).set (m / 8) (.int .u8 x)))) = flipT s m := by
  rw [List.drop_zero, List.take_of_length_le (by rw [List.length_set, bytesV_length]; omega)]
  unfold flipT flipV
  rw [bytesOf_V, hx]
theorem tabP_ok : AllOk Try.prog G0 tabP := ⟨okPck, trivial⟩
set_option maxHeartbeats 1600000 in
theorem okFlk : SpecOk Try.prog G0 15 sFlk :=
  spec2 mixed tabP_ok Try.func15 (by kernel_rfl : Try.f15.body = some (codeOf Try.f15)) cFlk rfl rfl rfl (by kernel_rfl) (ids := []) (by kernel_rfl) trivial (by
    intro args h K hk
    unfold sFlk at hk
    split at hk
    · rename_i s n
      obtain ⟨h0, h1, hk⟩ := hk
      show bFlk s n K
      rw [bFlk_eq, strEq_ne (fun e => by rw [e] at h0; exact absurd h0 (by decide)), cond_false]
      rintro x1 e1 x2 e2
      rw [e1, iMul_i64 (by omega) (by omega)] at e2
      have e2' : x2 = ((8 * s.size : Nat) : Int) := by rw [e2]; push_cast; rfl
      refine ⟨by omega, by omega, ?_⟩
      rintro x3 e3 x4 e4
      rw [e2'] at e3
      have hlt := Int.emod_lt_of_pos n (show (0 : Int) < ((8 * s.size : Nat) : Int) by omega)
      have hnn := Int.emod_nonneg n (show ((8 * s.size : Nat) : Int) ≠ 0 by omega)
      obtain ⟨m, hm⟩ := nat_of (n := n % ((8 * s.size : Nat) : Int)) hnn
      have hms : m < 8 * s.size := by omega
      have hF : flipN s n = flipT s m := by unfold flipN; rw [hm, Int.toNat_natCast]
      rw [hF] at hk
      replace e4 : x4 = n % ((8 * s.size : Nat) : Int) := e4.trans e3
      rw [hm] at e4
      subst e4
      clear e1 e2 e2' e3 hm hF hlt hnn
      intro x5 h5 x6 h6
      rw [show (8 : Int) = ((8 : Nat) : Int) from rfl, tdiv_cast, w64 (by omega)] at h5 h6
      subst h5
      subst h6
      rw [dT2 (by omega) (by omega)]
      intro x7 h7 x8 h8
      rw [show (8 : Int) = ((8 : Nat) : Int) from rfl, tmod_cast] at h7
      rw [h7, iSub_i64 (by omega) (by omega)] at h8
      obtain rfl : x8 = ((7 - m % 8 : Nat) : Int) := by omega
      rw [dT (by omega)]
      intro x9 h9
      rw [Int.toNat_natCast] at h9
      have ho := one_shl ⟨m % 8, by omega⟩
      dsimp only at ho
      replace h9 := h9.trans ho
      have hd : m / 8 < s.size := by omega
      rw [Int.toNat_natCast]
      have hg : (bytesV s).getD (m / 8) undef = .int .u8 ((byteAt s (m / 8) : Nat) : Int) := by
        rw [List.getD_eq_getElem?_getD, bytesV_get s hd]; rfl
      rw [dT (by rw [bytesV_length]; omega), hg, isInt_int, cond_true, intOf_int]
      intro x10 h10
      rw [h9, iXor_cast .u8 (by rw [cap8]; exact byteAt_lt _ _) (by rw [cap8]; exact pow7_lt _)] at h10
      rw [dT2 (by omega) (by omega), dT (by rw [bytesV_length]; omega), dT (by rw [List.length_set, bytesV_length]; omega), set_ints, cond_true]
      intro x11 h11
      rw [h11, flip_out s h10]
      exact hk
    · exact hk.elim)

/-! ### bits -/
def bitT (s : ByteArray) (i : Nat) : Nat := byteAt s (i / 8) / 2 ^ (7 - i % 8) % 2
theorem bitT_lt (s : ByteArray) (i : Nat) : bitT s i < 2 := Nat.mod_lt _ (by omega)
theorem flip_bit : ∀ (a : Fin 256) (p q : Fin 8), (a.val ^^^ 2 ^ p.val) / 2 ^ q.val % 2 = a.val / 2 ^ q.val % 2 ^^^ (if q.val = p.val then 1 else 0) := by decide +kernel
theorem bitT_flip {s : ByteArray} {i : Nat} {j : Nat} (hj : j / 8 < s.size) : bitT (flipT s i) j = bitT s j ^^^ (if j = i then 1 else 0) := by
  unfold bitT
  rw [flip_at s hj]
  by_cases e : j / 8 = i / 8
  · rw [if_pos e]
    have h := flip_bit ⟨byteAt s (i / 8), byteAt_lt _ _⟩ ⟨7 - i % 8, by omega⟩ ⟨7 - j % 8, by omega⟩
    dsimp only at h
    rw [h, e]
    by_cases e2 : j = i
    · rw [if_pos e2, if_pos (by omega)]
    · rw [if_neg e2, if_neg (by omega)]
  · rw [if_neg e, if_neg (fun h => e (by rw [h])), Nat.xor_zero]
theorem burst_size : ∀ (k : Nat) (s : ByteArray) (n m i : Nat), (burst k s n m i).size = s.size
  | 0, _, _, _, _ => rfl
  | k + 1, s, n, m, i => by
    rw [burst, burst_size k]
    split
    · exact flip_size _ _
    · rfl
/-- The error: ones where m has ones, n places on. -/
def errB (n m : Nat) (j : Nat) : Nat := if n ≤ j ∧ j < n + 16 then m / 2 ^ (j - n) % 2 else 0
theorem burst_bit : ∀ (k : Nat) (s : ByteArray) (n m i j : Nat), i + k = 16 → j / 8 < s.size → bitT (burst k s n m i) j = bitT s j ^^^ (if n + i ≤ j then errB n m j else 0)
  | 0, s, n, m, i, j, hk, _ => by
    rw [burst]
    unfold errB
    split
    · rw [if_neg (by omega), Nat.xor_zero]
    · rw [Nat.xor_zero]
  | k + 1, s, n, m, i, j, hk, hj => by
    rw [burst, burst_bit k _ n m (i + 1) j (by omega) (by split; rw [flip_size]; exact hj; exact hj)]
    by_cases h1 : m / 2 ^ i % 2 = 1
    · rw [if_pos h1, bitT_flip hj, Nat.xor_assoc]
      congr 1
      by_cases e : j = n + i
      · subst e
        rw [if_pos rfl, if_neg (by omega), if_pos (by omega), Nat.xor_zero]
        unfold errB
        rw [if_pos (by omega), show n + i - n = i by omega, h1]
      · rw [if_neg e, Nat.zero_xor]
        by_cases h2 : n + i ≤ j
        · rw [if_pos h2, if_pos (by omega)]
        · rw [if_neg h2, if_neg (by omega)]
    · rw [if_neg h1]
      congr 1
      by_cases e : j = n + i
      · subst e
        rw [if_neg (by omega), if_pos (by omega)]
        unfold errB
        rw [if_pos (by omega), show n + i - n = i by omega]; omega
      · by_cases h2 : n + i ≤ j
        · rw [if_pos h2, if_pos (by omega)]
        · rw [if_neg h2, if_neg (by omega)]
/-! ### the register -/
def reg : Nat → (Nat → Nat) → Nat → Nat
  | 0, _, c => c
  | k + 1, f, c => stB (reg k f c) (f k)
theorem reg_lt (f : Nat → Nat) : ∀ (k : Nat) {c : Nat}, c < 65536 → reg k f c < 65536
  | 0, _, h => h
  | _ + 1, _, _ => stB_lt _ _
theorem reg_congr {f g : Nat → Nat} (c : Nat) : ∀ (k : Nat), (∀ j, j < k → f j = g j) → reg k f c = reg k g c
  | 0, _ => rfl
  | k + 1, h => by rw [reg, reg, reg_congr c k (fun j hj => h j (by omega)), h k (by omega)]
theorem stB_xor {c d a b : Nat} (hc : c < 65536) (hd : d < 65536) (ha : a < 2) (hb : b < 2) : stB (c ^^^ d) (a ^^^ b) = stB c a ^^^ stB d b := by
  have e : (a ^^^ b) * 32768 = a * 32768 ^^^ b * 32768 := by
    have h1 : a = 0 ∨ a = 1 := by omega
    have h2 : b = 0 ∨ b = 1 := by omega
    rcases h1 with rfl | rfl <;> rcases h2 with rfl | rfl <;> rfl
  rw [stB_stp (xor16 hc hd) (xor2 ha hb), stB_stp hc ha, stB_stp hd hb, ← stp_xor, e, x4]
theorem reg_xor {f g : Nat → Nat} (hf : ∀ j, f j < 2) (hg : ∀ j, g j < 2) {c d : Nat} (hc : c < 65536) (hd : d < 65536) : ∀ k, reg k (fun j => f j ^^^ g j) (c ^^^ d) = reg k f c ^^^ reg k g d
  | 0 => rfl
  | k + 1 => by
    rw [reg, reg, reg, reg_xor hf hg hc hd k]
    exact stB_xor (reg_lt f k hc) (reg_lt g k hd) (hf k) (hg k)
theorem reg_crc (s : ByteArray) {c : Nat} (hc : c < 65536) : ∀ n, reg (8 * n) (bitT s) c = crcGo n s 0 c
  | 0 => rfl
  | n + 1 => by
    rw [crcGo_snoc, ← reg_crc s hc n, Nat.zero_add, ← bits8_fold (reg_lt _ _ hc) (byteAt_lt _ _), show 8 * (n + 1) = 8 * n + 1 + 1 + 1 + 1 + 1 + 1 + 1 + 1 by omega]
    have e : ∀ k, k < 8 → bitT s (8 * n + k) = byteAt s n / 2 ^ (7 - k) % 2 := fun k hk => by
      unfold bitT
      rw [show (8 * n + k) / 8 = n by omega, show (8 * n + k) % 8 = k by omega]
    rw [reg, reg, reg, reg, reg, reg, reg, reg]
    have e0 := e 0 (by omega)
    have e1 := e 1 (by omega)
    have e2 := e 2 (by omega)
    have e3 := e 3 (by omega)
    have e4 := e 4 (by omega)
    have e5 := e 5 (by omega)
    have e6 := e 6 (by omega)
    have e7 := e 7 (by omega)
    simp only [Nat.reduceSub, Nat.reducePow, Nat.add_zero, Nat.div_one] at e0 e1 e2 e3 e4 e5 e6 e7 ⊢
    rw [e0, e1, e2, e3, e4, e5, e6, e7]
    rfl
/-- What sixteen bits leave, taken back. -/
def topV (m : Nat) : Nat → Nat
  | 0 => 0
  | i + 1 => topV m i + (m / 2 ^ i % 2) * 2 ^ (15 - i)
theorem topV_mul (m : Nat) : ∀ i, i ≤ 16 → ∃ q, topV m i = 2 ^ (16 - i) * q ∧ q < 2 ^ i
  | 0, _ => ⟨0, rfl, by decide⟩
  | i + 1, hi => by
    obtain ⟨q, h1, h2⟩ := topV_mul m i (by omega)
    have hb := Nat.mod_lt (m / 2 ^ i) (show 0 < 2 by omega)
    refine ⟨2 * q + m / 2 ^ i % 2, ?_, ?_⟩
    · rw [topV, h1, show 16 - i = 15 - i + 1 by omega, show 16 - (i + 1) = 15 - i by omega, Nat.pow_succ, Nat.mul_add, Nat.mul_comm (m / 2 ^ i % 2), Nat.mul_assoc]
    · rw [Nat.pow_succ]; omega
theorem topV_lt (m : Nat) {i : Nat} (hi : i ≤ 16) : topV m i < 65536 := by
  obtain ⟨q, h1, h2⟩ := topV_mul m i hi
  have e : 65536 = 2 ^ (16 - i) * 2 ^ i := by rw [← Nat.pow_add, show 16 - i + i = 16 by omega]
  rw [h1, e]
  exact Nat.mul_lt_mul_of_pos_left h2 (Nat.two_pow_pos _)
theorem topV_le (m : Nat) {i : Nat} : ∀ {k : Nat}, i ≤ k → topV m i ≤ topV m k
  | 0, h => by rw [show i = 0 by omega]; exact Nat.le_refl _
  | k + 1, h => by
    by_cases e : i = k + 1
    · rw [e]; exact Nat.le_refl _
    · exact Nat.le_trans (topV_le m (k := k) (by omega)) (Nat.le_add_right _ _)
theorem some_bit {m : Nat} (h0 : m ≠ 0) (h1 : m < 65536) : ∃ i, i < 16 ∧ m / 2 ^ i % 2 = 1 := by
  have h : ∃ i, m.testBit i = true := Nat.exists_testBit_of_ne_zero h0
  obtain ⟨i, hi⟩ := h
  refine ⟨i, ?_, ?_⟩
  · rcases Nat.lt_or_ge i 16 with h | h
    · exact h
    · rw [Nat.testBit_lt_two_pow (Nat.lt_of_lt_of_le h1 (Nat.pow_le_pow_right (n := 2) (by decide) h))] at hi; cases hi
  · rw [← Nat.toNat_testBit, hi]; rfl
theorem topV_ne {m : Nat} (h0 : m ≠ 0) (h1 : m < 65536) : topV m 16 ≠ 0 := by
  obtain ⟨i, hi, hb⟩ := some_bit h0 h1
  have h := topV_le m (i := i + 1) (k := 16) (by omega)
  have hp := Nat.two_pow_pos (15 - i)
  rw [topV, hb] at h
  omega
theorem reg_err (n m : Nat) : ∀ k, reg k (errB n m) 0 = if k ≤ n then 0 else if k ≤ n + 16 then stpN (k - n) (topV m (k - n)) else stpN (k - n) (topV m 16)
  | 0 => by rw [if_pos (by omega)]; rfl
  | k + 1 => by
    rw [reg, reg_err n m k]
    have hb0 : ∀ {c : Nat}, c < 65536 → stB c 0 = stp c := fun hc => by rw [stB_stp hc (by omega), Nat.zero_mul, Nat.xor_zero]
    have stS : ∀ (i c : Nat), stp (stpN i c) = stpN (i + 1) c := fun i c => by rw [stpN_add i 1]; rfl
    by_cases h1 : k + 1 ≤ n
    · rw [if_pos (by omega), if_pos h1]
      have e : errB n m k = 0 := if_neg (by omega)
      rw [e, hb0 (by omega)]; rfl
    rw [if_neg h1]
    by_cases h2 : k + 1 ≤ n + 16
    · rw [if_pos h2]
      have e : errB n m k = m / 2 ^ (k - n) % 2 := if_pos (by omega)
      have hcur : (if k ≤ n then 0 else if k ≤ n + 16 then stpN (k - n) (topV m (k - n)) else stpN (k - n) (topV m 16)) = stpN (k - n) (topV m (k - n)) := by
        by_cases h3 : k ≤ n
        · rw [if_pos h3, show k - n = 0 by omega]; rfl
        · rw [if_neg h3, if_pos (by omega)]
      obtain ⟨i, hi⟩ : ∃ i, k - n = i := ⟨_, rfl⟩
      rw [hcur, e, show k + 1 - n = k - n + 1 by omega, hi]
      have hb := Nat.mod_lt (m / 2 ^ i) (show 0 < 2 by omega)
      have hlt : m / 2 ^ i % 2 * 2 ^ (15 - i) < 2 ^ (16 - i) := by
        rw [show 16 - i = 15 - i + 1 by omega, Nat.pow_succ]
        have hp := Nat.two_pow_pos (15 - i)
        rcases (by omega : m / 2 ^ i % 2 = 0 ∨ m / 2 ^ i % 2 = 1) with h | h <;> rw [h] <;> omega
      have e2 : m / 2 ^ i % 2 * 32768 = stpN i (m / 2 ^ i % 2 * 2 ^ (15 - i)) := by
        rw [stpN_small i (by omega) hlt, Nat.mul_comm (2 ^ i), Nat.mul_assoc, ← Nat.pow_add, show 15 - i + i = 15 by omega]
      obtain ⟨q, hq, _⟩ := topV_mul m i (by omega)
      rw [stB_stp (stpN_lt i (topV_lt m (by omega))) hb, e2, ← stpN_xor, stS, topV, hq, xadd hlt]
    · rw [if_neg h2]
      have e : errB n m k = 0 := if_neg (by omega)
      have hcur : (if k ≤ n then 0 else if k ≤ n + 16 then stpN (k - n) (topV m (k - n)) else stpN (k - n) (topV m 16)) = stpN (k - n) (topV m 16) := by
        by_cases h3 : k ≤ n + 16
        · rw [if_neg (by omega), if_pos h3, show k - n = 16 by omega]
        · rw [if_neg (by omega), if_neg h3]
      rw [hcur, e, hb0 (stpN_lt _ (topV_lt m (by omega))), stS, show k + 1 - n = k - n + 1 by omega]
/-- A burst of at most 16 bits is found. -/
theorem burst_crc {s : ByteArray} {n m : Nat} (hn : n + 16 ≤ 8 * s.size) (h0 : m ≠ 0) (h1 : m < 65536) (hs : crcGo s.size s 0 65535 = 0) : crcGo s.size (burst 16 s n m 0) 0 65535 ≠ 0 := by
  rw [← reg_crc _ (by omega)] at hs ⊢
  have hb : ∀ j, errB n m j < 2 := fun j => by
    unfold errB
    split
    · exact Nat.mod_lt _ (by omega)
    · omega
  have e1 := reg_congr (f := bitT (burst 16 s n m 0)) (g := fun j => bitT s j ^^^ errB n m j) 65535 (8 * s.size) fun j hj => by
    rw [burst_bit 16 s n m 0 j (by omega) (by omega)]
    by_cases h : n + 0 ≤ j
    · rw [if_pos h]
    · rw [if_neg h]
      unfold errB
      rw [if_neg (by omega)]
  have e2 := reg_xor (f := bitT s) (g := errB n m) (bitT_lt s) hb (c := 65535) (d := 0) (by omega) (by omega) (8 * s.size)
  rw [Nat.xor_zero] at e2
  rw [e1, e2, hs, Nat.zero_xor, reg_err, if_neg (by omega)]
  intro h
  by_cases h3 : 8 * s.size ≤ n + 16
  · rw [if_pos h3, show 8 * s.size - n = 16 by omega] at h
    exact topV_ne h0 h1 (stpN_zero _ (topV_lt m (by omega)) h)
  · rw [if_neg h3] at h
    exact topV_ne h0 h1 (stpN_zero _ (topV_lt m (by omega)) h)
end Go.Am.Tmf

namespace Go.Am.Tmf
open Go Go.Am Go.Am.Lib Go.Proofs
open Go.Am.Pkt (G0 codeOf mixed none_ok by2)
set_option maxRecDepth 100000

theorem tail_iff {s : ByteArray} (h : 2 ≤ s.size) : crcGo s.size s 0 65535 = 0 ↔ by2N s (s.size - 2) = crc (s.extract 0 (s.size - 2)) := by
  obtain ⟨n, hn⟩ : ∃ n, s.size = n + 1 + 1 := ⟨s.size - 2, by omega⟩
  have e : crc (s.extract 0 n) = crcGo n s 0 65535 := by
    unfold crc
    rw [ByteArray.size_extract, show min n s.size - 0 = n by omega]
    refine crcGo_congr n 0 65535 fun j h1 h2 => ?_
    rw [byteAt_cut, if_pos (by omega), Nat.zero_add]
  rw [hn, show n + 1 + 1 - 2 = n by omega, e, crcGo_snoc, crcGo_snoc, Nat.zero_add, Nat.zero_add, tail_zero (crcGo_lt _ _ _ (by omega)) (byteAt_lt _ _) (byteAt_lt _ _)]
  rfl
theorem shr_i {m i : Nat} (hi : i < 16) {x : Int} (h : x = Int.fdiv ((m : Nat) : Int) ((2 : Int) ^ (if (((i : Nat) : Int)).toNat ≤ 16 then (((i : Nat) : Int)).toNat else 16))) : x = ((m / 2 ^ i : Nat) : Int) := by
  rw [h, Int.toNat_natCast, if_pos (by omega), show (2 : Int) ^ i = ((2 ^ i : Nat) : Int) by push_cast; rfl, fdiv_cast]
theorem loopFl : ∀ e h k, TFl e h k → ∃ m, loopN cFlips (codeOf Try.f6) 0 9 m e h k := by
  intro e h k hT
  unfold TFl at hT
  split at hT
  · rename_i m n s i
    obtain ⟨m0, m1, rfl, n0, n1, hs, hk⟩ := hT
    obtain ⟨m, rfl⟩ := nat_of m0
    obtain ⟨n, rfl⟩ := nat_of n0
    rw [Int.toNat_natCast, Int.toNat_natCast] at hk
    refine ⟨17, ?_⟩
    have key : ∀ q i : Nat, ∀ s : ByteArray, i + q = 16 → n + 16 ≤ 8 * s.size → s.size < 2 ^ 40 → k (.exit 0) [(10, .string (burst q s n m i))] [] →
        loopN cFlips (codeOf Try.f6) 0 9 (q + 1) [(2, .int .u16 ((m : Nat) : Int)), (9, .int .i64 ((n : Nat) : Int)), (10, .string s), (11, .int .i64 ((i : Nat) : Int))] [] k := by
      intro q
      induction q with
      | zero =>
        intro i s hi hn hs hk
        rw [loopN_succ]
        show tFlp (m : Nat) (n : Nat) (i : Nat) s _
        rw [tFlp_eq, dF (by omega)]
        exact hk
      | succ q ih =>
        intro i s hi hn hs hk
        rw [loopN_succ]
        show tFlp (m : Nat) (n : Nat) (i : Nat) s _
        rw [tFlp_eq, dT (by omega)]
        intro x1 h1
        have h1 : x1 = ((i : Nat) : Int) := by rw [h1]; exact wrap_cast .u64 (by rw [show cap .u64 = 18446744073709551616 by decide]; omega)
        subst h1
        rw [dT (by omega)]
        intro x2 h2 x3 h3
        replace h2 := shr_i (m := m) (i := i) (by omega) h2
        rw [h2, show (2 : Int) = ((2 : Nat) : Int) from rfl, tmod_cast] at h3
        have hstep : ∀ (s' : ByteArray), s' = (if m / 2 ^ i % 2 = 1 then flipT s (n + i) else s) → loopN cFlips (codeOf Try.f6) 0 9 (q + 1) [(2, .int .u16 ((m : Nat) : Int)), (9, .int .i64 ((n : Nat) : Int)), (10, .string s'), (11, .int .i64 ((i + 1 : Nat) : Int))] [] k := by
          intro s' e'
          have es : s'.size = s.size := by
            rw [e']; split
            · exact flip_size _ _
            · rfl
          refine ih (i + 1) s' (by omega) (by rw [es]; exact hn) (by rw [es]; exact hs) ?_
          rw [e']; exact hk
        by_cases hb : m / 2 ^ i % 2 = 1
        · rw [dT (by omega)]
          intro x5 h5
          rw [iAdd_i64 (by omega) (by omega)] at h5
          refine ⟨by omega, by omega, ?_⟩
          intro x6 h6 x7 h7
          rw [iAdd_i64 (by omega) (by omega)] at h7
          obtain rfl : x7 = ((i + 1 : Nat) : Int) := by omega
          refine hstep x6 ?_
          rw [if_pos hb, h6, h5]
          unfold flipN
          rw [show ((n : Nat) : Int) + ((i : Nat) : Int) = ((n + i : Nat) : Int) by omega, Int.emod_eq_of_lt (by omega) (by omega), Int.toNat_natCast]
        · rw [dF (by omega)]
          intro x7 h7
          rw [iAdd_i64 (by omega) (by omega)] at h7
          obtain rfl : x7 = ((i + 1 : Nat) : Int) := by omega
          exact hstep s (by rw [if_neg hb])
    exact key 16 0 s rfl (by omega) hs hk
  · exact hT.elim
theorem tFlips_ok : AllOk Try.prog G0 tFlips := ⟨okPck, okFlk, tLawT_ok⟩
def sFlipsL : Spec := fun args h K => match args, h with
  | [.agg ⟨[.int .i64 _, .int .i64 _, .int .i64 _, .int .i64 _, .int .i64 _, .string d, .int .u32 wd]⟩, .int .i64 _, .int .u16 m], [] => d.size < 2 ^ 62 ∧ 0 ≤ wd ∧ wd < 2 ^ 32 ∧ 0 ≤ m ∧ m < 65536 ∧ K (.bool true) []
  | _, _ => False
set_option maxHeartbeats 1600000 in
theorem okFlips : SpecOk Try.prog G0 6 sFlipsL :=
  spec2 mixed tFlips_ok Try.func6 (by kernel_rfl : Try.f6.body = some (codeOf Try.f6)) cFlips rfl rfl rfl (by kernel_rfl) (ids := [9]) (by kernel_rfl) ⟨by intro e h k hT; exact loopFl e h k hT, trivial⟩ (by
    intro args h K hk
    unfold sFlipsL at hk
    split at hk
    · rename_i cr ch ma co fi d wd x m
      obtain ⟨hd, w0, w1, m0, m1, hk⟩ := hk
      show bFlips cr ch ma co fi d wd x m K
      rw [bFlips_eq]
      simp only [forall_eq]
      refine ⟨hd, w0, w1, ?_⟩
      cases hv : vldT cr ch ma co fi d.size with
      | false =>
        have e1 : putTE cr ch ma co fi d = 2 := by unfold putTE; rw [hv]; rfl
        rw [e1, dnF (by decide), dnF (by decide)]
        exact hk
      | true =>
        have e1 : putTE cr ch ma co fi d = 0 := by unfold putTE; rw [hv]; rfl
        have e2 : putT cr ch ma co fi d wd = encT cr.toNat ch.toNat ma.toNat co.toNat fi.toNat d wd.toNat := by unfold putT; rw [hv, if_pos rfl]
        obtain ⟨⟨a0, a1⟩, ⟨b0, b1⟩, ⟨c0, c1⟩, ⟨d0, d1⟩, ⟨f0, f1⟩, f2⟩ := vldT_iff.1 hv
        obtain ⟨E, hE⟩ : ∃ E, putT cr ch ma co fi d wd = E := ⟨_, rfl⟩
        have hg : getTE E = 0 := by
          rw [← hE, e2]
          refine enc_get ?_
          rw [Int.toNat_of_nonneg a0, Int.toNat_of_nonneg b0, Int.toNat_of_nonneg c0, Int.toNat_of_nonneg d0, Int.toNat_of_nonneg (by omega)]
          exact hv
        have hsz : E.size = 12 + d.size := by rw [← hE, e2, encT_size]
        rw [e1, hE, dnT rfl]
        by_cases hm : m = 0
        · subst hm
          rw [dT rfl, dnT rfl, decide_eq_true rfl]
          exact hk
        rw [dF hm, dF (by omega)]
        have q1 : iMul .i64 8 ((E.size : Nat) : Int) = ((8 * E.size : Nat) : Int) := by rw [iMul_i64 (by omega) (by omega)]; push_cast; rfl
        have q2 : iSub .i64 ((8 * E.size : Nat) : Int) 15 = ((8 * E.size - 15 : Nat) : Int) := by rw [iSub_i64 (by omega) (by omega)]; omega
        rw [q1, q2]
        have hlt := Int.emod_lt_of_pos x (show (0 : Int) < ((8 * E.size - 15 : Nat) : Int) by omega)
        have hnn := Int.emod_nonneg x (show ((8 * E.size - 15 : Nat) : Int) ≠ 0 by omega)
        obtain ⟨n, hn⟩ := nat_of hnn
        obtain ⟨m, rfl⟩ := nat_of m0
        have hn' : Int.emod x ((8 * E.size - 15 : Nat) : Int) = ((n : Nat) : Int) := hn
        refine ⟨by omega, by omega, ?_⟩
        rw [hn']
        refine ⟨by omega, by omega, trivial, by omega, by omega, by omega, ?_⟩
        rw [Int.toNat_natCast, Int.toNat_natCast]
        have hbs := burst_size 16 E n m 0
        refine ⟨by rw [hbs]; omega, ?_⟩
        have h0 := (tail_iff (s := E) (by omega)).2 (getTE_0.1 hg).2.2.1
        have h1 := burst_crc (s := E) (n := n) (m := m) (by omega) (by omega) (by omega) h0
        have h2 : getTE (burst 16 E n m 0) = 100 := by
          unfold getTE
          rw [if_neg (by rw [hbs]; omega), if_pos]
          intro h3
          have h4 := (tail_iff (s := burst 16 E n m 0) (by rw [hbs]; omega)).2 h3
          rw [hbs] at h4
          exact h1 h4
        rw [h2, decide_eq_true rfl]
        exact hk
    · exact hk.elim)
end Go.Am.Tmf
