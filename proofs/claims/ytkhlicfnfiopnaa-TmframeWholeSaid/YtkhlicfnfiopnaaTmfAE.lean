/-
  Tmframe: laws about plain values. Own work.
-/
import Derived.Test.YtkhlicfnfiopnaaTmfZ
namespace Go.Am.Tmf
open Go Go.Am Go.Am.Lib Go.Proofs
open Go.Am.Pkt (G0 codeOf mixed none_ok by2)
set_option maxRecDepth 100000

def sShownT : Spec := fun args h K => match args, h with
  | [], [] => K (.bool true) []
  | _, _ => False
theorem okShownT : SpecOk Try.prog G0 9 sShownT := by
  intro W0 hG args h K hk
  unfold sShownT at hk
  split at hk
  · exact sound_flat (args := []) (v := .bool true) rfl rfl hk fun w _ _ => shown_walk w
  · exact hk.elim
def tLawT : List (Nat × Spec) := [(9, sShownT), (10, sPutT), (11, sPutT), (12, sGetT), (13, sGetT)]
theorem tLawT_ok : AllOk Try.prog G0 tLawT := ⟨okShownT, okPutT, okRPutT, okGetT, okRGetT, trivial⟩
noncomputable def cPuts : FCfg := { mkG Try.prog G0 tLawT 31 [(0, [1]), (1, [1, 8]), (2, [2]), (3, [1, 12]), (4, [2]), (5, [1, 3, 4]), (6, [3, 4, 5, 6]), (7, [2])] [] [] [] [] [] 40 0 with hold := lookL [] }
noncomputable def bPuts (cr ch ma co fi : Int) (d : ByteArray) (wd : Int) (K : Value → AHeap → Prop) : Prop := bodyK cPuts (codeOf Try.f3) Try.f3.results.toList [frV cr ch ma co fi d wd] [] K
noncomputable def cGets : FCfg := { mkG Try.prog G0 tLawT 30 [(0, [0]), (1, [0, 8]), (2, [2]), (3, [0, 11]), (4, [2]), (5, [0, 3, 4]), (6, [3, 4, 5, 6]), (7, [2])] [] [] [] [] [] 40 0 with hold := lookL [] }
noncomputable def bGets (s : ByteArray) (K : Value → AHeap → Prop) : Prop := bodyK cGets (codeOf Try.f4) Try.f4.results.toList [.string s] [] K
noncomputable def cBackT : FCfg := { mkG Try.prog G0 tLawT 73 [(0, [1, 2]), (1, [1, 2, 13]), (2, [4]), (3, [1, 2, 22]), (4, [4]), (5, [1, 2, 5, 6]), (6, [1, 2, 5, 29]), (7, [1, 2, 5, 7, 8]), (8, [1, 50]), (9, [4]), (10, [1, 6, 9]), (11, [1, 9, 57]), (12, [4]), (13, [1, 10, 11]), (14, [4])] [] [] [] [] [] 40 0 with hold := lookL [] }
noncomputable def bBackT (cr ch ma co fi : Int) (d : ByteArray) (wd : Int) (t : ByteArray) (K : Value → AHeap → Prop) : Prop := bodyK cBackT (codeOf Try.f5) Try.f5.results.toList [frV cr ch ma co fi d wd, .string t] [] K
theorem bPuts_eq (cr ch ma co fi : Int) (d : ByteArray) (wd : Int) (K : Value → AHeap → Prop) : bPuts cr ch ma co fi d wd K = (∀ x1 : Int, ((x1 = (((ByteArray.size d) : Nat) : Int)) → (cond (decide ((x1 > (5000 : Int)))) (K (Value.bool Bool.true) []) (((ByteArray.size d) < (4611686018427387904 : Nat)) ∧ (((0 : Int) ≤ wd) ∧ ((wd < (4294967296 : Int)) ∧ (∀ x2 : ByteArray, ((x2 = (putT cr ch ma co fi d wd)) → (∀ x3 : Int, ((x3 = (putTE cr ch ma co fi d)) → (((ByteArray.size d) < (4611686018427387904 : Nat)) ∧ (((0 : Int) ≤ wd) ∧ ((wd < (4294967296 : Int)) ∧ (∀ x4 : ByteArray, ((x4 = (putT cr ch ma co fi d wd)) → (∀ x5 : Int, ((x5 = (putTE cr ch ma co fi d)) → (cond (strEq x2 x4) (K (Value.bool (decide ((x3 = x5)))) []) (K (Value.bool Bool.false) []))))))))))))))))))) := by
  kernel_rfl
theorem bGets_eq (s : ByteArray) (K : Value → AHeap → Prop) : bGets s K = (∀ x1 : Int, ((x1 = (((ByteArray.size s) : Nat) : Int)) → (cond (decide ((x1 > (5000 : Int)))) (K (Value.bool Bool.true) []) (((ByteArray.size s) < (4611686018427387904 : Nat)) ∧ (∀ x2 : Int, ((x2 = (getTE s)) → (((ByteArray.size s) < (4611686018427387904 : Nat)) ∧ (∀ x3 : Int, ((x3 = (getTE s)) → (cond ((decide (((okG s ((by2N s 0) / (64 : Nat) : Nat)) = (okG s ((by2N s 0) / (64 : Nat) : Nat))))) && ((decide (((okG s (((by2N s 0) / (8 : Nat) : Nat) % (8 : Nat) : Nat)) = (okG s (((by2N s 0) / (8 : Nat) : Nat) % (8 : Nat) : Nat))))) && ((decide (((okG s (Lib.byteAt s (2 : Nat))) = (okG s (Lib.byteAt s (2 : Nat)))))) && ((decide (((okG s (Lib.byteAt s (3 : Nat))) = (okG s (Lib.byteAt s (3 : Nat)))))) && ((decide (((okG s (by2N s (4 : Nat))) = (okG s (by2N s (4 : Nat)))))) && ((strEq (gDa s) (gDa s)) && ((decide (((okG s (gWd s)) = (okG s (gWd s))))) && Bool.true))))))) (K (Value.bool (decide ((x2 = x3)))) []) (K (Value.bool Bool.false) []))))))))))) := by
  kernel_rfl
theorem bBackT_eq (cr ch ma co fi : Int) (d : ByteArray) (wd : Int) (t : ByteArray) (K : Value → AHeap → Prop) : bBackT cr ch ma co fi d wd t K = (∀ x1 : Int, ((x1 = (((ByteArray.size d) : Nat) : Int)) → (cond (decide ((x1 > (5000 : Int)))) (K (Value.bool Bool.true) []) (∀ x2 : Int, ((x2 = (((ByteArray.size t) : Nat) : Int)) → (cond (decide ((x2 > (5000 : Int)))) (K (Value.bool Bool.true) []) (((ByteArray.size d) < (4611686018427387904 : Nat)) ∧ (((0 : Int) ≤ wd) ∧ ((wd < (4294967296 : Int)) ∧ (∀ x3 : ByteArray, ((x3 = (putT cr ch ma co fi d wd)) → (∀ x4 : Int, ((x4 = (putTE cr ch ma co fi d)) → (cond (decide ((x4 = (0 : Int)))) (((ByteArray.size x3) < (4611686018427387904 : Nat)) ∧ (∀ x8 : Int, ((x8 = (getTE x3)) → (cond (!(decide ((x8 = (0 : Int))))) (K (Value.bool Bool.false) []) (cond (!((decide (((okG x3 ((by2N x3 0) / (64 : Nat) : Nat)) = cr))) && ((decide (((okG x3 (((by2N x3 0) / (8 : Nat) : Nat) % (8 : Nat) : Nat)) = ch))) && ((decide (((okG x3 (Lib.byteAt x3 (2 : Nat))) = ma))) && ((decide (((okG x3 (Lib.byteAt x3 (3 : Nat))) = co))) && ((decide (((okG x3 (by2N x3 (4 : Nat))) = fi))) && ((strEq (gDa x3) d) && ((decide (((okG x3 (gWd x3)) = wd))) && Bool.true)))))))) (K (Value.bool Bool.false) []) (∀ x9 : Int, ((x9 = (((ByteArray.size x3) : Nat) : Int)) → (∀ x10 : Int, ((x10 = (((ByteArray.size d) : Nat) : Int)) → (∀ x11 : Int, ((x11 = (iAdd IntKind.i64 x10 (12 : Int))) → (cond (!(decide ((x9 = x11)))) (K (Value.bool Bool.false) []) (((ByteArray.size t) < (4611686018427387904 : Nat)) ∧ (∀ x12 : Int, ((x12 = (getTE t)) → (cond (!(decide ((x12 = (0 : Int))))) (K (Value.bool ((decide (((okG t ((by2N t 0) / (64 : Nat) : Nat)) = (0 : Int)))) && ((decide (((okG t (((by2N t 0) / (8 : Nat) : Nat) % (8 : Nat) : Nat)) = (0 : Int)))) && ((decide (((okG t (Lib.byteAt t (2 : Nat))) = (0 : Int)))) && ((decide (((okG t (Lib.byteAt t (3 : Nat))) = (0 : Int)))) && ((decide (((okG t (by2N t (4 : Nat))) = (0 : Int)))) && ((strEq (gDa t) (ByteArray.mk (Array.mk []))) && ((decide (((okG t (gWd t)) = (0 : Int)))) && Bool.true)))))))) []) (((ByteArray.size (gDa t)) < (4611686018427387904 : Nat)) ∧ (((0 : Int) ≤ (okG t (gWd t))) ∧ (((okG t (gWd t)) < (4294967296 : Int)) ∧ (∀ x13 : ByteArray, ((x13 = (putT (okG t ((by2N t 0) / (64 : Nat) : Nat)) (okG t (((by2N t 0) / (8 : Nat) : Nat) % (8 : Nat) : Nat)) (okG t (Lib.byteAt t (2 : Nat))) (okG t (Lib.byteAt t (3 : Nat))) (okG t (by2N t (4 : Nat))) (gDa t) (okG t (gWd t)))) → (∀ x14 : Int, ((x14 = (putTE (okG t ((by2N t 0) / (64 : Nat) : Nat)) (okG t (((by2N t 0) / (8 : Nat) : Nat) % (8 : Nat) : Nat)) (okG t (Lib.byteAt t (2 : Nat))) (okG t (Lib.byteAt t (3 : Nat))) (okG t (by2N t (4 : Nat))) (gDa t))) → (cond (decide ((x14 = (0 : Int)))) (K (Value.bool (strEq x13 t)) []) (K (Value.bool Bool.false) []))))))))))))))))))))))))) (((ByteArray.size t) < (4611686018427387904 : Nat)) ∧ (∀ x5 : Int, ((x5 = (getTE t)) → (cond (!(decide ((x5 = (0 : Int))))) (K (Value.bool ((decide (((okG t ((by2N t 0) / (64 : Nat) : Nat)) = (0 : Int)))) && ((decide (((okG t (((by2N t 0) / (8 : Nat) : Nat) % (8 : Nat) : Nat)) = (0 : Int)))) && ((decide (((okG t (Lib.byteAt t (2 : Nat))) = (0 : Int)))) && ((decide (((okG t (Lib.byteAt t (3 : Nat))) = (0 : Int)))) && ((decide (((okG t (by2N t (4 : Nat))) = (0 : Int)))) && ((strEq (gDa t) (ByteArray.mk (Array.mk []))) && ((decide (((okG t (gWd t)) = (0 : Int)))) && Bool.true)))))))) []) (((ByteArray.size (gDa t)) < (4611686018427387904 : Nat)) ∧ (((0 : Int) ≤ (okG t (gWd t))) ∧ (((okG t (gWd t)) < (4294967296 : Int)) ∧ (∀ x6 : ByteArray, ((x6 = (putT (okG t ((by2N t 0) / (64 : Nat) : Nat)) (okG t (((by2N t 0) / (8 : Nat) : Nat) % (8 : Nat) : Nat)) (okG t (Lib.byteAt t (2 : Nat))) (okG t (Lib.byteAt t (3 : Nat))) (okG t (by2N t (4 : Nat))) (gDa t) (okG t (gWd t)))) → (∀ x7 : Int, ((x7 = (putTE (okG t ((by2N t 0) / (64 : Nat) : Nat)) (okG t (((by2N t 0) / (8 : Nat) : Nat) % (8 : Nat) : Nat)) (okG t (Lib.byteAt t (2 : Nat))) (okG t (Lib.byteAt t (3 : Nat))) (okG t (by2N t (4 : Nat))) (gDa t))) → (cond (decide ((x7 = (0 : Int)))) (K (Value.bool (strEq x6 t)) []) (K (Value.bool Bool.false) []))))))))))))))))))))))))))) := by
  kernel_rfl
end Go.Am.Tmf

namespace Go.Am.Tmf
open Go Go.Am Go.Am.Lib Go.Proofs
open Go.Am.Pkt (G0 codeOf mixed none_ok by2)
set_option maxRecDepth 100000

theorem hd_byte {cr ch ma co fi : Nat} {d : ByteArray} {wd : Nat} (j : Nat) : byteAt (hdT cr ch ma co fi d wd) j = if j < 6 + d.size then (if j < 6 then byteAt ⟨⟨by2 (cr * 64 + ch * 8) ++ (by2 (ma * 256 + co) ++ by2 fi)⟩⟩ j else byteAt d (j - 6)) else byteAt ⟨⟨by2 (wd / 65536) ++ by2 (wd % 65536)⟩⟩ (j - (6 + d.size)) := by
  unfold hdT
  rw [byteAt_append, byteAt_append, ByteArray.size_append, size6]
theorem enc_byte {cr ch ma co fi : Nat} {d : ByteArray} {wd : Nat} (j : Nat) : byteAt (encT cr ch ma co fi d wd) j = if j < 10 + d.size then byteAt (hdT cr ch ma co fi d wd) j else byteAt ⟨⟨by2 (crc (hdT cr ch ma co fi d wd))⟩⟩ (j - (10 + d.size)) := by
  unfold encT
  rw [byteAt_append, hdT_size]
theorem enc_two {cr ch ma co fi : Nat} {d : ByteArray} {wd : Nat} (h : cr * 64 + ch * 8 < 65536) : by2N (encT cr ch ma co fi d wd) 0 = cr * 64 + ch * 8 := by
  unfold by2N
  rw [encT_at (by omega), encT_at (by omega), two_at0 h, two_at1]; omega
theorem enc_ma {cr ch ma co fi : Nat} {d : ByteArray} {wd : Nat} (h : ma < 256) (h2 : co < 256) : byteAt (encT cr ch ma co fi d wd) 2 = ma ∧ byteAt (encT cr ch ma co fi d wd) 3 = co := by
  constructor
  · rw [encT_at (by omega), show (2 : Nat) = 0 + 2 from rfl, two_off, two_at0 (by omega)]; omega
  · rw [encT_at (by omega), show (3 : Nat) = 1 + 2 from rfl, two_off, two_at1]; omega
theorem enc_fi {cr ch ma co fi : Nat} {d : ByteArray} {wd : Nat} (h : fi < 65536) : by2N (encT cr ch ma co fi d wd) 4 = fi := by
  unfold by2N
  rw [encT_at (by omega), encT_at (by omega), show (4 : Nat) = 0 + 2 + 2 from rfl, show (0 + 2 + 2 + 1 : Nat) = 1 + 2 + 2 from rfl, two_off, two_off, two_off, two_off, two_nil fi, two_at0 h, two_at1]; omega
theorem enc_dat {cr ch ma co fi : Nat} {d : ByteArray} {wd : Nat} : datT (encT cr ch ma co fi d wd) = d := by
  refine bytes_eq ?_ fun j hj => ?_
  · unfold datT; rw [ByteArray.size_extract, encT_size]; omega
  · unfold datT at hj ⊢
    rw [ByteArray.size_extract, encT_size] at hj
    rw [byteAt_cut, if_pos (by rw [encT_size]; omega), enc_byte, if_pos (by omega), hd_byte, if_pos (by omega), if_neg (by omega)]
    congr 1; omega
theorem enc_wd {cr ch ma co fi : Nat} {d : ByteArray} {wd : Nat} (h : wd < 2 ^ 32) : gWd (encT cr ch ma co fi d wd) = wd := by
  unfold gWd by2N
  rw [encT_size]
  have e : ∀ k, k < 4 → byteAt (encT cr ch ma co fi d wd) (6 + d.size + k) = byteAt ⟨⟨by2 (wd / 65536) ++ by2 (wd % 65536)⟩⟩ k := by
    intro k hk
    rw [enc_byte, if_pos (by omega), hd_byte, if_neg (by omega)]
    congr 1; omega
  rw [show 12 + d.size - 6 = 6 + d.size + 0 by omega, show 6 + d.size + 0 + 1 = 6 + d.size + 1 by omega, show 12 + d.size - 4 = 6 + d.size + 2 by omega, show 6 + d.size + 2 + 1 = 6 + d.size + 3 by omega,
    e 0 (by omega), e 1 (by omega), e 2 (by omega), e 3 (by omega), show (2 : Nat) = 0 + 2 from rfl, show (3 : Nat) = 1 + 2 from rfl, two_off, two_off, two_nil (wd % 65536), two_at0 (by omega), two_at1, two_at0 (by omega), two_at1]
  omega
theorem enc_hd {cr ch ma co fi : Nat} {d : ByteArray} {wd : Nat} : (encT cr ch ma co fi d wd).extract 0 ((encT cr ch ma co fi d wd).size - 2) = hdT cr ch ma co fi d wd := by
  refine bytes_eq ?_ fun j hj => ?_
  · rw [ByteArray.size_extract, encT_size, hdT_size]; omega
  · rw [ByteArray.size_extract, encT_size] at hj
    rw [byteAt_cut, if_pos (by rw [encT_size]; omega), enc_byte, if_pos (by omega), Nat.zero_add]
theorem enc_crc {cr ch ma co fi : Nat} {d : ByteArray} {wd : Nat} : by2N (encT cr ch ma co fi d wd) ((encT cr ch ma co fi d wd).size - 2) = crc (hdT cr ch ma co fi d wd) := by
  have hc := crc_lt (hdT cr ch ma co fi d wd)
  unfold by2N
  rw [encT_size, enc_byte, if_neg (by omega), enc_byte, if_neg (by omega), show 12 + d.size - 2 - (10 + d.size) = 0 by omega, show 12 + d.size - 2 + 1 - (10 + d.size) = 1 by omega, two_nil, two_at0 hc, two_at1]
  omega
theorem getTE_0 {s : ByteArray} : getTE s = 0 ↔ (44 ≤ s.size ∧ s.size ≤ 212 ∧ by2N s (s.size - 2) = crc (s.extract 0 (s.size - 2)) ∧ vldS s = true) := by
  unfold getTE
  constructor
  · intro h
    split at h
    · cases h
    split at h
    · cases h
    split at h
    · cases h
    rename_i h1 h2 h3
    exact ⟨by omega, by omega, by omega, by simpa using h3⟩
  · rintro ⟨h1, h2, h3, h4⟩
    rw [if_neg (by omega), if_neg (by omega), if_neg (by rw [h4]; decide)]
/-- Get of what Put returns. -/
theorem enc_get {cr ch ma co fi : Nat} {d : ByteArray} {wd : Nat} (hv : vldT cr ch ma co fi d.size = true) : getTE (encT cr ch ma co fi d wd) = 0 := by
  obtain ⟨⟨_, a1⟩, ⟨_, a2⟩, ⟨_, a3⟩, ⟨_, a4⟩, ⟨a5, a6⟩, a7⟩ := vldT_iff.1 hv
  have h0 := enc_two (cr := cr) (ch := ch) (ma := ma) (co := co) (fi := fi) (d := d) (wd := wd) (by omega)
  obtain ⟨h1, h2⟩ := enc_ma (cr := cr) (ch := ch) (ma := ma) (co := co) (fi := fi) (d := d) (wd := wd) (by omega) (by omega)
  have h3 := enc_fi (cr := cr) (ch := ch) (ma := ma) (co := co) (fi := fi) (d := d) (wd := wd) (by omega)
  refine getTE_0.2 ⟨by rw [encT_size]; omega, by rw [encT_size]; omega, by rw [enc_crc, enc_hd], ?_⟩
  unfold vldS
  rw [h0, h1, h2, h3, enc_dat, decide_eq_true (show (cr * 64 + ch * 8) % 8 = 0 by omega), Bool.true_and, show (cr * 64 + ch * 8) / 64 = cr by omega, show (cr * 64 + ch * 8) / 8 % 8 = ch by omega]
  exact hv
/-- Put of what Get accepts. -/
theorem get_put {t : ByteArray} (h : getTE t = 0) : putTE (okG t (by2N t 0 / 64)) (okG t (by2N t 0 / 8 % 8)) (okG t (byteAt t 2)) (okG t (byteAt t 3)) (okG t (by2N t 4)) (gDa t) = 0 ∧
    putT (okG t (by2N t 0 / 64)) (okG t (by2N t 0 / 8 % 8)) (okG t (byteAt t 2)) (okG t (byteAt t 3)) (okG t (by2N t 4)) (gDa t) (okG t (gWd t)) = t := by
  obtain ⟨h1, h2, h3, h4⟩ := getTE_0.1 h
  unfold vldS at h4
  simp only [Bool.and_eq_true, decide_eq_true_eq] at h4
  have e : ∀ n, okG t n = ((n : Nat) : Int) := fun n => if_pos h
  have ed : gDa t = datT t := if_pos h
  unfold putTE putT
  simp only [e, ed]
  rw [h4.2, if_pos rfl, if_pos rfl]
  exact ⟨rfl, (encT_back h1 h3).2 h4.1⟩
def sPutsL : Spec := fun args h K => match args, h with
  | [.agg ⟨[.int .i64 _, .int .i64 _, .int .i64 _, .int .i64 _, .int .i64 _, .string _, .int .u32 wd]⟩], [] => 0 ≤ wd ∧ wd < 2 ^ 32 ∧ K (.bool true) []
  | _, _ => False
theorem okPuts : SpecOk Try.prog G0 3 sPutsL :=
  spec2 mixed tLawT_ok Try.func3 (by kernel_rfl : Try.f3.body = some (codeOf Try.f3)) cPuts rfl rfl rfl (by kernel_rfl) (ids := []) (by kernel_rfl) trivial (by
    intro args h K hk
    unfold sPutsL at hk
    split at hk
    · rename_i cr ch ma co fi d wd
      obtain ⟨w0, w1, hk⟩ := hk
      show bPuts cr ch ma co fi d wd K
      rw [bPuts_eq]
      simp only [forall_eq, strEq_self, cond_true, decide_true]
      by_cases h : ((d.size : Nat) : Int) > 5000
      · rw [dT h]; exact hk
      · rw [dF h]; exact ⟨by omega, w0, w1, by omega, w0, w1, hk⟩
    · exact hk.elim)
def sGetsL : Spec := fun args h K => match args, h with
  | [.string _], [] => K (.bool true) []
  | _, _ => False
theorem okGets : SpecOk Try.prog G0 4 sGetsL :=
  spec2 mixed tLawT_ok Try.func4 (by kernel_rfl : Try.f4.body = some (codeOf Try.f4)) cGets rfl rfl rfl (by kernel_rfl) (ids := []) (by kernel_rfl) trivial (by
    intro args h K hk
    unfold sGetsL at hk
    split at hk
    · rename_i s
      show bGets s K
      rw [bGets_eq]
      simp only [forall_eq, strEq_self, cond_true, decide_true, Bool.and_true]
      by_cases h : ((s.size : Nat) : Int) > 5000
      · rw [dT h]; exact hk
      · rw [dF h]; exact ⟨by omega, by omega, hk⟩
    · exact hk.elim)
end Go.Am.Tmf

namespace Go.Am.Tmf
open Go Go.Am Go.Am.Lib Go.Proofs
open Go.Am.Pkt (G0 codeOf mixed none_ok by2)
set_option maxRecDepth 100000

def sBackL : Spec := fun args h K => match args, h with
  | [.agg ⟨[.int .i64 _, .int .i64 _, .int .i64 _, .int .i64 _, .int .i64 _, .string _, .int .u32 wd]⟩, .string _], [] => 0 ≤ wd ∧ wd < 2 ^ 32 ∧ K (.bool true) []
  | _, _ => False
theorem gWd_lt (t : ByteArray) : gWd t < 2 ^ 32 := by
  have h0 := by2N_lt t (t.size - 6)
  have h1 := by2N_lt t (t.size - 4)
  unfold gWd; omega
theorem okG_gWd (t : ByteArray) : 0 ≤ okG t (gWd t) ∧ okG t (gWd t) < 4294967296 := by
  have := gWd_lt t
  unfold okG
  split <;> omega
theorem gDa_size (t : ByteArray) (h : t.size ≤ 5000) : (gDa t).size < 4611686018427387904 := by
  unfold gDa
  split
  · unfold datT; rw [ByteArray.size_extract]; omega
  · show (0 : Nat) < _; decide
theorem putT_size {cr ch ma co fi : Int} {d : ByteArray} {wd : Int} (h : d.size ≤ 5000) : (putT cr ch ma co fi d wd).size ≤ 5012 := by
  unfold putT
  split
  · rw [encT_size]; omega
  · show (0 : Nat) ≤ _; omega
set_option maxHeartbeats 1600000 in
theorem okBackT : SpecOk Try.prog G0 5 sBackL :=
  spec2 mixed tLawT_ok Try.func5 (by kernel_rfl : Try.f5.body = some (codeOf Try.f5)) cBackT rfl rfl rfl (by kernel_rfl) (ids := []) (by kernel_rfl) trivial (by
    intro args h K hk
    unfold sBackL at hk
    split at hk
    · rename_i cr ch ma co fi d wd t
      obtain ⟨w0, w1, hk⟩ := hk
      show bBackT cr ch ma co fi d wd t K
      rw [bBackT_eq]
      simp only [forall_eq]
      by_cases h : ((d.size : Nat) : Int) > 5000
      · rw [dT h]; exact hk
      rw [dF h]
      by_cases h2 : ((t.size : Nat) : Int) > 5000
      · rw [dT h2]; exact hk
      rw [dF h2]
      refine ⟨by omega, w0, w1, ?_⟩
      obtain ⟨hg0, hg1⟩ := okG_gWd t
      have hgd := gDa_size t (by omega)
      have hps := putT_size (cr := cr) (ch := ch) (ma := ma) (co := co) (fi := fi) (wd := wd) (d := d) (by omega)
      have rest : (((ByteArray.size t) < (4611686018427387904 : Nat)) ∧ (cond (!(decide ((getTE t) = (0 : Int)))) (K (Value.bool ((decide (((okG t ((by2N t 0) / (64 : Nat) : Nat)) = (0 : Int)))) && ((decide (((okG t (((by2N t 0) / (8 : Nat) : Nat) % (8 : Nat) : Nat)) = (0 : Int)))) && ((decide (((okG t (Lib.byteAt t (2 : Nat))) = (0 : Int)))) && ((decide (((okG t (Lib.byteAt t (3 : Nat))) = (0 : Int)))) && ((decide (((okG t (by2N t (4 : Nat))) = (0 : Int)))) && ((strEq (gDa t) (ByteArray.mk (Array.mk []))) && ((decide (((okG t (gWd t)) = (0 : Int)))) && Bool.true)))))))) []) (((ByteArray.size (gDa t)) < (4611686018427387904 : Nat)) ∧ (((0 : Int) ≤ (okG t (gWd t))) ∧ (((okG t (gWd t)) < (4294967296 : Int)) ∧ (cond (decide ((putTE (okG t ((by2N t 0) / (64 : Nat) : Nat)) (okG t (((by2N t 0) / (8 : Nat) : Nat) % (8 : Nat) : Nat)) (okG t (Lib.byteAt t (2 : Nat))) (okG t (Lib.byteAt t (3 : Nat))) (okG t (by2N t (4 : Nat))) (gDa t)) = (0 : Int))) (K (Value.bool (strEq (putT (okG t ((by2N t 0) / (64 : Nat) : Nat)) (okG t (((by2N t 0) / (8 : Nat) : Nat) % (8 : Nat) : Nat)) (okG t (Lib.byteAt t (2 : Nat))) (okG t (Lib.byteAt t (3 : Nat))) (okG t (by2N t (4 : Nat))) (gDa t) (okG t (gWd t))) t)) []) (K (Value.bool Bool.false) []))))))) := by
        refine ⟨by omega, ?_⟩
        by_cases hg : getTE t = 0
        · obtain ⟨p1, p2⟩ := get_put hg
          rw [dnT hg]
          refine ⟨hgd, hg0, hg1, ?_⟩
          rw [dT p1, p2, strEq_self]
          exact hk
        · rw [dnF hg]
          have e : ∀ n, okG t n = 0 := fun n => if_neg hg
          have ed : gDa t = ⟨⟨[]⟩⟩ := if_neg hg
          simp only [e, ed, strEq_self, decide_true, Bool.and_self]
          exact hk
      cases hv : vldT cr ch ma co fi d.size with
      | false =>
        have e1 : putTE cr ch ma co fi d = 2 := by unfold putTE; rw [hv]; rfl
        rw [e1, dF (by decide)]
        exact rest
      | true =>
        obtain ⟨⟨a0, a1⟩, ⟨b0, b1⟩, ⟨c0, c1⟩, ⟨d0, d1⟩, ⟨f0, f1⟩, f2⟩ := vldT_iff.1 hv
        obtain ⟨cr, rfl⟩ := nat_of a0
        obtain ⟨ch, rfl⟩ := nat_of d0
        obtain ⟨ma, rfl⟩ := nat_of b0
        obtain ⟨co, rfl⟩ := nat_of c0
        obtain ⟨fi, rfl⟩ := nat_of (show (0 : Int) ≤ fi by omega)
        obtain ⟨wd, rfl⟩ := nat_of w0
        have e1 : putTE ((cr : Nat) : Int) ((ch : Nat) : Int) ((ma : Nat) : Int) ((co : Nat) : Int) ((fi : Nat) : Int) d = 0 := by unfold putTE; rw [hv]; rfl
        have e2 : putT ((cr : Nat) : Int) ((ch : Nat) : Int) ((ma : Nat) : Int) ((co : Nat) : Int) ((fi : Nat) : Int) d ((wd : Nat) : Int) = encT cr ch ma co fi d wd := by unfold putT; rw [hv, if_pos rfl]; rfl
        have g := enc_get (cr := cr) (ch := ch) (ma := ma) (co := co) (fi := fi) (d := d) (wd := wd) hv
        have h0 := enc_two (cr := cr) (ch := ch) (ma := ma) (co := co) (fi := fi) (d := d) (wd := wd) (by omega)
        obtain ⟨h1, h2⟩ := enc_ma (cr := cr) (ch := ch) (ma := ma) (co := co) (fi := fi) (d := d) (wd := wd) (by omega) (by omega)
        have h3 := enc_fi (cr := cr) (ch := ch) (ma := ma) (co := co) (fi := fi) (d := d) (wd := wd) (by omega)
        have h4 := enc_wd (cr := cr) (ch := ch) (ma := ma) (co := co) (fi := fi) (d := d) (wd := wd) (by omega)
        have e : ∀ n, okG (encT cr ch ma co fi d wd) n = ((n : Nat) : Int) := fun n => if_pos g
        have ed : gDa (encT cr ch ma co fi d wd) = d := (if_pos g).trans enc_dat
        have es : iAdd .i64 ((d.size : Nat) : Int) 12 = ((12 + d.size : Nat) : Int) := by rw [iAdd_i64 (by omega) (by omega)]; omega
        rw [e1, e2] 
        rw [dT rfl]
        refine ⟨by rw [encT_size]; omega, ?_⟩
        rw [dnT g, h0, h1, h2, h3, h4, ed, strEq_self, e, e, e, e, e, e, encT_size, es, dnT rfl]
        rw [show (cr * 64 + ch * 8) / 64 = cr by omega, show (cr * 64 + ch * 8) / 8 % 8 = ch by omega]
        simp only [decide_true, Bool.and_self, Bool.not_true, cond_false]
        exact rest
    · exact hk.elim)
end Go.Am.Tmf
