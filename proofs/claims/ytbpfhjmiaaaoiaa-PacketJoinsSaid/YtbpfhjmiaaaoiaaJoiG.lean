/-
  Joiner: Feed. Own work.
-/
import Derived.Test.YtbpfhjmiaaaoiaaJoiF1
import Derived.Test.YtbpfhjmiaaaoiaaJoiF2
import Derived.Test.YtbpfhjmiaaaoiaaJoiF3
import Derived.Test.YtbpfhjmiaaaoiaaJoiF4
namespace Go.Am.Joi
open Go Go.Am Go.Am.Lib Go.Lib Go.Proofs Go.RowKit
open Go.Am.Own
set_option maxRecDepth 100000

def ansV (x : An) : Value := .agg #[.bool x.whole, .string x.msg, .int .i64 ((x.missed : Nat) : Int), .bool x.broken]
variable {S : Nat → Prop} {b N : Nat} {J : Js} {w : World}
theorem feed_at (h : JAt S b N J w) (hN : N < maxLen) (c : Bool) {a f n : Nat} {d : ByteArray} (hv : Pkt.validB a f n d = true) (ha : a < 2047) :
    Calls Try.prog 16 #[.pointer (some ⟨b, 0, none⟩), .agg #[.bool c, .int .i64 ((a : Nat) : Int), .int .i64 ((f : Nat) : Int), .int .i64 ((n : Nat) : Int), .string d]] w fun e w' => e = .returned (.tuple #[ansV (ansK (J a) f n d), .int .i64 0]) ∧ JAt S b (N + 1) (J.set a (newK (J a) f n d)) w' ∧ FrS S w w' := by
  obtain ⟨mb, tvs, D, h⟩ := h
  have hvb := Pkt.validB_iff.1 hv
  have hf4 : f = 0 ∨ f = 1 ∨ f = 2 ∨ f = 3 := by omega
  cases hJ : J a with
  | none =>
    rcases hf4 with hf | hf | hf | hf
    · have e1 : ansK none f n d = ⟨false, ⟨#[]⟩, 0, false⟩ := by subst hf; rfl
      have e2 : newK none f n d = ⟨(n + 1) % 16384, false, []⟩ := by subst hf; rfl
      rw [e1, e2]; exact feed_1_0 h hN c hv ha hJ hf
    · have e1 : ansK none f n d = ⟨false, ⟨#[]⟩, 0, false⟩ := by subst hf; rfl
      have e2 : newK none f n d = ⟨(n + 1) % 16384, true, d.data.toList⟩ := by subst hf; rfl
      rw [e1, e2]; exact feed_1_1 h hN c hv ha hJ hf
    · have e1 : ansK none f n d = ⟨false, ⟨#[]⟩, 0, false⟩ := by subst hf; rfl
      have e2 : newK none f n d = ⟨(n + 1) % 16384, false, []⟩ := by subst hf; rfl
      rw [e1, e2]; exact feed_1_2 h hN c hv ha hJ hf
    · have e1 : ansK none f n d = ⟨true, d, 0, false⟩ := by subst hf; rfl
      have e2 : newK none f n d = ⟨(n + 1) % 16384, false, []⟩ := by subst hf; rfl
      rw [e1, e2]; exact feed_1_3 h hN c hv ha hJ hf
  | some k =>
    obtain ⟨mi, hmi⟩ : ∃ mi, mi = missK (some k) n := ⟨_, rfl⟩
    cases hop : k.opn with
    | false =>
      have hb : brkK (some k) f n = false := by unfold brkK opnK; simp [hop]
      have hs : stayK (some k) f n = false := by unfold stayK opnK; simp [hop]
      rcases hf4 with hf | hf | hf | hf
      · have e1 : ansK (some k) f n d = ⟨false, ⟨#[]⟩, mi, false⟩ := by unfold ansK; rw [hs, hb, ← hmi, hf]; rfl
        have e2 : newK (some k) f n d = ⟨(n + 1) % 16384, false, []⟩ := by unfold newK; rw [hs, hf]; rfl
        rw [e1, e2]; exact feed_2_0 h hN c hv ha hJ hop hmi hf
      · have e1 : ansK (some k) f n d = ⟨false, ⟨#[]⟩, mi, false⟩ := by unfold ansK; rw [hs, hb, ← hmi, hf]; rfl
        have e2 : newK (some k) f n d = ⟨(n + 1) % 16384, true, d.data.toList⟩ := by unfold newK; rw [hf]; rfl
        rw [e1, e2]; exact feed_2_1 h hN c hv ha hJ hop hmi hf
      · have e1 : ansK (some k) f n d = ⟨false, ⟨#[]⟩, mi, false⟩ := by unfold ansK; rw [hs, hb, ← hmi, hf]; rfl
        have e2 : newK (some k) f n d = ⟨(n + 1) % 16384, false, []⟩ := by unfold newK; rw [hs, hf]; rfl
        rw [e1, e2]; exact feed_2_2 h hN c hv ha hJ hop hmi hf
      · have e1 : ansK (some k) f n d = ⟨true, d, mi, false⟩ := by unfold ansK; rw [hb, ← hmi, hf]; rfl
        have e2 : newK (some k) f n d = ⟨(n + 1) % 16384, false, []⟩ := by unfold newK; rw [hs, hf]; rfl
        rw [e1, e2]; exact feed_2_3 h hN c hv ha hJ hop hmi hf
    | true =>
      have hbk : brkK (some k) f n = (decide (mi ≠ 0) || decide (f % 2 = 1)) := by unfold brkK opnK; simp only [hop, Bool.true_and, ← hmi]
      have hsk : stayK (some k) f n = !(decide (mi ≠ 0) || decide (f % 2 = 1)) := by unfold stayK opnK; simp only [hop, Bool.true_and, hbk]
      by_cases hm : mi = 0
      · rcases hf4 with hf | hf | hf | hf
        · have hs : stayK (some k) f n = true := by rw [hsk, hm, hf]; rfl
          by_cases hl : k.text.length + d.size ≤ 16384
          · have e1 : ansK (some k) f n d = ⟨false, ⟨#[]⟩, mi, false⟩ := by
              unfold ansK; rw [if_neg (by omega), if_neg (by omega), if_pos hs, if_pos (show (txtK (some k)).length + d.size ≤ 16384 from hl), if_neg (by omega), ← hmi]; rfl
            have e2 : newK (some k) f n d = ⟨(n + 1) % 16384, true, k.text ++ d.data.toList⟩ := by
              unfold newK; rw [if_neg (by omega), if_pos ⟨hf, hs, hl⟩]; rfl
            rw [e1, e2]; exact feed_3_0f h hN c hv ha hJ hop hmi hm hf hl
          · have e1 : ansK (some k) f n d = ⟨false, ⟨#[]⟩, mi, true⟩ := by
              unfold ansK; rw [if_neg (by omega), if_neg (by omega), if_pos hs, if_neg (show ¬ (txtK (some k)).length + d.size ≤ 16384 from hl), ← hmi]; rfl
            have e2 : newK (some k) f n d = ⟨(n + 1) % 16384, false, []⟩ := by
              unfold newK; rw [if_neg (by omega), if_neg (fun hh => hl hh.2.2)]
            rw [e1, e2]; exact feed_3_0l h hN c hv ha hJ hop hmi hm hf hl
        · have hb : brkK (some k) f n = true := by rw [hbk, hm, hf]; rfl
          have e1 : ansK (some k) f n d = ⟨false, ⟨#[]⟩, mi, true⟩ := by unfold ansK; rw [if_neg (by omega), if_pos hf, hb, ← hmi]; rfl
          have e2 : newK (some k) f n d = ⟨(n + 1) % 16384, true, d.data.toList⟩ := by unfold newK; rw [if_pos hf]
          rw [e1, e2]; exact feed_4b_1 h hN c hv ha hJ hop hmi hm hf
        · have hs : stayK (some k) f n = true := by rw [hsk, hm, hf]; rfl
          by_cases hl : k.text.length + d.size ≤ 16384
          · have e1 : ansK (some k) f n d = ⟨true, ⟨⟨k.text⟩⟩ ++ d, mi, false⟩ := by
              unfold ansK; rw [if_neg (by omega), if_neg (by omega), if_pos hs, if_pos (show (txtK (some k)).length + d.size ≤ 16384 from hl), if_pos hf, ← hmi]; rfl
            have e2 : newK (some k) f n d = ⟨(n + 1) % 16384, false, []⟩ := by
              unfold newK; rw [if_neg (by omega), if_neg (fun hh => by omega)]
            rw [e1, e2]; exact feed_3_2f h hN c hv ha hJ hop hmi hm hf hl
          · have e1 : ansK (some k) f n d = ⟨false, ⟨#[]⟩, mi, true⟩ := by
              unfold ansK; rw [if_neg (by omega), if_neg (by omega), if_pos hs, if_neg (show ¬ (txtK (some k)).length + d.size ≤ 16384 from hl), ← hmi]; rfl
            have e2 : newK (some k) f n d = ⟨(n + 1) % 16384, false, []⟩ := by
              unfold newK; rw [if_neg (by omega), if_neg (fun hh => by omega)]
            rw [e1, e2]; exact feed_3_2l h hN c hv ha hJ hop hmi hm hf hl
        · have hb : brkK (some k) f n = true := by rw [hbk, hm, hf]; rfl
          have e1 : ansK (some k) f n d = ⟨true, d, mi, true⟩ := by unfold ansK; rw [if_pos hf, hb, ← hmi]
          have e2 : newK (some k) f n d = ⟨(n + 1) % 16384, false, []⟩ := by unfold newK; rw [if_neg (by omega), if_neg (fun hh => by omega)]
          rw [e1, e2]; exact feed_4b_3 h hN c hv ha hJ hop hmi hm hf
      · have hb : brkK (some k) f n = true := by rw [hbk, decide_eq_true hm, Bool.true_or]
        have hs : stayK (some k) f n = false := by rw [hsk, decide_eq_true hm, Bool.true_or]; rfl
        rcases hf4 with hf | hf | hf | hf
        · have e1 : ansK (some k) f n d = ⟨false, ⟨#[]⟩, mi, true⟩ := by unfold ansK; rw [if_neg (by omega), if_neg (by omega), if_neg (by rw [hs]; decide), hb, ← hmi]; rfl
          have e2 : newK (some k) f n d = ⟨(n + 1) % 16384, false, []⟩ := by unfold newK; rw [if_neg (by omega), if_neg (fun hh => by rw [hs] at hh; exact absurd hh.2.1 (by decide))]
          rw [e1, e2]; exact feed_4a_0 h hN c hv ha hJ hop hmi hm hf
        · have e1 : ansK (some k) f n d = ⟨false, ⟨#[]⟩, mi, true⟩ := by unfold ansK; rw [if_neg (by omega), if_pos hf, hb, ← hmi]; rfl
          have e2 : newK (some k) f n d = ⟨(n + 1) % 16384, true, d.data.toList⟩ := by unfold newK; rw [if_pos hf]
          rw [e1, e2]; exact feed_4a_1 h hN c hv ha hJ hop hmi hm hf
        · have e1 : ansK (some k) f n d = ⟨false, ⟨#[]⟩, mi, true⟩ := by unfold ansK; rw [if_neg (by omega), if_neg (by omega), if_neg (by rw [hs]; decide), hb, ← hmi]; rfl
          have e2 : newK (some k) f n d = ⟨(n + 1) % 16384, false, []⟩ := by unfold newK; rw [if_neg (by omega), if_neg (fun hh => by omega)]
          rw [e1, e2]; exact feed_4a_2 h hN c hv ha hJ hop hmi hm hf
        · have e1 : ansK (some k) f n d = ⟨true, d, mi, true⟩ := by unfold ansK; rw [if_pos hf, hb, ← hmi]
          have e2 : newK (some k) f n d = ⟨(n + 1) % 16384, false, []⟩ := by unfold newK; rw [if_neg (by omega), if_neg (fun hh => by omega)]
          rw [e1, e2]; exact feed_4a_3 h hN c hv ha hJ hop hmi hm hf
end Go.Am.Joi
