/-
  Joiner: the reference's Feed, beside what the program's joiner knows. Own work.
-/
import Derived.Test.YtbpfhjmiaaaoiaaJoiT1
import Derived.Test.YtbpfhjmiaaaoiaaJoiT2
import Derived.Test.YtbpfhjmiaaaoiaaJoiT3
import Derived.Test.YtbpfhjmiaaaoiaaJoiT4
namespace Go.Am.Joi
open Go Go.Am Go.Am.Lib Go.Lib Go.Proofs Go.RowKit
open Go.Am.Own
open Go.Am.Pkt (G0)
set_option maxRecDepth 100000

variable {S : Nat → Prop} {b : Nat} {J : Js} {L : List Rn} {w : World}
theorem set_last (L : List Rn) (z x : Rn) : (L ++ [z]).set L.length x = L ++ [x] := by
  rw [List.set_append_right _ _ (Nat.le_refl _), Nat.sub_self]; rfl
theorem get_last (L : List Rn) (z : Rn) : (L ++ [z])[L.length]? = some z := by
  rw [List.getElem?_append_right (Nat.le_refl _), Nat.sub_self]; rfl
theorem ba_of {t : ByteArray} {l : L8} (h : l = t.data.toList) : (⟨⟨l⟩⟩ : ByteArray) = t := by subst h; rfl
theorem rfeed_at (h : RAt S b L w) (hR : Rel J L) (hn : L.length ≤ 1000000) (c : Bool) {a f n : Nat} {d : ByteArray} (hv : Pkt.validB a f n d = true) (ha : a < 2047) :
    Calls Try.prog 17 #[.pointer (some ⟨b, 0, none⟩), .agg #[.bool c, .int .i64 ((a : Nat) : Int), .int .i64 ((f : Nat) : Int), .int .i64 ((n : Nat) : Int), .string d]] w fun e w' => e = .returned (.tuple #[ansV (ansK (J a) f n d), .int .i64 0]) ∧ ∃ L', Rel (J.set a (newK (J a) f n d)) L' ∧ L'.length ≤ L.length + 1 ∧ RAt S b L' w' ∧ FrS S w w' := by
  obtain ⟨v, hC⟩ := h
  have hS := hC.hS
  have hSb := hC.hb
  have hbd := hC.bd
  have h : RAt S b L w := ⟨v, hC⟩
  have hvb := Pkt.validB_iff.1 hv
  have hf4 : f = 0 ∨ f = 1 ∨ f = 2 ∨ f = 3 := by omega
  cases hJ : J a with
  | none =>
    have hno : ∀ (j : Nat) (y : Rn), L[j]? = some y → y.ap ≠ a := fun j y hy e => by
      obtain ⟨k, h1, _⟩ := hR.mem j y hy
      rw [e, hJ] at h1; cases h1
    have hat := fun (S' : Nat → Prop) w1 (h1 : RAt S' b L w1) => at_new h1 hn ha hno
    have hlen : (L ++ [(⟨a, 0, false, ⟨#[]⟩⟩ : Rn)]).length ≤ 1000001 := by rw [List.length_append]; show L.length + 1 ≤ _; omega
    have hx := get_last L ⟨a, 0, false, ⟨#[]⟩⟩
    have fin : ∀ {x' : Rn} {k' : Kn}, x'.ap = a → RelK x' k' → Rel (J.set a k') ((L ++ [(⟨a, 0, false, ⟨#[]⟩⟩ : Rn)]).set L.length x') ∧ ((L ++ [(⟨a, 0, false, ⟨#[]⟩⟩ : Rn)]).set L.length x').length ≤ L.length + 1 := fun h1 h2 => by
      rw [set_last]
      exact ⟨hR.push hJ h1 h2, by rw [List.length_append]; exact Nat.le_refl _⟩
    rcases hf4 with hf | hf | hf | hf
    · have e1 : ansK none f n d = ⟨false, ⟨#[]⟩, 0, false⟩ := by subst hf; rfl
      have e2 : newK none f n d = ⟨(n + 1) % 16384, false, []⟩ := by subst hf; rfl
      rw [e1, e2]
      exact (rf_new_0 h hS hSb c hv ha hat hx rfl (by show 0 < 16384; decide) (fun e => by cases e) hlen rfl (by omega) (by omega)).mono fun e w' ⟨q1, q2, q3⟩ => ⟨q1, _, (fin rfl ⟨rfl, rfl, fun e => by cases e⟩).1, (fin (k' := ⟨(n + 1) % 16384, false, []⟩) rfl ⟨rfl, rfl, fun e => by cases e⟩).2, q2, q3⟩
    · have e1 : ansK none f n d = ⟨false, ⟨#[]⟩, 0, false⟩ := by subst hf; rfl
      have e2 : newK none f n d = ⟨(n + 1) % 16384, true, d.data.toList⟩ := by subst hf; rfl
      rw [e1, e2]
      exact (rf_new_1 h hS hSb c hv ha hat hx rfl (by show 0 < 16384; decide) (fun e => by cases e) hlen rfl hf).mono fun e w' ⟨q1, q2, q3⟩ => ⟨q1, _, (fin rfl ⟨rfl, rfl, fun _ => rfl⟩).1, (fin (k' := ⟨(n + 1) % 16384, true, d.data.toList⟩) rfl ⟨rfl, rfl, fun _ => rfl⟩).2, q2, q3⟩
    · have e1 : ansK none f n d = ⟨false, ⟨#[]⟩, 0, false⟩ := by subst hf; rfl
      have e2 : newK none f n d = ⟨(n + 1) % 16384, false, []⟩ := by subst hf; rfl
      rw [e1, e2]
      exact (rf_new_0 h hS hSb c hv ha hat hx rfl (by show 0 < 16384; decide) (fun e => by cases e) hlen rfl (by omega) (by omega)).mono fun e w' ⟨q1, q2, q3⟩ => ⟨q1, _, (fin rfl ⟨rfl, rfl, fun e => by cases e⟩).1, (fin (k' := ⟨(n + 1) % 16384, false, []⟩) rfl ⟨rfl, rfl, fun e => by cases e⟩).2, q2, q3⟩
    · have e1 : ansK none f n d = ⟨true, d, 0, false⟩ := by subst hf; rfl
      have e2 : newK none f n d = ⟨(n + 1) % 16384, false, []⟩ := by subst hf; rfl
      rw [e1, e2]
      exact (rf_new_3 h hS hSb c hv ha hat hx rfl (by show 0 < 16384; decide) (fun e => by cases e) hlen rfl hf).mono fun e w' ⟨q1, q2, q3⟩ => ⟨q1, _, (fin rfl ⟨rfl, rfl, fun e => by cases e⟩).1, (fin (k' := ⟨(n + 1) % 16384, false, []⟩) rfl ⟨rfl, rfl, fun e => by cases e⟩).2, q2, q3⟩
  | some k =>
    obtain ⟨x0, hx0, hxa⟩ := List.mem_map.1 (hR.all a k hJ)
    obtain ⟨i, hx⟩ := List.mem_iff_getElem?.1 hx0
    obtain ⟨k1, hk1, rk1, rk2, rk3⟩ := hR.mem i x0 hx
    rw [hxa, hJ] at hk1
    injection hk1 with hk1
    subst hk1
    have hfirst : ∀ (j : Nat) (y : Rn), j < i → L[j]? = some y → y.ap ≠ a := fun j y hj hy e => by
      have := nodup_get hR.nd (x := a) (i := i) (j := j) (by rw [List.getElem?_map, hx]; exact congrArg some hxa) (by rw [List.getElem?_map, hy]; exact congrArg some e)
      omega
    have hat : ∀ (S' : Nat → Prop) w1, RAt S' b L w1 → Calls Try.prog 35 #[.pointer (some ⟨b, 0, none⟩), .int .i64 ((a : Nat) : Int)] w1 fun e w' => e = .returned (.tuple #[.int .i64 ((i : Nat) : Int), .bool false]) ∧ RAt S' b L w' ∧ FrS S' w1 w' := fun S' w1 h1 =>
      (at_old h1 hn hx hxa hfirst).mono fun e w' ⟨q1, q2⟩ => by subst q2; exact ⟨q1, h1, FrS.refl _ _⟩
    have hbx := hbd i x0 hx
    obtain ⟨mi, hmi⟩ : ∃ mi, mi = missK (some k) n := ⟨_, rfl⟩
    have hmi2 : mi = (n + (16384 - x0.next)) % 16384 := by rw [hmi, ← rk1]; rfl
    have hlen : L.length ≤ 1000001 := by omega
    have fin : ∀ {x' : Rn} {k' : Kn}, x'.ap = a → RelK x' k' → Rel (J.set a k') (L.set i x') := fun h1 h2 => by
      rw [← hxa]
      exact hR.set hx (by rw [h1, hxa]) h2
    have fl : ∀ x' : Rn, (L.set i x').length ≤ L.length + 1 := fun x' => by rw [List.length_set]; omega
    cases hop : k.opn with
    | false =>
      have hxo : x0.opn = false := by rw [← rk2]; exact hop
      have hb : brkK (some k) f n = false := by unfold brkK opnK; simp [hop]
      have hs : stayK (some k) f n = false := by unfold stayK opnK; simp [hop]
      have c0 : f ≠ 1 → f ≠ 3 → _ := fun g1 g3 => rf_cl_0 h hS hSb c hv ha hat hx hxa hbx.2.1 hbx.2.2 hlen hxo hmi2 g1 g3
      rcases hf4 with hf | hf | hf | hf
      · have e1 : ansK (some k) f n d = ⟨false, ⟨#[]⟩, mi, false⟩ := by unfold ansK; rw [hs, hb, ← hmi, hf]; rfl
        have e2 : newK (some k) f n d = ⟨(n + 1) % 16384, false, []⟩ := by unfold newK; rw [hs, hf]; rfl
        rw [e1, e2]
        exact (c0 (by omega) (by omega)).mono fun e w' ⟨q1, q2, q3⟩ => ⟨q1, _, fin rfl ⟨rfl, rfl, fun e => by cases e⟩, fl _, q2, q3⟩
      · have e1 : ansK (some k) f n d = ⟨false, ⟨#[]⟩, mi, false⟩ := by unfold ansK; rw [hs, hb, ← hmi, hf]; rfl
        have e2 : newK (some k) f n d = ⟨(n + 1) % 16384, true, d.data.toList⟩ := by unfold newK; rw [hf]; rfl
        rw [e1, e2]
        exact (rf_cl_1 h hS hSb c hv ha hat hx hxa hbx.2.1 hbx.2.2 hlen hxo hmi2 hf).mono fun e w' ⟨q1, q2, q3⟩ => ⟨q1, _, fin rfl ⟨rfl, rfl, fun _ => rfl⟩, fl _, q2, q3⟩
      · have e1 : ansK (some k) f n d = ⟨false, ⟨#[]⟩, mi, false⟩ := by unfold ansK; rw [hs, hb, ← hmi, hf]; rfl
        have e2 : newK (some k) f n d = ⟨(n + 1) % 16384, false, []⟩ := by unfold newK; rw [hs, hf]; rfl
        rw [e1, e2]
        exact (c0 (by omega) (by omega)).mono fun e w' ⟨q1, q2, q3⟩ => ⟨q1, _, fin rfl ⟨rfl, rfl, fun e => by cases e⟩, fl _, q2, q3⟩
      · have e1 : ansK (some k) f n d = ⟨true, d, mi, false⟩ := by unfold ansK; rw [hb, ← hmi, hf]; rfl
        have e2 : newK (some k) f n d = ⟨(n + 1) % 16384, false, []⟩ := by unfold newK; rw [hs, hf]; rfl
        rw [e1, e2]
        exact (rf_cl_3 h hS hSb c hv ha hat hx hxa hbx.2.1 hbx.2.2 hlen hxo hmi2 hf).mono fun e w' ⟨q1, q2, q3⟩ => ⟨q1, _, fin rfl ⟨rfl, rfl, fun e => by cases e⟩, fl _, q2, q3⟩
    | true =>
      have hxo : x0.opn = true := by rw [← rk2]; exact hop
      have htx := rk3 hxo
      have htl : k.text.length = x0.txt.size := by rw [htx]; rfl
      have hbk : brkK (some k) f n = (decide (mi ≠ 0) || decide (f % 2 = 1)) := by unfold brkK opnK; simp only [hop, Bool.true_and, ← hmi]
      have hsk : stayK (some k) f n = !(decide (mi ≠ 0) || decide (f % 2 = 1)) := by unfold stayK opnK; simp only [hop, Bool.true_and, hbk]
      by_cases hm : mi = 0
      · rcases hf4 with hf | hf | hf | hf
        · have hs : stayK (some k) f n = true := by rw [hsk, hm, hf]; rfl
          by_cases hl : k.text.length + d.size ≤ 16384
          · have e1 : ansK (some k) f n d = ⟨false, ⟨#[]⟩, mi, false⟩ := by
              unfold ansK; rw [if_neg (by omega), if_neg (by omega), if_pos hs, if_pos (show (txtK (some k)).length + d.size ≤ 16384 from hl), if_neg (by omega), ← hmi]; rfl
            have e2 : newK (some k) f n d = ⟨(n + 1) % 16384, true, k.text ++ d.data.toList⟩ := by
              unfold newK; rw [if_neg (by omega), if_pos ⟨hf, hs, hl⟩]; rfl
            rw [e1, e2]
            exact (rf_op_0f h hS hSb c hv ha hat hx hxa hbx.2.1 hbx.2.2 hlen hxo hmi2 hm hf (by omega)).mono fun e w' ⟨q1, q2, q3⟩ => ⟨q1, _, fin rfl ⟨rfl, rfl, fun _ => by rw [htx]; show _ = (x0.txt ++ d).data.toList; rw [ByteArray.data_append, Array.toList_append]⟩, fl _, q2, q3⟩
          · have e1 : ansK (some k) f n d = ⟨false, ⟨#[]⟩, mi, true⟩ := by
              unfold ansK; rw [if_neg (by omega), if_neg (by omega), if_pos hs, if_neg (show ¬ (txtK (some k)).length + d.size ≤ 16384 from hl), ← hmi]; rfl
            have e2 : newK (some k) f n d = ⟨(n + 1) % 16384, false, []⟩ := by
              unfold newK; rw [if_neg (by omega), if_neg (fun hh => hl hh.2.2)]
            rw [e1, e2]
            exact (rf_op_l h hS hSb c hv ha hat hx hxa hbx.2.1 hbx.2.2 hlen hxo hmi2 hm (by omega) (by omega) (by omega)).mono fun e w' ⟨q1, q2, q3⟩ => ⟨q1, _, fin rfl ⟨rfl, rfl, fun e => by cases e⟩, fl _, q2, q3⟩
        · have hb : brkK (some k) f n = true := by rw [hbk, hm, hf]; rfl
          have e1 : ansK (some k) f n d = ⟨false, ⟨#[]⟩, mi, true⟩ := by unfold ansK; rw [if_neg (by omega), if_pos hf, hb, ← hmi]; rfl
          have e2 : newK (some k) f n d = ⟨(n + 1) % 16384, true, d.data.toList⟩ := by unfold newK; rw [if_pos hf]
          rw [e1, e2]
          exact (rf_bn_1 h hS hSb c hv ha hat hx hxa hbx.2.1 hbx.2.2 hlen hxo hmi2 hm hf).mono fun e w' ⟨q1, q2, q3⟩ => ⟨q1, _, fin rfl ⟨rfl, rfl, fun _ => rfl⟩, fl _, q2, q3⟩
        · have hs : stayK (some k) f n = true := by rw [hsk, hm, hf]; rfl
          by_cases hl : k.text.length + d.size ≤ 16384
          · have e1 : ansK (some k) f n d = ⟨true, ⟨⟨k.text⟩⟩ ++ d, mi, false⟩ := by
              unfold ansK; rw [if_neg (by omega), if_neg (by omega), if_pos hs, if_pos (show (txtK (some k)).length + d.size ≤ 16384 from hl), if_pos hf, ← hmi]; rfl
            have e2 : newK (some k) f n d = ⟨(n + 1) % 16384, false, []⟩ := by
              unfold newK; rw [if_neg (by omega), if_neg (fun hh => by omega)]
            rw [e1, e2, ba_of htx]
            exact (rf_op_2f h hS hSb c hv ha hat hx hxa hbx.2.1 hbx.2.2 hlen hxo hmi2 hm hf (by omega)).mono fun e w' ⟨q1, q2, q3⟩ => ⟨q1, _, fin rfl ⟨rfl, rfl, fun e => by cases e⟩, fl _, q2, q3⟩
          · have e1 : ansK (some k) f n d = ⟨false, ⟨#[]⟩, mi, true⟩ := by
              unfold ansK; rw [if_neg (by omega), if_neg (by omega), if_pos hs, if_neg (show ¬ (txtK (some k)).length + d.size ≤ 16384 from hl), ← hmi]; rfl
            have e2 : newK (some k) f n d = ⟨(n + 1) % 16384, false, []⟩ := by
              unfold newK; rw [if_neg (by omega), if_neg (fun hh => by omega)]
            rw [e1, e2]
            exact (rf_op_l h hS hSb c hv ha hat hx hxa hbx.2.1 hbx.2.2 hlen hxo hmi2 hm (by omega) (by omega) (by omega)).mono fun e w' ⟨q1, q2, q3⟩ => ⟨q1, _, fin rfl ⟨rfl, rfl, fun e => by cases e⟩, fl _, q2, q3⟩
        · have hb : brkK (some k) f n = true := by rw [hbk, hm, hf]; rfl
          have e1 : ansK (some k) f n d = ⟨true, d, mi, true⟩ := by unfold ansK; rw [if_pos hf, hb, ← hmi]
          have e2 : newK (some k) f n d = ⟨(n + 1) % 16384, false, []⟩ := by unfold newK; rw [if_neg (by omega), if_neg (fun hh => by omega)]
          rw [e1, e2]
          exact (rf_bn_3 h hS hSb c hv ha hat hx hxa hbx.2.1 hbx.2.2 hlen hxo hmi2 hm hf).mono fun e w' ⟨q1, q2, q3⟩ => ⟨q1, _, fin rfl ⟨rfl, rfl, fun e => by cases e⟩, fl _, q2, q3⟩
      · have hb : brkK (some k) f n = true := by rw [hbk, decide_eq_true hm, Bool.true_or]
        have hs : stayK (some k) f n = false := by rw [hsk, decide_eq_true hm, Bool.true_or]; rfl
        have c0 : f ≠ 1 → f ≠ 3 → _ := fun g1 g3 => rf_br_0 h hS hSb c hv ha hat hx hxa hbx.2.1 hbx.2.2 hlen hxo hmi2 hm g1 g3
        rcases hf4 with hf | hf | hf | hf
        · have e1 : ansK (some k) f n d = ⟨false, ⟨#[]⟩, mi, true⟩ := by unfold ansK; rw [if_neg (by omega), if_neg (by omega), if_neg (by rw [hs]; decide), hb, ← hmi]; rfl
          have e2 : newK (some k) f n d = ⟨(n + 1) % 16384, false, []⟩ := by unfold newK; rw [if_neg (by omega), if_neg (fun hh => by rw [hs] at hh; exact absurd hh.2.1 (by decide))]
          rw [e1, e2]
          exact (c0 (by omega) (by omega)).mono fun e w' ⟨q1, q2, q3⟩ => ⟨q1, _, fin rfl ⟨rfl, rfl, fun e => by cases e⟩, fl _, q2, q3⟩
        · have e1 : ansK (some k) f n d = ⟨false, ⟨#[]⟩, mi, true⟩ := by unfold ansK; rw [if_neg (by omega), if_pos hf, hb, ← hmi]; rfl
          have e2 : newK (some k) f n d = ⟨(n + 1) % 16384, true, d.data.toList⟩ := by unfold newK; rw [if_pos hf]
          rw [e1, e2]
          exact (rf_br_1 h hS hSb c hv ha hat hx hxa hbx.2.1 hbx.2.2 hlen hxo hmi2 hm hf).mono fun e w' ⟨q1, q2, q3⟩ => ⟨q1, _, fin rfl ⟨rfl, rfl, fun _ => rfl⟩, fl _, q2, q3⟩
        · have e1 : ansK (some k) f n d = ⟨false, ⟨#[]⟩, mi, true⟩ := by unfold ansK; rw [if_neg (by omega), if_neg (by omega), if_neg (by rw [hs]; decide), hb, ← hmi]; rfl
          have e2 : newK (some k) f n d = ⟨(n + 1) % 16384, false, []⟩ := by unfold newK; rw [if_neg (by omega), if_neg (fun hh => by omega)]
          rw [e1, e2]
          exact (c0 (by omega) (by omega)).mono fun e w' ⟨q1, q2, q3⟩ => ⟨q1, _, fin rfl ⟨rfl, rfl, fun e => by cases e⟩, fl _, q2, q3⟩
        · have e1 : ansK (some k) f n d = ⟨true, d, mi, true⟩ := by unfold ansK; rw [if_pos hf, hb, ← hmi]
          have e2 : newK (some k) f n d = ⟨(n + 1) % 16384, false, []⟩ := by unfold newK; rw [if_neg (by omega), if_neg (fun hh => by omega)]
          rw [e1, e2]
          exact (rf_br_3 h hS hSb c hv ha hat hx hxa hbx.2.1 hbx.2.2 hlen hxo hmi2 hm hf).mono fun e w' ⟨q1, q2, q3⟩ => ⟨q1, _, fin rfl ⟨rfl, rfl, fun e => by cases e⟩, fl _, q2, q3⟩
end Go.Am.Joi
