/-
  Memory: MemoryUpsets. Printed by mkV.py. Own work.
-/
import Derived.Test.YtjbagcmcpmhfnaaDoorMemU
import Derived.Test.YtjbagcmcpmhfnaaDoorMemQ
namespace Go.Am.Mem
open Go Go.Am Go.Am.Ham Go.Proofs
set_option maxRecDepth 100000

theorem Ups.congr {m : Mem} {vs : List Value} {l : Nat} {p q : Nat → Prop} (d : Ups m vs l p) (h : ∀ j, j < l → (p j ↔ q j)) : Ups m vs l q :=
  ⟨d.g, d.c, d.lo, fun j hj => by
    rcases d.w j hj with ⟨h1, h2⟩ | ⟨h1, h2⟩
    · exact .inl ⟨(h j hj).1 h1, h2⟩
    · exact .inr ⟨fun e => h1 ((h j hj).2 e), h2⟩⟩
theorem store_cnt {m : Mem} (h : CntM m) (i c : Nat) : CntM (storeM m i c) := by
  refine ⟨?_, ?_, ?_, ?_⟩
  · rw [(store_fx _ _ _).1]; exact h.fx0
  · rw [(store_fx _ _ _).1]; exact h.fx1
  · rw [(store_fx _ _ _).2]; exact h.lo0
  · rw [(store_fx _ _ _).2]; exact h.lo1
theorem read_keep {m : Mem} (h : CntM m) (i : Nat) : CntM (readF m i) := by
  unfold readF
  split
  · exact store_cnt (cnt_count h _) _ _
  · exact cnt_count h _
section
variable {m : Mem} {vs : List Value} {l : Nat} {up : Nat → Prop} (hw : OkW .u32 (2 ^ 32) vs l) (d : Ups m vs l up)
include hw d
theorem Ups.dec {j : Nat} (hj : j < l) : (up j ∧ decN (wordAt m j) = (wv vs j, 1, 0)) ∨ (¬ up j ∧ decN (wordAt m j) = (wv vs j, 0, 0)) := by
  rcases d.w j hj with ⟨h1, b, hb, h2⟩ | ⟨h1, h2⟩
  · exact .inl ⟨h1, by rw [h2, dec_flip (hw.lt j hj) hb]⟩
  · exact .inr ⟨h1, by rw [h2, dec_enc (hw.lt j hj)]⟩
theorem Ups.readF {j : Nat} (hj : j < l) : Ups (Mem.readF m j) vs l (fun i => up i ∧ i ≠ j) := by
  have hlo := (read_cnt m j).2
  refine ⟨d.g.readF j, read_keep d.c j, ?_, fun i hi => ?_⟩
  · rw [hlo, if_neg, d.lo]
    unfold kindAt
    rcases d.dec hw hj with ⟨_, h⟩ | ⟨_, h⟩
    · rw [h]; show ¬ (1 : Nat) = 2; omega
    · rw [h]; show ¬ (0 : Nat) = 2; omega
  · rw [d.g.readF_at j hi]
    by_cases e : j = i
    · subst e
      rcases d.dec hw hj with ⟨h1, h⟩ | ⟨h1, h⟩
      · rw [h, if_pos ⟨rfl, rfl⟩]; exact .inr ⟨fun x => x.2 rfl, rfl⟩
      · rw [h, if_neg (fun x => by cases x.1)]
        rcases d.w j hj with ⟨h3, _⟩ | ⟨_, h4⟩
        · exact absurd h3 h1
        · exact .inr ⟨fun x => x.2 rfl, h4⟩
    · rw [if_neg (fun x => e x.2)]
      rcases d.w i hi with ⟨h3, h4⟩ | ⟨h3, h4⟩
      · exact .inl ⟨⟨h3, fun x => e x.symm⟩, h4⟩
      · exact .inr ⟨fun x => h3 x.1, h4⟩
theorem Ups.read {j : Nat} (hj : j < l) : Ups (readS m (j : Nat)) vs l (fun i => up i ∧ i ≠ j) ∧ ((up j ∧ Mem.readR m (j : Nat) = (wv vs j, 1, 0)) ∨ (¬ up j ∧ Mem.readR m (j : Nat) = (wv vs j, 0, 0))) := by
  have hin : (0 : Int) ≤ (j : Nat) ∧ ((j : Nat) : Int) < (l : Nat) := by omega
  refine ⟨?_, ?_⟩
  · unfold readS; rw [d.g.inM hin, if_pos rfl, Int.toNat_natCast]; exact d.readF hw hj
  · rw [d.g.readR hin, Int.toNat_natCast]
    rcases d.dec hw hj with ⟨h1, h⟩ | ⟨h1, h⟩
    · rw [h, if_neg (by show ¬ (1 : Nat) = 2; omega)]; exact .inl ⟨h1, rfl⟩
    · rw [h, if_neg (by show ¬ (0 : Nat) = 2; omega)]; exact .inr ⟨h1, rfl⟩
omit hw in
theorem Ups.flip {j b : Nat} (hj : j < l) (hb : b < 39) (hu : ¬ up j) : Ups (upsS m (j : Nat) (b : Nat)) vs l (fun i => i = j ∨ up i) ∧ upsR m (j : Nat) (b : Nat) = 0 := by
  have hin : (0 : Int) ≤ (j : Nat) ∧ ((j : Nat) : Int) < (l : Nat) := by omega
  have hbb : (0 : Int) ≤ (b : Nat) ∧ ((b : Nat) : Int) < 39 := by omega
  have keep : CntM (upsS m (j : Nat) (b : Nat)) ∧ (upsS m (j : Nat) (b : Nat)).lo = m.lo := by
    unfold upsS
    split
    · exact ⟨⟨d.c.fx0, d.c.fx1, d.c.lo0, d.c.lo1⟩, rfl⟩
    · exact ⟨d.c, rfl⟩
  refine ⟨⟨d.g.ups, keep.1, keep.2.trans d.lo, fun i hi => ?_⟩, d.g.ups_ok hin hbb⟩
  rw [d.g.ups_at hin hbb hi, Int.toNat_natCast, Int.toNat_natCast]
  by_cases e : j = i
  · subst e
    rw [if_pos rfl]
    rcases d.w j hj with ⟨h3, _⟩ | ⟨_, h4⟩
    · exact absurd h3 hu
    · rw [h4]; exact .inl ⟨.inl rfl, b, hb, rfl⟩
  · rw [if_neg e]
    rcases d.w i hi with ⟨h3, h4⟩ | ⟨h3, h4⟩
    · exact .inl ⟨.inr h3, h4⟩
    · exact .inr ⟨fun x => x.elim (fun q => e q.symm) h3, h4⟩
end
theorem Ups.scrubs {vs : List Value} {l : Nat} (hw : OkW .u32 (2 ^ 32) vs l) : ∀ (k : Nat) {m : Mem} {up : Nat → Prop} {s : Nat}, Ups m vs l up → m.scrub = (s : Nat) → s < l →
    Ups (scrubM k m) vs l (fun j => up j ∧ ∀ t, t < k → (s + t) % l ≠ j) ∧ scrubN 2 k m = 0 ∧ ((∃ t, t < k ∧ up ((s + t) % l)) → 1 ≤ scrubN 1 k m)
  | 0, m, up, s, d, _, _ => ⟨d.congr fun j _ => ⟨fun h => ⟨h, fun t ht => by omega⟩, fun h => h.1⟩, rfl, fun ⟨t, ht, _⟩ => by omega⟩
  | k + 1, m, up, s, d, hs, hl => by
    have d1 := d.readF hw hl
    have es : m.scrub.toNat = s := by rw [hs, Int.toNat_natCast]
    have hn := d.g.n
    have e1 : stepM m = { Mem.readF m s with scrub := (((s + 1) % l : Nat) : Int) } := by
      unfold stepM
      rw [es, hs, hn]
      congr 1
    have o := ok_step d.g.ok
    have d2 : Ups (stepM m) vs l (fun i => up i ∧ i ≠ s) := by
      rw [e1] at o ⊢
      exact ⟨⟨o, d1.g.n, d1.g.fuse⟩, ⟨d1.c.fx0, d1.c.fx1, d1.c.lo0, d1.c.lo1⟩, d1.lo, d1.w⟩
    have hs2 : (stepM m).scrub = (((s + 1) % l : Nat) : Int) := by rw [e1]
    obtain ⟨h1, h2, h3⟩ := Ups.scrubs hw k d2 hs2 (Nat.mod_lt _ (by omega))
    have sh : ∀ t, ((s + 1) % l + t) % l = (s + (t + 1)) % l := fun t => by rw [Nat.mod_add_mod]; congr 1; omega
    have hk : (up s ∧ kindAt m s = 1) ∨ (¬ up s ∧ kindAt m s = 0) := by
      unfold kindAt
      rcases d.dec hw hl with ⟨q, h⟩ | ⟨q, h⟩
      · exact .inl ⟨q, by rw [h]⟩
      · exact .inr ⟨q, by rw [h]⟩
    refine ⟨?_, ?_, ?_⟩
    · refine (show Ups (scrubM k (stepM m)) vs l _ from h1).congr fun j _ => ⟨?_, ?_⟩
      · rintro ⟨⟨q1, q2⟩, q3⟩
        refine ⟨q1, fun t ht => ?_⟩
        cases t with
        | zero => rw [Nat.add_zero, Nat.mod_eq_of_lt hl]; exact fun e => q2 e.symm
        | succ t => rw [← sh]; exact q3 t (by omega)
      · rintro ⟨q1, q3⟩
        refine ⟨⟨q1, fun e => q3 0 (by omega) (by rw [Nat.add_zero, Nat.mod_eq_of_lt hl]; exact e.symm)⟩, fun t ht => by rw [sh]; exact q3 (t + 1) (by omega)⟩
    · rw [scrubN, es, h2]
      rcases hk with ⟨_, h⟩ | ⟨_, h⟩ <;> rw [h] <;> rfl
    · rintro ⟨t, ht, hu⟩
      rw [scrubN, es]
      by_cases q : up s
      · rcases hk with ⟨_, h⟩ | ⟨h, _⟩
        · rw [h, if_pos rfl]; omega
        · exact absurd q h
      · have : 1 ≤ scrubN 1 k (stepM m) := h3 (by
          cases t with
          | zero => rw [Nat.add_zero, Nat.mod_eq_of_lt hl] at hu; exact absurd hu q
          | succ t =>
            refine ⟨t, by omega, ?_⟩
            rw [sh]
            exact ⟨hu, fun e => q (by rw [e] at hu; exact hu)⟩)
        omega
theorem Ups.scrub {m : Mem} {vs : List Value} {l : Nat} {up : Nat → Prop} (hw : OkW .u32 (2 ^ 32) vs l) (d : Ups m vs l up) {j : Nat} (hj : j < l) (hu : up j) :
    Ups (scrubS m (l : Nat)) vs l (fun _ => False) ∧ ∃ f, 1 ≤ f ∧ scrubR m (l : Nat) = (f, 0, 0) := by
  have h0 := d.g.ok.scrub0
  have h1 := d.g.ok.scrub1
  have hn := d.g.n
  have hle := d.g.ok.le
  obtain ⟨s, hs⟩ := nat_of h0
  obtain ⟨a1, a2, a3⟩ := Ups.scrubs hw l d hs (by omega)
  have vis : ∀ i, i < l → ∃ t, t < l ∧ (s + t) % l = i := fun i hi => ⟨(i + l - s) % l, Nat.mod_lt _ (by omega), by
    rw [Nat.add_mod_mod, show s + (i + l - s) = i + l by omega, Nat.add_mod_right, Nat.mod_eq_of_lt hi]⟩
  unfold scrubS scrubR
  rw [if_neg (by omega), if_neg (by omega), Int.toNat_natCast]
  refine ⟨a1.congr fun i hi => ⟨fun h => ?_, fun h => h.elim⟩, scrubN 1 l m, ?_, by rw [a2]⟩
  · obtain ⟨t, ht, e⟩ := vis i hi
    exact h.2 t ht e
  · obtain ⟨t, ht, e⟩ := vis j hj
    exact a3 ⟨t, ht, by rw [e]; exact hu⟩
theorem okB_false (l : Nat) : OkB (List.replicate l (Value.bool false)) l ∧ ∀ j, ¬ upf (List.replicate l (Value.bool false)) j := by
  refine ⟨⟨List.length_replicate, fun j hj => ?_⟩, fun j h => ?_⟩
  · rw [List.getD_eq_getElem?_getD, List.getElem?_replicate, if_pos hj]; rfl
  · unfold upf at h
    rw [List.getD_eq_getElem?_getD, List.getElem?_replicate] at h
    split at h <;> cases h
theorem okB_set {fl : List Value} {l j : Nat} (h : OkB fl l) (hj : j < l) : OkB (fl.set j (.bool true)) l ∧ ∀ i, i < l → (upf (fl.set j (.bool true)) i ↔ i = j ∨ upf fl i) := by
  have hl := h.len
  refine ⟨⟨by rw [List.length_set]; exact hl, fun i hi => ?_⟩, fun i hi => ?_⟩
  · rw [getD_set _ _ _ _ (by omega)]
    split
    · rfl
    · exact h.b i hi
  · unfold upf
    rw [getD_set _ _ _ _ (by omega)]
    by_cases e : j = i
    · rw [if_pos e]; exact ⟨fun _ => .inl e.symm, fun _ => rfl⟩
    · rw [if_neg e]; exact ⟨.inr, fun x => x.elim (fun q => absurd q.symm e) id⟩
theorem Wrt.step {m : Mem} {vs : List Value} {l i : Nat} (d : Wrt m vs l i) (hi : i < l) : Wrt (storeM m i (encN (wv vs i))) vs l (i + 1) := by
  have hf := d.g.fuse
  have hn := d.g.n
  refine ⟨⟨ok_store d.g.ok (enc39 _), (store_n _ _ _).trans hn, by rw [store_fuse hf]; exact hf⟩, store_cnt d.c _ _, (store_fx _ _ _).2.trans d.lo, fun j hj => ?_⟩
  rw [store_at d.g.ok (by omega) (by omega), d.w j hj]
  by_cases e : i = j
  · subst e; rw [if_pos rfl, if_pos (by omega)]
  · rw [if_neg e]
    by_cases e2 : j < i
    · rw [if_pos e2, if_pos (by omega)]
    · rw [if_neg e2, if_neg (by omega)]
theorem Wrt.ups {m : Mem} {vs : List Value} {l : Nat} (d : Wrt m vs l l) : Ups m vs l (upf (List.replicate l (Value.bool false))) :=
  ⟨d.g, d.c, d.lo, fun j hj => .inr ⟨(okB_false l).2 j, by rw [d.w j hj, if_pos hj]⟩⟩
theorem key7A (l c : Nat) (l2 c2 : Nat) (us : List Value) (t2 : TypeId) (sc : Bool) (vs : List Value) (t ty ty2 : TypeId) (mv mv2 : Bool) (hw : OkW .u32 (2 ^ 32) vs l) (k : AExit → Env → AHeap → Prop)
    (hk : ∀ m', Wrt m' vs l l → k (.exit 0) [(0, .slice (some ⟨0, 0, some 0⟩) l c), (1, .slice (some ⟨1, 0, some 0⟩) l2 c2), (2, .bool sc), (7, .pointer (some ⟨2, 0, some 0⟩))] (hA vs t us t2 m' ty ty2 mv mv2)) :
    ∀ (q i : Nat) (m : Mem), Wrt m vs l i → i + q = l → loopN cUpp (codeOf Tryd.f4) 0 7 (q + 1) [(0, .slice (some ⟨0, 0, some 0⟩) l c), (1, .slice (some ⟨1, 0, some 0⟩) l2 c2), (2, .bool sc), (7, .pointer (some ⟨2, 0, some 0⟩)), (9, .int .i64 (i : Nat))] (hA vs t us t2 m ty ty2 mv mv2) k := by
  intro q
  induction q with
  | zero =>
    intro i m d hi
    rw [loopN_succ]
    show tU7A vs t us t2 m ty ty2 mv mv2 l c l2 c2 sc i _
    rw [tU7A_eq]
    rintro x1 rfl
    rw [dF (by omega)]
    obtain rfl : i = l := by omega
    exact hk m d
  | succ q ih =>
    intro i m d hi
    have hil : i < l := by omega
    obtain ⟨p1, p2, p3⟩ := hw.at hil
    have hn := d.g.n
    have hle := d.g.ok.le
    have hin : inM m ((i : Nat) : Int) = true := inM_iff.2 (by omega)
    rw [loopN_succ]
    show tU7A vs t us t2 m ty ty2 mv mv2 l c l2 c2 sc i _
    rw [tU7A_eq]
    rintro x1 rfl
    rw [dT (by omega), dT2 (by omega) (by omega), Int.toNat_natCast, dT p1, p2, show isInt .u32 (.int .u32 ((wv vs i : Nat) : Int)) = true from rfl, cond_true, intOf_int, Int.toNat_natCast]
    refine ⟨d.g.ok, by omega, by omega, ?_⟩
    rintro x2 h2 x3 h3
    have e2 : x2 = storeM m i (encN (wv vs i)) := by rw [h2]; unfold writeS; rw [if_pos hin, Int.toNat_natCast]
    rw [dnT (by rw [h3, chkM_in (inM_iff.1 hin)]; rfl)]
    rintro x4 h4
    rw [iAdd_i64 (by omega) (by omega)] at h4
    obtain rfl : x4 = ((i + 1 : Nat) : Int) := by omega
    exact ih (i + 1) x2 (by rw [e2]; exact d.step hil) (by omega)
theorem key29A (l c : Nat) (us : List Value) (t2 : TypeId) (fl vs : List Value) (t ty ty2 ty3 : TypeId) (mv mv2 mv3 : Bool) (hw : OkW .u32 (2 ^ 32) vs l) (hb : OkB fl l) (k : AExit → Env → AHeap → Prop)
    (hk : ∀ m', OkM m' → m'.lo = 0 → k (.exit 4) [(7, .pointer (some ⟨2, 0, some 0⟩))] (hA vs t us t2 m' ty ty2 mv mv2)) :
    ∀ (q i : Nat) (m : Mem), Ups m vs l (fun j => upf fl j ∧ i ≤ j) → i + q = l → loopN cUpp (codeOf Tryd.f4) 2 29 (q + 1) [(0, .slice (some ⟨0, 0, some 0⟩) l c), (7, .pointer (some ⟨2, 0, some 0⟩)), (10, .slice (some ⟨4, 0, some 0⟩) l 2), (19, .int .i64 (i : Nat))] (gA vs t us t2 m ty ty2 mv mv2 fl ty3 mv3) k := by
  intro q
  induction q with
  | zero =>
    intro i m d hi
    rw [loopN_succ]
    show tU29A vs t us t2 m ty ty2 mv mv2 fl ty3 mv3 l c i _
    rw [tU29A_eq]
    rintro x1 rfl
    rw [dF (by omega)]
    exact hk m d.g.ok d.lo
  | succ q ih =>
    intro i m d hi
    have hil : i < l := by omega
    obtain ⟨p1, p2, p3⟩ := hw.at hil
    have hn := d.g.n
    have hle := d.g.ok.le
    have hfl := hb.len
    obtain ⟨d1, d2⟩ := d.read hw hil
    rw [loopN_succ]
    show tU29A vs t us t2 m ty ty2 mv mv2 fl ty3 mv3 l c i _
    rw [tU29A_eq]
    rintro x1 rfl
    rw [dT (by omega)]
    refine ⟨d.g.ok, ?_⟩
    rintro x2 h2 x3 h3 x4 h4 x5 h5
    have e3 : x3 = ((wv vs i : Nat) : Int) := by rw [h3]; rcases d2 with ⟨_, q⟩ | ⟨_, q⟩ <;> rw [q]
    have e5 : x5 = 0 := by rw [h5]; rcases d2 with ⟨_, q⟩ | ⟨_, q⟩ <;> rw [q] <;> rfl
    have e4 : decide (x4 = 1) = boolOf (fl.getD i undef) := by
      rw [h4]
      rcases d2 with ⟨u, q⟩ | ⟨u, q⟩
      · rw [q]; exact (decide_eq_true rfl).trans (show upf fl i from u.1).symm
      · rw [q]
        have : ¬ upf fl i := fun e => u ⟨e, Nat.le_refl _⟩
        unfold upf at this
        rw [Bool.not_eq_true] at this
        rw [this]; rfl
    have nx : ∀ x : Int, x = iAdd .i64 (i : Nat) 1 → loopN cUpp (codeOf Tryd.f4) 2 29 (q + 1) [(0, .slice (some ⟨0, 0, some 0⟩) l c), (7, .pointer (some ⟨2, 0, some 0⟩)), (10, .slice (some ⟨4, 0, some 0⟩) l 2), (19, .int .i64 x)] (gA vs t us t2 x2 ty ty2 mv mv2 fl ty3 mv3) k := by
      intro x hx
      rw [iAdd_i64 (by omega) (by omega)] at hx
      obtain rfl : x = ((i + 1 : Nat) : Int) := by omega
      refine ih (i + 1) x2 ?_ (by omega)
      rw [h2]
      exact d1.congr fun j _ => ⟨fun h => ⟨h.1.1, by have := h.1.2; have := h.2; omega⟩, fun h => ⟨⟨h.1, by have := h.2; omega⟩, by have := h.2; omega⟩⟩
    rw [dT2 (by omega) (by omega), Int.toNat_natCast, dT p1, p2, show isInt .u32 (.int .u32 ((wv vs i : Nat) : Int)) = true from rfl, cond_true, intOf_int, dnT (by rw [e3])]
    rw [dT (by omega), hb.b i hil, cond_true, dnT e4, dnT (by rw [e5]), dT2 (by omega) (by omega)]
    exact nx
theorem key7N (l c : Nat) (sc : Bool) (vs : List Value) (t ty ty2 : TypeId) (mv mv2 : Bool) (hw : OkW .u32 (2 ^ 32) vs l) (k : AExit → Env → AHeap → Prop)
    (hk : ∀ m', Wrt m' vs l l → k (.exit 0) [(0, .slice (some ⟨0, 0, some 0⟩) l c), (1, .slice none 0 0), (2, .bool sc), (7, .pointer (some ⟨1, 0, some 0⟩))] (hN vs t m' ty ty2 mv mv2)) :
    ∀ (q i : Nat) (m : Mem), Wrt m vs l i → i + q = l → loopN cUpp (codeOf Tryd.f4) 0 7 (q + 1) [(0, .slice (some ⟨0, 0, some 0⟩) l c), (1, .slice none 0 0), (2, .bool sc), (7, .pointer (some ⟨1, 0, some 0⟩)), (9, .int .i64 (i : Nat))] (hN vs t m ty ty2 mv mv2) k := by
  intro q
  induction q with
  | zero =>
    intro i m d hi
    rw [loopN_succ]
    show tU7N vs t m ty ty2 mv mv2 l c sc i _
    rw [tU7N_eq]
    rintro x1 rfl
    rw [dF (by omega)]
    obtain rfl : i = l := by omega
    exact hk m d
  | succ q ih =>
    intro i m d hi
    have hil : i < l := by omega
    obtain ⟨p1, p2, p3⟩ := hw.at hil
    have hn := d.g.n
    have hle := d.g.ok.le
    have hin : inM m ((i : Nat) : Int) = true := inM_iff.2 (by omega)
    rw [loopN_succ]
    show tU7N vs t m ty ty2 mv mv2 l c sc i _
    rw [tU7N_eq]
    rintro x1 rfl
    rw [dT (by omega), dT2 (by omega) (by omega), Int.toNat_natCast, dT p1, p2, show isInt .u32 (.int .u32 ((wv vs i : Nat) : Int)) = true from rfl, cond_true, intOf_int, Int.toNat_natCast]
    refine ⟨d.g.ok, by omega, by omega, ?_⟩
    rintro x2 h2 x3 h3
    have e2 : x2 = storeM m i (encN (wv vs i)) := by rw [h2]; unfold writeS; rw [if_pos hin, Int.toNat_natCast]
    rw [dnT (by rw [h3, chkM_in (inM_iff.1 hin)]; rfl)]
    rintro x4 h4
    rw [iAdd_i64 (by omega) (by omega)] at h4
    obtain rfl : x4 = ((i + 1 : Nat) : Int) := by omega
    exact ih (i + 1) x2 (by rw [e2]; exact d.step hil) (by omega)
theorem key29N (l c : Nat) (fl vs : List Value) (t ty ty2 ty3 : TypeId) (mv mv2 mv3 : Bool) (hw : OkW .u32 (2 ^ 32) vs l) (hb : OkB fl l) (k : AExit → Env → AHeap → Prop)
    (hk : ∀ m', OkM m' → m'.lo = 0 → k (.exit 4) [(7, .pointer (some ⟨1, 0, some 0⟩))] (hN vs t m' ty ty2 mv mv2)) :
    ∀ (q i : Nat) (m : Mem), Ups m vs l (fun j => upf fl j ∧ i ≤ j) → i + q = l → loopN cUpp (codeOf Tryd.f4) 2 29 (q + 1) [(0, .slice (some ⟨0, 0, some 0⟩) l c), (7, .pointer (some ⟨1, 0, some 0⟩)), (10, .slice (some ⟨3, 0, some 0⟩) l 2), (19, .int .i64 (i : Nat))] (gN vs t m ty ty2 mv mv2 fl ty3 mv3) k := by
  intro q
  induction q with
  | zero =>
    intro i m d hi
    rw [loopN_succ]
    show tU29N vs t m ty ty2 mv mv2 fl ty3 mv3 l c i _
    rw [tU29N_eq]
    rintro x1 rfl
    rw [dF (by omega)]
    exact hk m d.g.ok d.lo
  | succ q ih =>
    intro i m d hi
    have hil : i < l := by omega
    obtain ⟨p1, p2, p3⟩ := hw.at hil
    have hn := d.g.n
    have hle := d.g.ok.le
    have hfl := hb.len
    obtain ⟨d1, d2⟩ := d.read hw hil
    rw [loopN_succ]
    show tU29N vs t m ty ty2 mv mv2 fl ty3 mv3 l c i _
    rw [tU29N_eq]
    rintro x1 rfl
    rw [dT (by omega)]
    refine ⟨d.g.ok, ?_⟩
    rintro x2 h2 x3 h3 x4 h4 x5 h5
    have e3 : x3 = ((wv vs i : Nat) : Int) := by rw [h3]; rcases d2 with ⟨_, q⟩ | ⟨_, q⟩ <;> rw [q]
    have e5 : x5 = 0 := by rw [h5]; rcases d2 with ⟨_, q⟩ | ⟨_, q⟩ <;> rw [q] <;> rfl
    have e4 : decide (x4 = 1) = boolOf (fl.getD i undef) := by
      rw [h4]
      rcases d2 with ⟨u, q⟩ | ⟨u, q⟩
      · rw [q]; exact (decide_eq_true rfl).trans (show upf fl i from u.1).symm
      · rw [q]
        have : ¬ upf fl i := fun e => u ⟨e, Nat.le_refl _⟩
        unfold upf at this
        rw [Bool.not_eq_true] at this
        rw [this]; rfl
    have nx : ∀ x : Int, x = iAdd .i64 (i : Nat) 1 → loopN cUpp (codeOf Tryd.f4) 2 29 (q + 1) [(0, .slice (some ⟨0, 0, some 0⟩) l c), (7, .pointer (some ⟨1, 0, some 0⟩)), (10, .slice (some ⟨3, 0, some 0⟩) l 2), (19, .int .i64 x)] (gN vs t x2 ty ty2 mv mv2 fl ty3 mv3) k := by
      intro x hx
      rw [iAdd_i64 (by omega) (by omega)] at hx
      obtain rfl : x = ((i + 1 : Nat) : Int) := by omega
      refine ih (i + 1) x2 ?_ (by omega)
      rw [h2]
      exact d1.congr fun j _ => ⟨fun h => ⟨h.1.1, by have := h.1.2; have := h.2; omega⟩, fun h => ⟨⟨h.1, by have := h.2; omega⟩, by have := h.2; omega⟩⟩
    rw [dT2 (by omega) (by omega), Int.toNat_natCast, dT p1, p2, show isInt .u32 (.int .u32 ((wv vs i : Nat) : Int)) = true from rfl, cond_true, intOf_int, dnT (by rw [e3])]
    rw [dT (by omega), hb.b i hil, cond_true, dnT e4, dnT (by rw [e5]), dT2 (by omega) (by omega)]
    exact nx
theorem mk_ok {x : Int} (h0 : 0 ≤ x) (h1 : x ≤ 1000) {A B : Prop} : cond (((((((decide (0 ≤ x)) && (decide (x ≤ x))) && (decide (x ≤ (9223372036854775807 : Int)))) && (decide ((1 : Int) * x ≤ (281474976710656 : Int)))) && true) && true) && true) A B = A := by
  rw [decide_eq_true h0, decide_eq_true (Int.le_refl x), decide_eq_true (show x ≤ 9223372036854775807 by omega), decide_eq_true (show (1 : Int) * x ≤ 281474976710656 by omega)]
  rfl
theorem key13A (l c l2 c2 : Nat) (us : List Value) (t2 : TypeId) (sc : Bool) (vs : List Value) (t ty ty2 : TypeId) (mv mv2 : Bool) (hw : OkW .u32 (2 ^ 32) vs l) (hu : OkW .u16 (2 ^ 16) us l2) (hl : 0 < l) (hl2 : l ≤ 1000) (k : AExit → Env → AHeap → Prop)
    (hk : ∀ m' fl' mv3', OkB fl' l → Ups m' vs l (upf fl') → k (.exit 2) [(0, .slice (some ⟨0, 0, some 0⟩) l c), (7, .pointer (some ⟨2, 0, some 0⟩)), (10, .slice (some ⟨4, 0, some 0⟩) l 2)] (gA vs t us t2 m' ty ty2 mv mv2 fl' 4 mv3')) (hl3 : l2 ≤ 100000) :
    ∀ (q i : Nat) (m : Mem) (fl : List Value) (mv3 : Bool), OkB fl l → Ups m vs l (upf fl) → i + q = l2 → loopN cUpp (codeOf Tryd.f4) 1 13 (q + 1) [(0, .slice (some ⟨0, 0, some 0⟩) l c), (1, .slice (some ⟨1, 0, some 0⟩) l2 c2), (2, .bool sc), (7, .pointer (some ⟨2, 0, some 0⟩)), (10, .slice (some ⟨4, 0, some 0⟩) l 2), (11, .int .i64 (i : Nat))] (gA vs t us t2 m ty ty2 mv mv2 fl 4 mv3) k := by
  intro q
  induction q with
  | zero =>
    intro i m fl mv3 hb d hi
    rw [loopN_succ]
    show tU13A vs t us t2 m ty ty2 mv mv2 fl mv3 l c l2 c2 sc i _
    rw [tU13A_eq]
    rintro x1 rfl
    rw [dF (by omega)]
    exact hk m fl mv3 hb d
  | succ q ih =>
    intro i m fl mv3 hb d hi
    have hil : i < l2 := by omega
    obtain ⟨p1, p2, p3⟩ := hu.at hil
    have hfl := hb.len
    rw [loopN_succ]
    show tU13A vs t us t2 m ty ty2 mv mv2 fl mv3 l c l2 c2 sc i _
    rw [tU13A_eq]
    rintro x1 rfl
    have ia : 0 ≤ ((i : Nat) : Int) := by omega
    have ib : ((i : Nat) : Int) < ((l2 : Nat) : Int) := by omega
    have iu : ∀ n : Int, isInt .u16 (.int .u16 n) = true := fun _ => rfl
    rw [dT ib, dT2 ia ib, Int.toNat_natCast, dT p1, p2, iu, cond_true, intOf_int]
    generalize wv us i = U at *
    rintro x2 h2 x3 h3 x4 h4
    rw [wrap_i64 (by omega) (by omega)] at h2
    rw [h2, show (39 : Int) = ((39 : Nat) : Int) from rfl, tdiv_cast, wrap_i64 (by omega) (by omega)] at h3
    rw [dnF (by omega)]
    rintro x5 h5
    rw [h3, h4, tmod_cast] at h5
    have hp : U / 39 % l < l := Nat.mod_lt _ hl
    generalize U / 39 % l = p at *
    subst h5
    have pa : 0 ≤ ((p : Nat) : Int) := by omega
    have pb : ((p : Nat) : Int) < ((l : Nat) : Int) := by omega
    rw [dT2 pa pb, Int.toNat_natCast, dT (by omega), hb.b p hp, cond_true]
    have nexts : ∀ (m1 : Mem) (fl1 : List Value) (up : Nat → Prop), OkB fl1 l → Ups m1 vs l up → ¬ up p → (∀ j, j < l → ((j = p ∨ up j) ↔ (j = p ∨ upf fl1 j))) → ∀ x26 x27 : Int, x26 = IntKind.wrap .i64 ((U : Nat) : Int) → x27 = Int.tmod x26 39 →
        upsR m1 ((p : Nat) : Int) x27 = 0 ∧ OkB (fl1.set p (.bool true)) l ∧ Ups (upsS m1 ((p : Nat) : Int) x27) vs l (upf (fl1.set p (.bool true))) := by
      intro m1 fl1 up hb1 d1 hn hiff x26 x27 g1 g2
      rw [wrap_i64 (by omega) (by omega)] at g1
      rw [g1, show (39 : Int) = ((39 : Nat) : Int) from rfl, tmod_cast] at g2
      subst g2
      obtain ⟨f1, f2⟩ := d1.flip hp (Nat.mod_lt U (show 0 < 39 by omega)) hn
      obtain ⟨b1, b2⟩ := okB_set hb1 hp
      exact ⟨f2, b1, f1.congr fun j hj => (hiff j hj).trans (b2 j hj).symm⟩
    have fin : ∀ (m1 : Mem) (fl1 : List Value) (mv3 : Bool) (x30 : Int), OkB fl1 l → Ups m1 vs l (upf fl1) → x30 = iAdd .i64 ((i : Nat) : Int) 1 → loopN cUpp (codeOf Tryd.f4) 1 13 (q + 1) [(0, .slice (some ⟨0, 0, some 0⟩) l c), (1, .slice (some ⟨1, 0, some 0⟩) l2 c2), (2, .bool sc), (7, .pointer (some ⟨2, 0, some 0⟩)), (10, .slice (some ⟨4, 0, some 0⟩) l 2), (11, .int .i64 x30)] (gA vs t us t2 m1 ty ty2 mv mv2 fl1 4 mv3) k := by
      intro m1 fl1 mv3 x30 b1 d1 g
      rw [iAdd_i64 (by omega) (by omega)] at g
      obtain rfl : x30 = ((i + 1 : Nat) : Int) := by omega
      exact ih (i + 1) m1 fl1 mv3 b1 d1 (by omega)
    by_cases hup : upf fl p
    · rw [show boolOf (fl.getD p undef) = true from hup, cond_true]
      cases sc with
      | true =>
        rw [cond_true]
        rintro x20 rfl
        obtain ⟨d1, f, hf, er⟩ := d.scrub hw hp hup
        refine ⟨d.g.ok, d.c, ?_⟩
        rw [er]
        rintro x21 h21 x22 h22 _ rfl _ rfl
        rw [← h21] at d1
        rw [dF (by rw [h22]; show ¬ ((f : Nat) : Int) < 1; omega), dnT (by rfl), dnT (by rfl)]
        rintro x25 rfl
        rw [mk_ok (by omega) (by omega), dT2 ia ib, dT p1, cond_true]
        rintro x26 h26 x27 h27
        obtain ⟨hb0, hb1⟩ := okB_false l
        obtain ⟨r1, r2, r3⟩ := nexts x21 (List.replicate l (.bool false)) (fun _ => False) hb0 d1 id (fun j _ => ⟨fun h => h.elim .inl False.elim, fun h => h.elim .inl (fun q => absurd q (hb1 j))⟩) x26 x27 h26 h27
        refine ⟨d1.g.ok, ?_⟩
        rintro x28 h28 x29 h29
        rw [← h28] at r3
        rw [dnT (by rw [h29, r1]; rfl), Int.toNat_natCast, dT2 pa pb, dT (by rw [List.length_replicate]; omega)]
        rintro x30 h30
        have := fin x28 _ false x30 r2 r3 h30
        rw [loopN_succ] at this
        replace this : tU13A vs t us t2 x28 ty ty2 mv mv2 ((List.replicate l (Value.bool false)).set p (.bool true)) false l c l2 c2 true x30 _ := this
        show loopN cUpp (codeOf Tryd.f4) 1 13 (q + 1) _ _ k
        rw [loopN_succ]
        show tU13A vs t us t2 x28 ty ty2 mv mv2 ((List.replicate l (Value.bool false)).set p (.bool true)) false l c l2 c2 true x30 _
        exact this
      | false =>
        rw [cond_false]
        obtain ⟨d1, d2⟩ := d.read hw hp
        obtain ⟨w1, w2, w3⟩ := hw.at hp
        have er : Mem.readR m ((p : Nat) : Int) = (wv vs p, 1, 0) := d2.elim (fun h => h.2) (fun h => absurd hup h.1)
        refine ⟨d.g.ok, ?_⟩
        rw [er]
        rintro x11 h11 x12 h12 _ rfl _ rfl
        rw [← h11] at d1
        rw [dT2 pa pb, dT w1, w2, show isInt .u32 (.int .u32 ((wv vs p : Nat) : Int)) = true from rfl, cond_true, intOf_int, dnT (by rw [h12]), dnT (by rfl), dnT (by rfl), dT2 ia ib, dT p1, cond_true]
        rintro x15 h15 x16 h16
        obtain ⟨r1, r2, r3⟩ := nexts x11 fl (fun i => upf fl i ∧ i ≠ p) hb d1 (fun h => h.2 rfl) (fun j _ => ⟨fun h => h.elim .inl (fun q => .inr q.1), fun h => h.elim .inl (fun q => by
          by_cases e : j = p
          · exact .inl e
          · exact .inr ⟨q, e⟩)⟩) x15 x16 h15 h16
        refine ⟨d1.g.ok, ?_⟩
        rintro x17 h17 x18 h18
        rw [← h17] at r3
        rw [dnT (by rw [h18, r1]; rfl), dT2 pa pb, dT (by omega)]
        rintro x19 h19
        exact fin x17 _ mv3 x19 r2 r3 h19
    · have hup2 : boolOf (fl.getD p undef) = false := by unfold upf at hup; rwa [Bool.not_eq_true] at hup
      rw [hup2, cond_false, dT2 ia ib, dT p1, cond_true]
      rintro x6 h6 x7 h7
      obtain ⟨r1, r2, r3⟩ := nexts m fl (upf fl) hb d hup (fun j _ => Iff.rfl) x6 x7 h6 h7
      refine ⟨d.g.ok, ?_⟩
      rintro x8 h8 x9 h9
      rw [← h8] at r3
      rw [dnT (by rw [h9, r1]; rfl), dT2 pa pb, dT (by omega)]
      rintro x10 h10
      exact fin x8 _ mv3 x10 r2 r3 h10
end Go.Am.Mem
