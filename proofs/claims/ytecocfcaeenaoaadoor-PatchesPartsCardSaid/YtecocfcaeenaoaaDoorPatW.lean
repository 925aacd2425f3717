/-
  Patches: what a bank holds, which one is active. Own work; plain mathematics.
-/
import Derived.Test.YtecocfcaeenaoaaDoorPatV
namespace Go.Am.Pat
open Go Go.Am Go.Am.Ham Go.Am.Mem Go.Proofs
set_option maxRecDepth 100000

theorem bytes4B (s : ByteArray) (i : Nat) : bytes4 (wordB s i) = [Value.int .u8 ((byteAt s i : Nat) : Int), .int .u8 ((byteAt s (i + 1) : Nat) : Int), .int .u8 ((byteAt s (i + 2) : Nat) : Int), .int .u8 ((byteAt s (i + 3) : Nat) : Int)] := by
  have b0 := byteAt_lt s i
  have b1 := byteAt_lt s (i + 1)
  have b2 := byteAt_lt s (i + 2)
  have b3 := byteAt_lt s (i + 3)
  have e : wordB s i = ((byteAt s i * 256 + byteAt s (i + 1)) * 256 + byteAt s (i + 2)) * 256 + byteAt s (i + 3) := by
    unfold wordB
    rw [wordJ, wordJ, wordJ, wordJ, wordJ, Nat.zero_mul, Nat.zero_add, Nat.add_zero]
  unfold bytes4
  rw [e]
  congr 2
  · omega
  congr 2
  · omega
  congr 2
  · omega
  congr 2
  omega
theorem bytesX {s : ByteArray} {l : List Value} (hl : l.length = s.size) (h : ∀ t, t < s.size → l[t]? = some (.int .u8 ((byteAt s t : Nat) : Int))) : bytesOf l = s := by
  apply ByteArray.ext
  apply Array.toList_inj.1
  unfold bytesOf
  apply List.ext_getElem?
  intro t
  have hsz : s.data.toList.length = s.size := by rw [Array.length_toList]; rfl
  rw [List.getElem?_map]
  by_cases ht : t < s.size
  · rw [h t ht]
    unfold byteAt
    rw [List.getD_eq_getElem?_getD, List.getElem?_eq_getElem (by omega), Option.getD_some, Option.map_some, intOf_int, Int.toNat_natCast, UInt8.ofNat_toNat]
  · rw [List.getElem?_eq_none (by omega), List.getElem?_eq_none (by omega)]; rfl
theorem vBytes_at {V : Nat → Nat} (d : ByteArray) : ∀ (k a i : Nat), (∀ j, j < k → V (a + j) = wordB d (i + 4 * j)) → ∀ t, t < 4 * k → (vBytes V a k)[t]? = some (.int .u8 ((byteAt d (i + t) : Nat) : Int))
  | 0, _, _, _, t, ht => by omega
  | k + 1, a, i, h, t, ht => by
    have h0 := h 0 (by omega)
    rw [show a + 0 = a from rfl, show i + 4 * 0 = i from rfl] at h0
    rw [vBytes, h0, bytes4B]
    by_cases h4 : t < 4
    · rw [List.getElem?_append_left (by exact h4)]
      rcases (by omega : t = 0 ∨ t = 1 ∨ t = 2 ∨ t = 3) with rfl | rfl | rfl | rfl <;> rfl
    · rw [List.getElem?_append_right (by show 4 ≤ t; omega)]
      have := vBytes_at (V := V) d k (a + 1) (i + 4) (fun j hj => by rw [show a + 1 + j = a + (j + 1) by omega, show i + 4 + 4 * j = i + 4 * (j + 1) by omega]; exact h (j + 1) (by omega)) (t - 4) (by omega)
      rw [show i + 4 + (t - 4) = i + t by omega] at this
      exact this
theorem vBytes_of {V : Nat → Nat} {d : ByteArray} {a : Nat} (h : ∀ j, j < lenW d.size → V (a + j) = wordB d (4 * j)) : bytesOf ((vBytes V a (lenW d.size)).take d.size) = d := by
  have hk : d.size ≤ 4 * lenW d.size := by unfold lenW; omega
  refine bytesX ?_ fun t ht => ?_
  · rw [List.length_take, vBytes_len]; omega
  · rw [List.getElem?_take_of_lt ht, vBytes_at d _ a 0 (fun j hj => by rw [Nat.zero_add]; exact h j hj) t (by omega), Nat.zero_add]

/-- The bank at a holds a patch. -/
structure HasP (s : Sto) (V : Nat → Nat) (a : Nat) (g id : Nat) (d : ByteArray) : Prop where
  hg : V a = g
  hid : V (a + 1) = id
  len : V (a + 2) = d.size
  sum : V (a + 3) = crcN 0 d
  sea : V (a + 4) = sealN ((g : Nat) : Int) ((id : Nat) : Int) ((d.size : Nat) : Int) ((crcN 0 d : Nat) : Int)
  data : ∀ j, j < lenW d.size → V (a + 5 + j) = wordB d (4 * j)
  pos : 0 < g
  size : ((d.size : Nat) : Int) ≤ s.size
def hdrL (g id : Nat) (d : ByteArray) : List Int := [((g : Nat) : Int), ((id : Nat) : Int), ((d.size : Nat) : Int), ((crcN 0 d : Nat) : Int), ((sealN ((g : Nat) : Int) ((id : Nat) : Int) ((d.size : Nat) : Int) ((crcN 0 d : Nat) : Int) : Nat) : Int)]
theorem HasP.hdr {s : Sto} {V : Nat → Nat} {a g id : Nat} {d : ByteArray} (h : HasP s V a g id d) : vW V a 5 = hdrL g id d := by
  show [((V a : Nat) : Int), ((V (a + 1) : Nat) : Int), ((V (a + 1 + 1) : Nat) : Int), ((V (a + 1 + 1 + 1) : Nat) : Int), ((V (a + 1 + 1 + 1 + 1) : Nat) : Int)] = _
  rw [h.hg, h.hid, show V (a + 1 + 1) = _ from h.len, show V (a + 1 + 1 + 1) = _ from h.sum, show V (a + 1 + 1 + 1 + 1) = _ from h.sea]
  rfl

theorem bank_at {s : Sto} (o : OkS s) {n : Nat} (f : bankAt s 2 ≤ n) {b : Int} (hb : b = 0 ∨ b = 1) :
    bankAt s b = ((rdA0 s b : Nat) : Int) ∧ rdA0 s b + 5 + ((s.size + 3) / 4).toNat ≤ n ∧ n = n := by
  have := o.b0; have := o.z0; have := o.z1
  unfold bankAt at f
  unfold rdA0 bankAt
  rcases hb with rfl | rfl <;> refine ⟨?_, ?_, rfl⟩ <;> omega

theorem rd_vw {s : Sto} {m : Mem} {n : Nat} {V E : Nat → Nat} (o : OkS s) (f : Fits s m) (v : Vw m n V E) {b : Int} (hb : b = 0 ∨ b = 1) :
    ∃ E', Vw (rdM s m b) n V E' ∧ Less E' E ∧ Sm m (rdM s m b) ∧
      (rdOk s m b = true → 0 < V (rdA0 s b) ∧ (∀ j, j < 5 + lenW (V (rdA0 s b + 2)) → E (rdA0 s b + j) ≠ 2) ∧ rdH s m b = vW V (rdA0 s b) 5 ∧ rdD s m b = bytesOf ((vBytes V (rdA0 s b + 5) (lenW (V (rdA0 s b + 2)))).take (V (rdA0 s b + 2)))) ∧
      (∀ g id d, HasP s V (rdA0 s b) g id d → (∀ j, j < 5 + lenW d.size → E (rdA0 s b + j) ≠ 2) → rdOk s m b = true) := by
  have f' : bankAt s 2 ≤ n := by have := f; unfold Fits at this; rw [v.num] at this; exact this
  obtain ⟨ea, ra, _⟩ := bank_at o f' hb
  obtain ⟨E1, v1, l1, s1, p1, q1⟩ := rows_vw 5 (rdA0 s b) v (by omega)
  cases hh : rdHO s m b with
  | false =>
    have hm : rdM s m b = rbM 5 m (rdA0 s b) := rdM_no hh
    refine ⟨E1, by rw [hm]; exact v1, l1, by rw [hm]; exact s1, fun h => (by rw [rdOk_no hh] at h; cases h), fun g id d hp hE => ?_⟩
    exfalso
    have hl := q1 fun j hj => hE j (by omega)
    have hw : rdH s m b = hdrL g id d := ((p1 hl).2.2).trans hp.hdr
    unfold rdHO hdOk at hh
    rw [hl, hw] at hh
    have e0 : wN (hdrL g id d) 0 = g := rfl
    have e1 : wN (hdrL g id d) 1 = id := rfl
    have e2 : wN (hdrL g id d) 2 = d.size := rfl
    have e3 : wN (hdrL g id d) 3 = ((crcN 0 d : Nat) : Int) := rfl
    have e4 : wN (hdrL g id d) 4 = ((sealN ((g : Nat) : Int) ((id : Nat) : Int) ((d.size : Nat) : Int) ((crcN 0 d : Nat) : Int) : Nat) : Int) := rfl
    have := hp.pos; have := hp.size
    rw [e0, e1, e2, e3, e4, decide_eq_true (show (0 : Int) < (g : Int) by omega), decide_eq_true (show ((d.size : Nat) : Int) ≤ s.size by omega), decide_eq_true rfl] at hh
    cases hh
  | true =>
    have hl : rbLost 5 m (rdA0 s b) = false := by
      unfold rdHO at hh
      cases h : rbLost 5 m (rdA0 s b) with
      | false => rfl
      | true => rw [h] at hh; cases hh
    obtain ⟨c1, c2, c3⟩ := p1 hl
    have hw : rdH s m b = vW V (rdA0 s b) 5 := c3
    have w0 : wN (rdH s m b) 0 = ((V (rdA0 s b) : Nat) : Int) := by rw [hw]; rfl
    have w2 : wN (rdH s m b) 2 = ((V (rdA0 s b + 2) : Nat) : Int) := by rw [hw]; rfl
    have w3 : wN (rdH s m b) 3 = ((V (rdA0 s b + 3) : Nat) : Int) := by rw [hw]; rfl
    have hd : 0 < V (rdA0 s b) ∧ ((V (rdA0 s b + 2) : Nat) : Int) ≤ s.size := by
      unfold rdHO hdOk at hh
      simp only [Bool.and_eq_true, decide_eq_true_eq] at hh
      rw [w0, w2] at hh
      exact ⟨by omega, hh.2.1.2⟩
    have hz0 := o.z0
    have hz1 := o.z1
    have room : roomM (rdM1 s m b) (bankAt s b + 5) (wN (rdH s m b) 2) = 0 := by
      unfold roomM
      rw [if_pos]
      have hn1 : (rdM1 s m b).n = n := v1.num
      rw [w2, hn1, ea]
      omega
    have hlen : lenW (V (rdA0 s b + 2)) ≤ ((s.size + 3) / 4).toNat := by unfold lenW; omega
    have ta : (bankAt s b + 5).toNat = rdA0 s b + 5 := by rw [ea]; omega
    have tl : (wN (rdH s m b) 2).toNat = V (rdA0 s b + 2) := by rw [w2]; omega
    obtain ⟨E2, v2, l2, s2, p2, q2⟩ := rows_vw (lenW (V (rdA0 s b + 2))) (rdA0 s b + 5) v1 (by omega)
    have hm : rdM s m b = rbM (lenW (V (rdA0 s b + 2))) (rbM 5 m (rdA0 s b)) (rdA0 s b + 5) := by
      rw [rdM_yes hh]; unfold rbS; rw [if_pos room, ta, tl]; rfl
    have hR : rdR s m b = if rbLost (lenW (V (rdA0 s b + 2))) (rbM 5 m (rdA0 s b)) (rdA0 s b + 5) = true then (⟨⟨[]⟩⟩, 300) else (bytesOf ((rbBytes (lenW (V (rdA0 s b + 2))) (rbM 5 m (rdA0 s b)) (rdA0 s b + 5)).take (V (rdA0 s b + 2))), 0) := by
      unfold rdR rbRes; rw [if_pos room, ta, tl]; rfl
    refine ⟨E2, by rw [hm]; exact v2, l1.trans l2, by rw [hm]; exact s1.trans s2, fun h => ?_, fun g id d hp hE => ?_⟩
    · have h2 : (rdR s m b).2 = 0 := by
        unfold rdOk at h
        simp only [Bool.and_eq_true, decide_eq_true_eq] at h
        exact h.1.2
      unfold rdD
      rw [hR] at h2 ⊢
      split at h2
      · cases h2
      · next h' =>
        rw [if_neg h']
        obtain ⟨d1, d2, _⟩ := p2 (by rw [← Bool.not_eq_true]; exact h')
        refine ⟨hd.1, fun j hj => ?_, hw, ?_⟩
        · by_cases hj5 : j < 5
          · exact c1 j hj5
          · have := d1 (j - 5) (by omega)
            rw [Ne, l1.two, show rdA0 s b + 5 + (j - 5) = rdA0 s b + j by omega] at this
            exact this
        · show bytesOf _ = _
          rw [d2]
    · have hl2 := q2 fun j hj => by
        rw [Ne, l1.two, show rdA0 s b + 5 + j = rdA0 s b + (5 + j) by omega]; exact hE (5 + j) (by rw [hp.len] at hj; omega)
      have hD : rdR s m b = (d, 0) := by
        rw [hR, hl2, if_neg (by decide), (p2 hl2).2.1, hp.len, vBytes_of hp.data]
      unfold rdOk rdD
      rw [hh, hD, w3, hp.sum]
      simp

/-! ### what the banks hold -/
structure Bk where
  g : Nat
  id : Nat
  d : ByteArray
def Inf (s : Sto) (V : Nat → Nat) (b : Int) (I : Option Bk) : Prop := match I with
  | none => V (rdA0 s b) = 0
  | some p => HasP s V (rdA0 s b) p.g p.id p.d
def Val (s : Sto) (E : Nat → Nat) (b : Int) (I : Option Bk) : Prop := match I with
  | none => False
  | some p => ∀ j, j < 5 + lenW p.d.size → E (rdA0 s b + j) ≠ 2
theorem Val.less {s : Sto} {E E' : Nat → Nat} {b : Int} {I : Option Bk} (l : Less E' E) : Val s E' b I ↔ Val s E b I := by
  cases I with
  | none => exact Iff.rfl
  | some p => exact ⟨fun h j hj => by rw [Ne, ← l.two]; exact h j hj, fun h j hj => by rw [Ne, l.two]; exact h j hj⟩
theorem rd_inf {s : Sto} {m : Mem} {n : Nat} {V E : Nat → Nat} (o : OkS s) (f : Fits s m) (v : Vw m n V E) {b : Int} (hb : b = 0 ∨ b = 1) {I : Option Bk} (i : Inf s V b I) :
    ∃ E', Vw (rdM s m b) n V E' ∧ Less E' E ∧ Sm m (rdM s m b) ∧ (rdOk s m b = true ↔ Val s E b I) ∧ (∀ p, I = some p → rdOk s m b = true → rdH s m b = hdrL p.g p.id p.d ∧ rdD s m b = p.d) := by
  obtain ⟨E', h1, h2, h3, h4, h5⟩ := rd_vw o f v hb
  refine ⟨E', h1, h2, h3, ?_, fun p hp hr => ?_⟩
  · cases I with
    | none => exact ⟨fun h => by have := (h4 h).1; unfold Inf at i; simp only at i; omega, fun h => h.elim⟩
    | some p =>
      have i' : HasP s V (rdA0 s b) p.g p.id p.d := i
      exact ⟨fun h j hj => (h4 h).2.1 j (by rw [i'.len]; exact hj), fun h => h5 _ _ _ i' h⟩
  · subst hp
    have i' : HasP s V (rdA0 s b) p.g p.id p.d := i
    obtain ⟨_, _, e1, e2⟩ := h4 hr
    rw [i'.len, vBytes_of i'.data] at e2
    exact ⟨e1.trans i'.hdr, e2⟩
theorem act_inf {s : Sto} {m : Mem} {n : Nat} {V E : Nat → Nat} (o : OkS s) (f : Fits s m) (v : Vw m n V E) {I : Int → Option Bk} (i0 : Inf s V 0 (I 0)) (i1 : Inf s V 1 (I 1)) :
    ∃ E', Vw (acM s m) n V E' ∧ Less E' E ∧ Sm m (acM s m) ∧ ((¬ Val s E 0 (I 0) ∧ ¬ Val s E 1 (I 1) ∧ acN s m = none) ∨
      (∃ p, I 0 = some p ∧ Val s E 0 (I 0) ∧ (Val s E 1 (I 1) → ∀ q, I 1 = some q → q.g ≤ p.g) ∧ acN s m = some 0 ∧ acW s m = hdrL p.g p.id p.d ∧ acD s m = p.d) ∨
      (∃ p, I 1 = some p ∧ Val s E 1 (I 1) ∧ (Val s E 0 (I 0) → ∀ q, I 0 = some q → q.g < p.g) ∧ acN s m = some 1 ∧ acW s m = hdrL p.g p.id p.d ∧ acD s m = p.d)) := by
  obtain ⟨E1, v1, l1, s1, a1, b1⟩ := rd_inf o f v (Or.inl rfl) i0
  have f1 : Fits s (rdM s m 0) := fits_eq s1.n f
  obtain ⟨E2, v2, l2, s2, a2, b2⟩ := rd_inf o f1 v1 (Or.inr rfl) i1
  rw [Val.less l1] at a2
  have w0 : ∀ p : Bk, wN (hdrL p.g p.id p.d) 0 = ((p.g : Nat) : Int) := fun p => rfl
  refine ⟨E2, v2, l1.trans l2, s1.trans s2, ?_⟩
  cases r0 : rdOk s m 0 with
  | false =>
    have n0 : ¬ Val s E 0 (I 0) := fun h => by rw [a1.2 h] at r0; cases r0
    cases r1 : rdOk s (rdM s m 0) 1 with
    | false => exact Or.inl ⟨n0, fun h => (by rw [a2.2 h] at r1; cases r1), acN_nn r0 r1⟩
    | true =>
      have y1 := a2.1 r1
      obtain ⟨p, hp⟩ : ∃ p, I 1 = some p := by
        cases h : I 1 with
        | none => rw [h] at y1; exact y1.elim
        | some p => exact ⟨p, rfl⟩
      have e := acN_ny r0 r1
      obtain ⟨c1, c2⟩ := b2 p hp r1
      exact Or.inr (Or.inr ⟨p, hp, y1, fun h => (n0 h).elim, e, (acW_1 e).1.trans c1, (acW_1 e).2.trans c2⟩)
  | true =>
    have y0 := a1.1 r0
    obtain ⟨p, hp⟩ : ∃ p, I 0 = some p := by
      cases h : I 0 with
      | none => rw [h] at y0; exact y0.elim
      | some p => exact ⟨p, rfl⟩
    obtain ⟨c1, c2⟩ := b1 p hp r0
    cases r1 : rdOk s (rdM s m 0) 1 with
    | false =>
      have n1 : ¬ Val s E 1 (I 1) := fun h => by rw [a2.2 h] at r1; cases r1
      have e := acN_yn r0 r1
      exact Or.inr (Or.inl ⟨p, hp, y0, fun h => (n1 h).elim, e, (acW_0 e).1.trans c1, (acW_0 e).2.trans c2⟩)
    | true =>
      have y1 := a2.1 r1
      obtain ⟨q, hq⟩ : ∃ p, I 1 = some p := by
        cases h : I 1 with
        | none => rw [h] at y1; exact y1.elim
        | some p => exact ⟨p, rfl⟩
      obtain ⟨d1, d2⟩ := b2 q hq r1
      by_cases c : p.g < q.g
      · have e := acN_1 r0 r1 (by rw [c1, d1, w0, w0]; omega)
        exact Or.inr (Or.inr ⟨q, hq, y1, fun _ z hz => (by rw [hp] at hz; cases hz; exact c), e, (acW_1 e).1.trans d1, (acW_1 e).2.trans d2⟩)
      · have e := acN_0 (s := s) (m := m) r0 (by rw [c1, d1, w0, w0]; omega)
        exact Or.inr (Or.inl ⟨p, hp, y0, fun _ z hz => (by rw [hq] at hz; cases hz; omega), e, (acW_0 e).1.trans c1, (acW_0 e).2.trans c2⟩)
end Go.Am.Pat
