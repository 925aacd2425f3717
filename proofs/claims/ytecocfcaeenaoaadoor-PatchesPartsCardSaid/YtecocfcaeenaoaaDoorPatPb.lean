/-
  Patches: PatchesParts answers true. Own work. Printed by mkPb.py.
-/
import Derived.Test.YtecocfcaeenaoaaDoorPatPa
namespace Go.Am.Pat
open Go Go.Am Go.Am.Ham Go.Am.Mem Go.Proofs
set_option maxRecDepth 100000

theorem dT3 {p q r : Prop} [Decidable p] [Decidable q] [Decidable r] (hp : p) (hq : q) (hr : r) {A B : Prop} : cond (decide p && decide q && decide r) A B = A := by rw [decide_eq_true hp, decide_eq_true hq, decide_eq_true hr, Bool.and_self, Bool.and_self, cond_true]
theorem byteAt_cut (d : ByteArray) {a e j : Nat} (he : e ≤ d.size) : byteAt (d.extract a e) j = if a + j < e then byteAt d (a + j) else 0 := by
  unfold byteAt
  rw [ByteArray.data_extract, Array.toList_extract, List.getD_eq_getElem?_getD, List.getD_eq_getElem?_getD, List.extract_eq_take_drop]
  split
  · next h => rw [List.getElem?_take_of_lt (by omega), List.getElem?_drop]
  · next h => rw [List.getElem?_eq_none (by rw [List.length_take]; omega)]; rfl
theorem wordB_cut {d : ByteArray} {r z : Nat} (h1 : z ≤ d.size) (h2 : z = d.size ∨ 4 * r + 4 ≤ z) : wordB (d.extract (4 * r) z) (4 * 0) = wordB d (4 * r) := by
  have : ∀ j, j ≤ 4 → wordJ (d.extract (4 * r) z) (4 * 0) j = wordJ d (4 * r) j := by
    intro j
    induction j with
    | zero => intro _; rfl
    | succ j ih =>
      intro hj
      rw [wordJ, wordJ, ih (by omega), byteAt_cut d h1]
      congr 1
      split
      · next h => rw [show 4 * r + (4 * 0 + j) = 4 * r + j by omega]
      · next h => rw [byteAt_out d (by omega)]
  exact this 4 (by omega)
theorem xor_nat {a : Nat} {w : Int} (ha : a < 2 ^ 32) (uw : U32 w) : iXor .u32 ((a : Nat) : Int) w = ((a ^^^ w.toNat : Nat) : Int) := by
  have h0 := uw.1
  have h1 := uw.2
  obtain ⟨b, rfl⟩ : ∃ b : Nat, w = ((b : Nat) : Int) := ⟨w.toNat, by omega⟩
  rw [Int.toNat_natCast]
  exact iXor_cast .u32 (show a < cap .u32 from ha) (show b < cap .u32 by show b < 2 ^ 32; omega)
theorem xor_u32 {a : Nat} {w : Int} (ha : a < 2 ^ 32) (uw : U32 w) : U32 (iXor .u32 ((a : Nat) : Int) w) := by
  rw [xor_nat ha uw]
  exact u32_cast (Nat.xor_lt_two_pow ha (by have := uw.1; have := uw.2; omega))
theorem xor_0 {a : Nat} {x : Int} (ha : a < 2 ^ 32) (hx : x = ((a : Nat) : Int)) : iXor .u32 x 0 = ((a : Nat) : Int) := by
  rw [hx, xor_nat ha ⟨by omega, by omega⟩]; show ((a ^^^ 0 : Nat) : Int) = _; rw [Nat.xor_zero]
theorem xor_ne0 {a : Nat} {w : Int} (ha : a < 2 ^ 32) (uw : U32 w) (h : ¬ w = 0) : ¬ iXor .u32 ((a : Nat) : Int) w = ((a : Nat) : Int) := by
  rw [xor_nat ha uw]
  intro e
  have e' : a ^^^ w.toNat = a := by omega
  have : w.toNat = 0 := by
    have := congrArg (a ^^^ ·) e'
    rw [← Nat.xor_assoc, Nat.xor_self, Nat.zero_xor] at this
    exact this
  have := uw.1
  omega
section
variable {s : Sto} {m : Mem} {n : Nat} {d : ByteArray} {k : Nat}
theorem Pt.ok (h : Pt s m n d k) : OkS s ∧ OkM m := by obtain ⟨V, E, S, _⟩ := h; exact ⟨S.o, S.v.ok⟩
theorem Pt.fits (h : Pt s m n d k) : Fits s m := by obtain ⟨V, E, S, _⟩ := h; exact S.fits
theorem Pt.write (h : Pt s m n d k) (hd : ((d.size : Nat) : Int) ≤ s.size) {p : ByteArray} {r k' : Nat} (hr : r + lenW p.size ≤ lenW d.size) (hk : ∀ j, k' ≤ j → j < lenW d.size → (k ≤ j ∧ ¬ (r ≤ j ∧ j < r + lenW p.size)) ∨ (r ≤ j ∧ j < r + lenW p.size ∧ wordB p (4 * (j - r)) = wordB d (4 * j))) :
    Pt s (wbM (lenW p.size) m (bankAt s 1 + 5 + ((r : Nat) : Int)).toNat p 0) n d k' := by
  obtain ⟨V, E, S, hE, hf, hv⟩ := h
  obtain ⟨B0, B1, B2, B3⟩ := banks S.o S.f
  have hl := lenW_le hd
  rw [B1, show (((rdA0 s 1 : Nat) : Int) + 5 + ((r : Nat) : Int)).toNat = rdA0 s 1 + 5 + r by omega]
  obtain ⟨v1, st, _⟩ := wb_vw p (lenW p.size) (rdA0 s 1 + 5 + r) 0 0 S.v (Or.inl hf) (by omega)
  refine ⟨_, _, ⟨S.o, S.f, v1, S.i0.congr fun j hj => ?_, ?_, S.small⟩, fun j hj => ?_, ?_, fun j hj hj' => ?_⟩
  · unfold wV; rw [if_neg (by omega)]
  · have i1 : V (rdA0 s 1) = 0 := S.i1
    show wV V (rdA0 s 1 + 5 + r) (lenW p.size) p 0 (rdA0 s 1) = 0
    unfold wV; rw [if_neg (by omega)]; exact i1
  · unfold wE
    split
    · rfl
    · exact hE j hj
  · rw [st.fuse]; unfold fzN; rw [if_pos hf]; exact hf
  · unfold wV
    rcases hk j hj hj' with ⟨a, b⟩ | ⟨a, b, c⟩
    · rw [if_neg (by omega)]; exact hv j a hj'
    · rw [if_pos (by omega), Nat.zero_add, show rdA0 s 1 + 5 + j - (rdA0 s 1 + 5 + r) = j - r by omega]; exact c
theorem pa_other {V E : Nat → Nat} (S : Sta s m n V E (I1 oldS)) (hE : Cl n E) : otherN s m = 1 := by
  obtain ⟨ha, _⟩ := act_is S (Or.inl rfl) (I1_0 oldS) (hE.val S (Or.inl rfl) (I1_0 oldS)) (fun q hq => by rw [show (1 : Int) - 0 = 1 from rfl, I1_1] at hq; cases hq)
  exact (other_some ha).1
theorem pa_begin {V E : Nat → Nat} (S : Sta s m n V E (I1 oldS)) (hE : Cl n E) (hf : m.fuse < 0) : Pt s (writeS (acM s m) (bankAt s 1) 0) n d (lenW d.size) := by
  obtain ⟨B0, B1, B2, B3⟩ := banks S.o S.f
  have hL : 5 ≤ bkL s := by unfold bkL; omega
  obtain ⟨E1, S1, l1, s1⟩ := S.ac
  obtain ⟨v2, s2, _⟩ := S1.v.write (a := bankAt s 1) (i := rdA0 s 1) (w := 0) (c := 0) B1 (by omega) (by omega) (Or.inl (by rw [s1.fuse]; exact hf))
  have hE1 := hE.less l1
  refine ⟨_, _, ⟨S.o, S.f, v2, S1.i0.congr fun j hj => upd_ne _ _ (by omega), upd_at _ _ _, S.small⟩, fun j hj => ?_, ?_, fun j hj hj' => by omega⟩
  · unfold upd
    split
    · rfl
    · exact hE1 j hj
  · rw [s2.fuse]; unfold fzN; rw [if_pos (by rw [s1.fuse]; exact hf), s1.fuse]; exact hf
/-- What the store holds in the end. -/
theorem Pt.fin (h : Pt s m n d 0) (hd : ((d.size : Nat) : Int) ≤ s.size) : OkS s ∧ OkM m ∧ Fits s m ∧ rbRes m (bankAt s 1 + 5) ((d.size : Nat) : Int) = (d, 0) ∧
    OkM (rbS m (bankAt s 1 + 5) ((d.size : Nat) : Int)) ∧ Fits s (rbS m (bankAt s 1 + 5) ((d.size : Nat) : Int)) ∧ isB s (rbS m (bankAt s 1 + 5) ((d.size : Nat) : Int)) 1 oldS 1 = true ∧ fullB s (rbS m (bankAt s 1 + 5) ((d.size : Nat) : Int)) = false ∧
    OkM (hwM 5 1 (acM s (rbS m (bankAt s 1 + 5) ((d.size : Nat) : Int))) (bankAt s 1) (hdN (genN s (rbS m (bankAt s 1 + 5) ((d.size : Nat) : Int)) 1) ⟨9, ((crcN 0 d : Nat) : Int), ((d.size : Nat) : Int), 1⟩)) ∧
    Fits s (hwM 5 1 (acM s (rbS m (bankAt s 1 + 5) ((d.size : Nat) : Int))) (bankAt s 1) (hdN (genN s (rbS m (bankAt s 1 + 5) ((d.size : Nat) : Int)) 1) ⟨9, ((crcN 0 d : Nat) : Int), ((d.size : Nat) : Int), 1⟩)) ∧
    isB s (hwM 5 1 (acM s (rbS m (bankAt s 1 + 5) ((d.size : Nat) : Int))) (bankAt s 1) (hdN (genN s (rbS m (bankAt s 1 + 5) ((d.size : Nat) : Int)) 1) ⟨9, ((crcN 0 d : Nat) : Int), ((d.size : Nat) : Int), 1⟩)) 9 d 2 = true := by
  obtain ⟨V, E, S, hE, hf, hv⟩ := h
  obtain ⟨B0, B1, B2, B3⟩ := banks S.o S.f
  have hl := lenW_le hd
  have hz := S.o.z1
  obtain ⟨E1, v1, l1, s1, p1, q1⟩ := rows_vw (lenW d.size) (rdA0 s 1 + 5) S.v (by omega)
  have nl := q1 (fun j hj => by rw [hE _ (by omega)]; omega)
  have hroom : roomM m (bankAt s 1 + 5) ((d.size : Nat) : Int) = 0 := by
    unfold roomM; rw [if_pos]
    rw [S.v.num, B1]
    unfold bkL at B3
    omega
  have tn : (bankAt s 1 + 5).toNat = rdA0 s 1 + 5 := by rw [B1]; omega
  have e33 : rbS m (bankAt s 1 + 5) ((d.size : Nat) : Int) = rbM (lenW d.size) m (rdA0 s 1 + 5) := by
    unfold rbS; rw [if_pos hroom, tn]; rfl
  have hres : rbRes m (bankAt s 1 + 5) ((d.size : Nat) : Int) = (d, 0) := by
    unfold rbRes; rw [if_pos hroom, tn]
    show (if rbLost (lenW d.size) m (rdA0 s 1 + 5) = true then _ else (bytesOf ((rbBytes (lenW d.size) m (rdA0 s 1 + 5)).take d.size), 0)) = _
    rw [nl, if_neg (by decide), (p1 nl).2.1, vBytes_of fun j hj => hv j (by omega) hj]
  rw [← e33] at v1 s1
  have S1 : Sta s (rbS m (bankAt s 1 + 5) ((d.size : Nat) : Int)) n V E1 (I1 oldS) := ⟨S.o, S.f, v1, S.i0, S.i1, S.small⟩
  have hE1 := hE.less l1
  have noq : ∀ q, I1 oldS (1 - 0) = some q → q.g < 1 := fun q hq => by rw [show (1 : Int) - 0 = 1 from rfl, I1_1] at hq; cases hq
  obtain ⟨ha, hi⟩ := act_is S1 (Or.inl rfl) (I1_0 oldS) (hE1.val S1 (Or.inl rfl) (I1_0 oldS)) noq
  obtain ⟨hful, hact⟩ := act_get S1
  have hw : acW s (rbS m (bankAt s 1 + 5) ((d.size : Nat) : Int)) = hdrL 1 1 oldS := by
    rcases hact with ⟨h, _⟩ | ⟨c, p, _, h, _, hp, _, h2, _⟩
    · rw [ha] at h; cases h
    · rw [ha] at h; cases h
      rw [I1_0] at hp; cases hp; exact h2
  have gen : genN s (rbS m (bankAt s 1 + 5) ((d.size : Nat) : Int)) 1 = 2 := by
    unfold genN; rw [ha]
    show (if (0 : Int) = 1 then (1 : Int) else wN (acW s _) 0 + 1) = 2
    rw [if_neg (by decide), hw]; rfl
  obtain ⟨E2, S2, l2, s2⟩ := S1.ac
  have hcr : crcN 0 d < 2 ^ 32 := crcN_lt (by decide) _
  have hse : sealN 2 9 ((d.size : Nat) : Int) ((crcN 0 d : Nat) : Int) < 2 ^ 32 := crcN_lt (by decide) _
  obtain ⟨V3, E3, v3, s3, _, w0, w1, w2, w3, w4, z3, r3⟩ := hw_vw (c := 0) (w0 := 2) (w1 := 9) (w2 := d.size) (w3 := crcN 0 d) (w4 := sealN 2 9 ((d.size : Nat) : Int) ((crcN 0 d : Nat) : Int)) S2.v (Or.inl (by rw [s2.fuse, s1.fuse]; exact hf)) B1 (by omega) (by omega) (by omega) (by omega) hcr hse
    (w := hdN (genN s (rbS m (bankAt s 1 + 5) ((d.size : Nat) : Int)) 1) ⟨9, ((crcN 0 d : Nat) : Int), ((d.size : Nat) : Int), 1⟩) (by rw [gen]; rfl)
  have hE2 := hE1.less l2
  have S3 : Sta s _ n V3 E3 (putB (I1 oldS) 1 (some ⟨2, 9, d⟩)) := ⟨S.o, S.f, v3, S.i0.congr fun j hj => (r3 _ (by omega)).1,
    (⟨w0, w1, w2, w3, w4, fun j hj => by rw [(r3 _ (by omega)).1]; exact hv j (by omega) hj, by omega, hd⟩ : HasP s V3 (rdA0 s 1) 2 9 d), fun c p h => by
      unfold putB at h
      split at h
      · cases h; show 2 < 1000000; omega
      · exact S.small c p h⟩
  have hE3 : Cl n E3 := fun j hj => by
    by_cases c : j < rdA0 s 1 ∨ rdA0 s 1 + 5 ≤ j
    · rw [(r3 j c).2]; exact hE2 j hj
    · have := z3 (j - rdA0 s 1) (by omega)
      rw [show rdA0 s 1 + (j - rdA0 s 1) = j by omega] at this
      exact this
  have hq1 : putB (I1 oldS) 1 (some ⟨2, 9, d⟩) 1 = some ⟨2, 9, d⟩ := putB_at _ _ _
  have hq0 : putB (I1 oldS) 1 (some ⟨2, 9, d⟩) (1 - 1) = some ⟨1, 1, oldS⟩ := rfl
  obtain ⟨_, hi3⟩ := act_is S3 (Or.inr rfl) hq1 (hE3.val S3 (Or.inr rfl) hq1) (fun q hq => by rw [hq0] at hq; cases hq; show 1 < 2; omega)
  exact ⟨S.o, S.v.ok, S.fits, hres, v1.ok, S1.fits, hi, hful, v3.ok, S3.fits, hi3⟩
end
theorem loopPa15A : ∀ e h k, TPa15A e h k → ∃ m, loopN cPaA (codeOf Tryd.f4) 1 15 m e h k := by
  intro e h k hT
  unfold TPa15A at hT
  split at hT
  · rename_i d w i
    obtain ⟨us, tu, s, m, g, t, rfl, hi, d3, dz, gl, gb, ⟨n, hp⟩, hk⟩ := asPtA_elim hT
    refine ⟨lenW d.size + 1, ?_⟩
    have key : ∀ (r : Nat) (x : Int) (m : Mem), x = ((r : Nat) : Int) - 1 → r ≤ lenW d.size → Pt s m n d r →
        loopN cPaA (codeOf Tryd.f4) 1 15 (r + 1) [(0, .string d), (2, .int .u32 w), (8, .pointer (some ⟨1, 0, some 0⟩)), (14, .int .i64 x)] (ptA us tu s m g t) k := by
      intro r
      induction r with
      | zero =>
        intro x m hx hr hp
        rw [loopN_succ]
        show lPa15A us tu s m g t d w x _
        rw [lPa15A_eq, dF (by omega)]
        exact hk m ⟨n, hp⟩
      | succ r ih =>
        intro x m hx hr hp
        rw [loopN_succ]
        show lPa15A us tu s m g t d w x _
        rw [lPa15A_eq, dT (by omega)]
        obtain rfl : x = ((r : Nat) : Int) := by omega
        have hlw : lenW d.size = (d.size + 3) / 4 := rfl
        intro x1 h1 x2 h2 x3 h3 x4 h4 x5 h5 x6 h6
        rw [iMul_i64 (by omega) (by omega)] at h1 h2 h4
        rw [iAdd_i64 (by omega) (by omega)] at h5
        have b6 : x2 ≤ x6 ∧ x6 ≤ ((d.size : Nat) : Int) ∧ (x6 = ((d.size : Nat) : Int) ∨ x6 = x5) ∧ x6 ≤ x5 := by rw [h6]; split <;> omega
        rw [dT3 (by omega) b6.1 b6.2.1]
        intro x7 h7
        have e2 : Int.toNat x2 = 4 * r := by omega
        obtain ⟨z, hz⟩ : ∃ z : Nat, x6 = ((z : Nat) : Int) := ⟨x6.toNat, by omega⟩
        have e6 : Int.toNat x6 = z := by omega
        rw [e2, e6] at h7
        have s7 : x7.size = z - 4 * r := by rw [h7, ByteArray.size_extract]; omega
        have fit := hp.fits
        obtain ⟨o, om⟩ := hp.ok
        refine ⟨o, om, fit, by omega, by omega, by omega, by omega, by omega, by omega, ?_, fun x8 h8 x9 h9 => ?_⟩
        · unfold okDat
          rw [gl, s7, decide_eq_true (show 0 ≤ x1 by omega), decide_eq_true (show x1 % 4 = 0 by omega), decide_eq_true (show ((z - 4 * r : Nat) : Int) + x1 ≤ ((d.size : Nat) : Int) by omega)]
          rcases b6.2.2.1 with h | h
          · rw [decide_eq_true (show ((z - 4 * r : Nat) : Int) + x1 = ((d.size : Nat) : Int) by omega), Bool.or_true]; rfl
          · rw [decide_eq_true (show ((z - 4 * r : Nat) : Int) % 4 = 0 by omega)]; rfl
        · have l7 : lenW x7.size = 1 := by unfold lenW; omega
          have hpp : Pt s x8 n d r := by
            have := hp.write (p := x7) (r := r) (k' := r) dz (by omega) (fun j hj hj' => by
              by_cases e : j = r
              · subst e
                refine Or.inr ⟨by omega, by omega, ?_⟩
                rw [Nat.sub_self, h7]
                exact wordB_cut (by omega) (by omega)
              · exact Or.inl ⟨by omega, by omega⟩)
            rw [h8, gb, show Int.ediv x1 4 = ((r : Nat) : Int) by show x1 / 4 = _; omega]
            exact this
          rw [dnT h9]
          intro x10 h10
          rw [iSub_i64 (by omega) (by omega)] at h10
          exact ih x10 x8 (by omega) (by omega) hpp
    exact key (lenW d.size) i m hi (Nat.le_refl _) hp
  · exact hT.elim
theorem loopPa15N : ∀ e h k, TPa15N e h k → ∃ m, loopN cPaN (codeOf Tryd.f4) 1 15 m e h k := by
  intro e h k hT
  unfold TPa15N at hT
  split at hT
  · rename_i d w i
    rcases asSto_elim hT with ⟨s, m, t, rfl, hT⟩ | ⟨s, m, g, t, rfl, hi, d3, dz, gl, gb, ⟨n, hp⟩, hk⟩
    · exact hT.elim
    refine ⟨lenW d.size + 1, ?_⟩
    have key : ∀ (r : Nat) (x : Int) (m : Mem), x = ((r : Nat) : Int) - 1 → r ≤ lenW d.size → Pt s m n d r →
        loopN cPaN (codeOf Tryd.f4) 1 15 (r + 1) [(0, .string d), (2, .int .u32 w), (8, .pointer (some ⟨0, 0, some 0⟩)), (14, .int .i64 x)] (stB' s m g t) k := by
      intro r
      induction r with
      | zero =>
        intro x m hx hr hp
        rw [loopN_succ]
        show lPa15N s m g t d w x _
        rw [lPa15N_eq, dF (by omega)]
        exact hk m ⟨n, hp⟩
      | succ r ih =>
        intro x m hx hr hp
        rw [loopN_succ]
        show lPa15N s m g t d w x _
        rw [lPa15N_eq, dT (by omega)]
        obtain rfl : x = ((r : Nat) : Int) := by omega
        have hlw : lenW d.size = (d.size + 3) / 4 := rfl
        intro x1 h1 x2 h2 x3 h3 x4 h4 x5 h5 x6 h6
        rw [iMul_i64 (by omega) (by omega)] at h1 h2 h4
        rw [iAdd_i64 (by omega) (by omega)] at h5
        have b6 : x2 ≤ x6 ∧ x6 ≤ ((d.size : Nat) : Int) ∧ (x6 = ((d.size : Nat) : Int) ∨ x6 = x5) ∧ x6 ≤ x5 := by rw [h6]; split <;> omega
        rw [dT3 (by omega) b6.1 b6.2.1]
        intro x7 h7
        have e2 : Int.toNat x2 = 4 * r := by omega
        obtain ⟨z, hz⟩ : ∃ z : Nat, x6 = ((z : Nat) : Int) := ⟨x6.toNat, by omega⟩
        have e6 : Int.toNat x6 = z := by omega
        rw [e2, e6] at h7
        have s7 : x7.size = z - 4 * r := by rw [h7, ByteArray.size_extract]; omega
        have fit := hp.fits
        obtain ⟨o, om⟩ := hp.ok
        refine ⟨o, om, fit, by omega, by omega, by omega, by omega, by omega, by omega, ?_, fun x8 h8 x9 h9 => ?_⟩
        · unfold okDat
          rw [gl, s7, decide_eq_true (show 0 ≤ x1 by omega), decide_eq_true (show x1 % 4 = 0 by omega), decide_eq_true (show ((z - 4 * r : Nat) : Int) + x1 ≤ ((d.size : Nat) : Int) by omega)]
          rcases b6.2.2.1 with h | h
          · rw [decide_eq_true (show ((z - 4 * r : Nat) : Int) + x1 = ((d.size : Nat) : Int) by omega), Bool.or_true]; rfl
          · rw [decide_eq_true (show ((z - 4 * r : Nat) : Int) % 4 = 0 by omega)]; rfl
        · have l7 : lenW x7.size = 1 := by unfold lenW; omega
          have hpp : Pt s x8 n d r := by
            have := hp.write (p := x7) (r := r) (k' := r) dz (by omega) (fun j hj hj' => by
              by_cases e : j = r
              · subst e
                refine Or.inr ⟨by omega, by omega, ?_⟩
                rw [Nat.sub_self, h7]
                exact wordB_cut (by omega) (by omega)
              · exact Or.inl ⟨by omega, by omega⟩)
            rw [h8, gb, show Int.ediv x1 4 = ((r : Nat) : Int) by show x1 / 4 = _; omega]
            exact this
          rw [dnT h9]
          intro x10 h10
          rw [iSub_i64 (by omega) (by omega)] at h10
          exact ih x10 x8 (by omega) (by omega) hpp
    exact key (lenW d.size) i m hi (Nat.le_refl _) hp
  · exact hT.elim
theorem loopPa8 : ∀ e h k, TPa8 e h k → ∃ m, loopN cPaA (codeOf Tryd.f4) 0 8 m e h k := by
  intro e h k hT
  unfold TPa8 at hT
  split at hT
  · rename_i d l c w q i
    obtain ⟨us, tu, s, m, g, t, rfl, hu, hl, hi, hq, d3, dz, gl, gb, ⟨n, hp⟩, hk⟩ := asPtA_elim hT
    subst hi
    refine ⟨l + 1, ?_⟩
    have hlw : lenW d.size = (d.size + 3) / 4 := rfl
    have key : ∀ (r j : Nat) (x : Int) (m : Mem), x = ((j : Nat) : Int) → j + r = l → Pt s m n d (lenW d.size) →
        loopN cPaA (codeOf Tryd.f4) 0 8 (r + 1) [(0, .string d), (1, .slice (some ⟨0, 0, some 0⟩) l c), (2, .int .u32 w), (8, .pointer (some ⟨1, 0, some 0⟩)), (10, .int .i64 q), (11, .int .i64 x)] (ptA us tu s m g t) k := by
      intro r
      induction r with
      | zero =>
        intro j x m hx hj hp
        rw [loopN_succ]
        show lPa8 us tu s m g t d l c w q x _
        rw [lPa8_eq]
        intro x1 h1
        rw [dF (by omega)]
        exact hk m ⟨n, hp⟩
      | succ r ih =>
        intro j x m hx hj hp
        rw [loopN_succ]
        show lPa8 us tu s m g t d l c w q x _
        rw [lPa8_eq]
        intro x1 h1
        rw [dT (by omega)]
        by_cases cq : q > 0
        case neg =>
          rw [dF cq]
          exact hk m ⟨n, hp⟩
        rw [dT cq]
        have hlt := hu.lt j (by omega)
        have hval : intOf (List.getD us (Int.toNat x) undef) = ((wv us j : Nat) : Int) := by rw [hx, Int.toNat_natCast, hu.int j (by omega)]; rfl
        rw [hval]
        refine hu.at hx (by omega) fun x2 h2 => ?_
        rw [wrap_i64 (by omega) (by omega)] at h2
        rw [dnF (by omega)]
        intro x3 h3 x4 h4 x5 h5
        rw [Int.tmod_eq_emod_of_nonneg (by omega)] at h3
        have p3 : 0 ≤ x3 ∧ x3 < q := by rw [h3]; exact ⟨Int.emod_nonneg _ (by omega), Int.emod_lt_of_pos _ (by omega)⟩
        rw [iMul_i64 (by omega) (by omega)] at h4
        refine hu.at hx (by omega) fun x6 h6 x7 h7 x8 h8 x9 h9 x10 h10 x11 h11 x12 h12 => ?_
        rw [Int.fdiv_eq_ediv_of_nonneg _ (by omega)] at h6
        rw [wrap_i64 (by omega) (by omega)] at h7
        rw [Int.tmod_eq_emod_of_nonneg (by omega)] at h8
        rw [iAdd_i64 (by omega) (by omega)] at h9
        rw [iMul_i64 (by omega) (by omega)] at h10
        rw [iAdd_i64 (by omega) (by omega)] at h11
        obtain ⟨y, hy⟩ : ∃ y : Nat, x3 = ((y : Nat) : Int) := ⟨x3.toNat, by omega⟩
        have b6 : x4 ≤ x12 ∧ x12 ≤ ((d.size : Nat) : Int) ∧ (x12 = ((d.size : Nat) : Int) ∨ x12 = x11) := by rw [h12]; split <;> omega
        rw [dT3 (by omega) b6.1 b6.2.1]
        intro x13 h13
        have e4 : Int.toNat x4 = 4 * y := by omega
        obtain ⟨z, hz⟩ : ∃ z : Nat, x12 = ((z : Nat) : Int) := ⟨x12.toNat, by omega⟩
        have e12 : Int.toNat x12 = z := by omega
        rw [e4, e12] at h13
        have s13 : x13.size = z - 4 * y := by rw [h13, ByteArray.size_extract]; omega
        have fit := hp.fits
        obtain ⟨o, om⟩ := hp.ok
        refine ⟨o, om, fit, by omega, by omega, by omega, by omega, by omega, by omega, ?_, fun x14 h14 x15 h15 => ?_⟩
        · unfold okDat
          rw [gl, s13, decide_eq_true (show 0 ≤ x4 by omega), decide_eq_true (show x4 % 4 = 0 by omega), decide_eq_true (show ((z - 4 * y : Nat) : Int) + x4 ≤ ((d.size : Nat) : Int) by omega)]
          rcases b6.2.2 with h | h
          · rw [decide_eq_true (show ((z - 4 * y : Nat) : Int) + x4 = ((d.size : Nat) : Int) by omega), Bool.or_true]; rfl
          · rw [decide_eq_true (show ((z - 4 * y : Nat) : Int) % 4 = 0 by omega)]; rfl
        · have hpp : Pt s x14 n d (lenW d.size) := by
            have := hp.write (p := x13) (r := y) (k' := lenW d.size) dz (by unfold lenW; omega) (fun j hj hj' => by omega)
            rw [h14, gb, show Int.ediv x4 4 = ((y : Nat) : Int) by show x4 / 4 = _; omega]
            exact this
          rw [dnT h15]
          intro x16 h16
          rw [iAdd_i64 (by omega) (by omega)] at h16
          exact ih (j + 1) x16 x14 (by omega) (by omega) hpp
    exact key l 0 0 m rfl (by omega) hp
  · exact hT.elim
def sPaA : Spec := fun args h K => match args, h with
  | [.string _, .slice (some ⟨0, 0, some 0⟩) l _, .int .u32 w], [.ro us _] => OkW .u16 (2 ^ 16) us l ∧ U32 w ∧ K (.bool true) h
  | _, _ => False
theorem okPaA : SpecOk Tryd.prog G0 4 sPaA :=
  spec2 mixed tPa_ok Tryd.func4 (by kernel_rfl : Tryd.f4.body = some (codeOf Tryd.f4)) cPaA rfl rfl rfl (by kernel_rfl) (ids := [8, 15]) (by kernel_rfl) ⟨loopPa8, loopPa15A, trivial⟩ (by
    intro args h K hk
    unfold sPaA at hk
    split at hk
    · rename_i d l c w us tu
      obtain ⟨hu, uw, hk⟩ := hk
      show bPaA us tu d l c w K
      rw [bPaA_eq]
      intro x1 h1
      by_cases c1 : x1 > 300
      · rw [dT c1]; exact hk
      rw [dF c1]
      intro x2 h2
      by_cases c2 : x2 > 100
      · rw [dT c2]; exact hk
      rw [dF c2]
      intro x3 h3 z hz
      have z4 : 4 ≤ z ∧ z ≤ 8192 ∧ ((d.size : Nat) : Int) ≤ z := by rw [hz]; split <;> omega
      obtain ⟨z1, z2, zd⟩ := z4
      clear hz
      refine ⟨z1, z2, by omega, fun x5 h5 x6 h6 => ⟨by omega, fun x7 h7 x8 h8 => ?_⟩⟩
      obtain ⟨_, _, V, E, S, hE, hfu, hsa⟩ := com_sta (a := oldS) z1 z2 (by show ((3 : Nat) : Int) ≤ z; omega)
      rw [← h5] at S hfu hsa
      have hw7 : crcN 0 d < 2 ^ 32 := crcN_lt (by decide) _
      have u8 : U32 x8 := by rw [h8, h7]; exact xor_u32 hw7 uw
      obtain ⟨hful, _⟩ := act_get S
      refine ⟨S.o, S.v.ok, S.fits, by omega, by omega, hful, fun x9 h9' x10 h10 x11 h11 => ?_⟩
      have h9 : x9 = 1 := by rw [h9']; exact pa_other S hE
      rw [dnT h11]
      intro x12 h12 x13 h13 x14 h14
      rw [iAdd_i64 (by omega) (by omega)] at h13
      rw [h13, Int.tdiv_eq_ediv_of_nonneg (by omega), wrap_i64 (by omega) (by omega)] at h14
      have hp10 : Pt ⟨1, z⟩ x10 (cN z) d (lenW d.size) := by rw [h10, h9]; exact pa_begin S hE (by omega)
      have dz := zd
      refine ⟨hu, by omega, rfl, by unfold lenW; omega, by omega, zd, h6, h9, ⟨_, hp10⟩, fun x15 hp15 x16 h16 => ?_⟩
      rw [iSub_i64 (by omega) (by omega)] at h16
      refine ⟨by unfold lenW; omega, by omega, zd, h6, h9, hp15, fun x17 hp17 => ?_⟩
      obtain ⟨n16, hp16⟩ := hp17
      have hfin := hp16.fin dz
      obtain ⟨o16, om16, fi16, hres, om33, fi33, is33, full33, om51, fi51, is51⟩ := hfin
      cases hw0 : decide (w = 0) with
      | false =>
        have w0 : ¬ w = 0 := of_decide_eq_false hw0
        rw [Bool.not_false, cond_true]
        refine ⟨o16, om16, fi16, ⟨by omega, by omega⟩, u8, by omega, by omega, by omega, by omega, fun x33 h33 x34 h34 => ?_⟩
        rw [h9, h6] at h33 h34
        rw [hres] at h34
        subst h33 h34
        refine ⟨fun h => absurd rfl h, fun _ => ⟨fun _ x40 h40 => ?_, fun h => ?_⟩⟩
        · rw [dT h40]
          refine ⟨o16, om33, fi33, fun x41 _ x42 h42 => ?_⟩
          rw [h42, is33, cond_true]
          intro x43 h43
          rw [dT h43]
          intro x44 h44
          rw [dT h44]
          exact hk
        · exfalso
          exact xor_ne0 hw7 uw w0 (by rw [← h7]; exact (h.trans h8).symm.trans h7.symm)
      | true =>
        have w0 : w = 0 := of_decide_eq_true hw0
        rw [Bool.not_true, cond_false]
        refine ⟨o16, om16, fi16, ⟨by omega, by omega⟩, u8, by omega, by omega, by omega, by omega, fun x17 h17 x18 h18 => ?_⟩
        have e8 : x8 = ((crcN 0 d : Nat) : Int) := by rw [h8, w0]; exact xor_0 hw7 h7
        rw [h9, h6] at h17 h18
        rw [hres] at h18
        subst h17 h18
        refine ⟨fun h => absurd rfl h, fun _ => ⟨fun h => absurd e8.symm h, fun _ x25 h25 => ⟨fun h => (by rw [full33] at h; cases h), fun _ x29 h29 x30 h30 => ?_⟩⟩⟩
        rw [dT h30]
        rw [h25, h9, h6, e8] at h29
        rw [show x29 = _ from h29]
        refine ⟨o16, om51, fi51, fun x31 _ x32 h32 => ?_⟩
        rw [h32, is51, cond_true]
        exact hk
    · exact hk.elim)
def sPaN : Spec := fun args h K => match args, h with
  | [.string _, .slice none 0 0, .int .u32 w], [] => U32 w ∧ K (.bool true) h
  | _, _ => False
theorem okPaN : SpecOk Tryd.prog G0 4 sPaN :=
  spec2 mixed tPa_ok Tryd.func4 (by kernel_rfl : Tryd.f4.body = some (codeOf Tryd.f4)) cPaN rfl rfl rfl (by kernel_rfl) (ids := [8, 15]) (by kernel_rfl) ⟨trivial, loopPa15N, trivial⟩ (by
    intro args h K hk
    unfold sPaN at hk
    split at hk
    · rename_i d w
      obtain ⟨uw, hk⟩ := hk
      show bPaN d w K
      rw [bPaN_eq]
      intro x1 h1
      by_cases c1 : x1 > 300
      · rw [dT c1]; exact hk
      rw [dF c1]
      intro x2 h2
      rw [dF (by omega)]
      intro x3 h3 z hz
      have z4 : 4 ≤ z ∧ z ≤ 8192 ∧ ((d.size : Nat) : Int) ≤ z := by rw [hz]; split <;> omega
      obtain ⟨z1, z2, zd⟩ := z4
      clear hz
      refine ⟨z1, z2, by omega, fun x5 h5 x6 h6 => ⟨by omega, fun x7 h7 x8 h8 => ?_⟩⟩
      obtain ⟨_, _, V, E, S, hE, hfu, hsa⟩ := com_sta (a := oldS) z1 z2 (by show ((3 : Nat) : Int) ≤ z; omega)
      rw [← h5] at S hfu hsa
      have hw7 : crcN 0 d < 2 ^ 32 := crcN_lt (by decide) _
      have u8 : U32 x8 := by rw [h8, h7]; exact xor_u32 hw7 uw
      obtain ⟨hful, _⟩ := act_get S
      refine ⟨S.o, S.v.ok, S.fits, by omega, by omega, hful, fun x9 h9' x10 h10 x11 h11 => ?_⟩
      have h9 : x9 = 1 := by rw [h9']; exact pa_other S hE
      rw [dnT h11]
      intro x12 h12 x13 h13 x14 h14
      rw [iAdd_i64 (by omega) (by omega)] at h13
      rw [h13, Int.tdiv_eq_ediv_of_nonneg (by omega), wrap_i64 (by omega) (by omega)] at h14
      have hp10 : Pt ⟨1, z⟩ x10 (cN z) d (lenW d.size) := by rw [h10, h9]; exact pa_begin S hE (by omega)
      have dz := zd
      intro x15 h15
      rw [iSub_i64 (by omega) (by omega)] at h15
      refine ⟨by unfold lenW; omega, by omega, zd, h6, h9, ⟨_, hp10⟩, fun x16 hp17 => ?_⟩
      obtain ⟨n16, hp16⟩ := hp17
      have hfin := hp16.fin dz
      obtain ⟨o16, om16, fi16, hres, om33, fi33, is33, full33, om51, fi51, is51⟩ := hfin
      cases hw0 : decide (w = 0) with
      | false =>
        have w0 : ¬ w = 0 := of_decide_eq_false hw0
        rw [Bool.not_false, cond_true]
        refine ⟨o16, om16, fi16, ⟨by omega, by omega⟩, u8, by omega, by omega, by omega, by omega, fun x33 h33 x34 h34 => ?_⟩
        rw [h9, h6] at h33 h34
        rw [hres] at h34
        subst h33 h34
        refine ⟨fun h => absurd rfl h, fun _ => ⟨fun _ x40 h40 => ?_, fun h => ?_⟩⟩
        · rw [dT h40]
          refine ⟨o16, om33, fi33, fun x41 _ x42 h42 => ?_⟩
          rw [h42, is33, cond_true]
          intro x43 h43
          rw [dT h43]
          intro x44 h44
          rw [dT h44]
          exact hk
        · exfalso
          exact xor_ne0 hw7 uw w0 (by rw [← h7]; exact (h.trans h8).symm.trans h7.symm)
      | true =>
        have w0 : w = 0 := of_decide_eq_true hw0
        rw [Bool.not_true, cond_false]
        refine ⟨o16, om16, fi16, ⟨by omega, by omega⟩, u8, by omega, by omega, by omega, by omega, fun x17 h17 x18 h18 => ?_⟩
        have e8 : x8 = ((crcN 0 d : Nat) : Int) := by rw [h8, w0]; exact xor_0 hw7 h7
        rw [h9, h6] at h17 h18
        rw [hres] at h18
        subst h17 h18
        refine ⟨fun h => absurd rfl h, fun _ => ⟨fun h => absurd e8.symm h, fun _ x25 h25 => ⟨fun h => (by rw [full33] at h; cases h), fun _ x29 h29 x30 h30 => ?_⟩⟩⟩
        rw [dT h30]
        rw [h25, h9, h6, e8] at h29
        rw [show x29 = _ from h29]
        refine ⟨o16, om51, fi51, fun x31 _ x32 h32 => ?_⟩
        rw [h32, is51, cond_true]
        exact hk
    · exact hk.elim)
end Go.Am.Pat
