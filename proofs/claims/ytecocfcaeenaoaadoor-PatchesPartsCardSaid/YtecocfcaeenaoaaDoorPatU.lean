/-
  Patches: what a store holds behind a load. Own work; plain mathematics.
-/
import Derived.Test.YtecocfcaeenaoaaDoorPatT
namespace Go.Am.Pat
open Go Go.Am Go.Am.Ham Go.Am.Mem Go.Proofs
set_option maxRecDepth 100000

/-- The words of a bank. -/
def bkL (s : Sto) : Nat := 5 + ((s.size + 3) / 4).toNat
structure Sta (s : Sto) (m : Mem) (n : Nat) (V E : Nat → Nat) (I : Int → Option Bk) : Prop where
  o : OkS s
  f : bankAt s 2 ≤ n
  v : Vw m n V E
  i0 : Inf s V 0 (I 0)
  i1 : Inf s V 1 (I 1)
  small : ∀ b p, I b = some p → p.g < 1000000
theorem Sta.fits {s : Sto} {m : Mem} {n : Nat} {V E : Nat → Nat} {I : Int → Option Bk} (S : Sta s m n V E I) : Fits s m := by unfold Fits; rw [S.v.num]; exact S.f
theorem Sta.inf {s : Sto} {m : Mem} {n : Nat} {V E : Nat → Nat} {I : Int → Option Bk} (S : Sta s m n V E I) {b : Int} (hb : b = 0 ∨ b = 1) : Inf s V b (I b) := by rcases hb with rfl | rfl; exact S.i0; exact S.i1
theorem banks {s : Sto} (o : OkS s) {n : Nat} (f : bankAt s 2 ≤ n) : bankAt s 0 = ((rdA0 s 0 : Nat) : Int) ∧ bankAt s 1 = ((rdA0 s 1 : Nat) : Int) ∧ rdA0 s 1 = rdA0 s 0 + bkL s ∧ rdA0 s 1 + bkL s ≤ n := by
  have := o.b0; have := o.z0; have := o.z1
  unfold bankAt at f
  unfold rdA0 bankAt bkL
  refine ⟨?_, ?_, ?_, ?_⟩ <;> omega
theorem lenW_le {s : Sto} {k : Nat} (h : ((k : Nat) : Int) ≤ s.size) : 5 + lenW k ≤ bkL s := by unfold lenW bkL; omega
theorem Inf.congr {s : Sto} {V V' : Nat → Nat} {b : Int} {I : Option Bk} (h : Inf s V b I) (e : ∀ j, j < bkL s → V' (rdA0 s b + j) = V (rdA0 s b + j)) : Inf s V' b I := by
  have e0 : V' (rdA0 s b) = V (rdA0 s b) := e 0 (by unfold bkL; omega)
  cases I with
  | none => exact e0.trans h
  | some p =>
    have h' : HasP s V (rdA0 s b) p.g p.id p.d := h
    have hl := lenW_le h'.size
    have b5 : 5 ≤ bkL s := by unfold bkL; omega
    exact (⟨e0.trans h'.hg, (e 1 (by omega)).trans h'.hid, (e 2 (by omega)).trans h'.len, (e 3 (by omega)).trans h'.sum, (e 4 (by omega)).trans h'.sea, fun j hj => by
      rw [show rdA0 s b + 5 + j = rdA0 s b + (5 + j) by omega, e (5 + j) (by omega)]
      have := h'.data j hj
      rw [show rdA0 s b + 5 + j = rdA0 s b + (5 + j) by omega] at this
      exact this, h'.pos, h'.size⟩ : HasP s V' (rdA0 s b) p.g p.id p.d)
theorem Val.congr {s : Sto} {V E E' : Nat → Nat} {b : Int} {I : Option Bk} (i : Inf s V b I) (e : ∀ j, j < bkL s → (E' (rdA0 s b + j) = 2 ↔ E (rdA0 s b + j) = 2)) : Val s E' b I ↔ Val s E b I := by
  cases I with
  | none => exact Iff.rfl
  | some p =>
    have hl := lenW_le (HasP.size (i : HasP s V (rdA0 s b) p.g p.id p.d))
    exact ⟨fun h j hj => by rw [Ne, ← e j (by omega)]; exact h j hj, fun h j hj => by rw [Ne, e j (by omega)]; exact h j hj⟩
/-- The active bank, where the other one is none. -/
theorem act_one {s : Sto} {m : Mem} {n : Nat} {V E : Nat → Nat} {I : Int → Option Bk} (S : Sta s m n V E I) : ∃ E', Vw (acM s m) n V E' ∧ Less E' E ∧ Sm m (acM s m) ∧ ((¬ Val s E 0 (I 0) ∧ ¬ Val s E 1 (I 1) ∧ acN s m = none) ∨
      (∃ p, I 0 = some p ∧ Val s E 0 (I 0) ∧ (Val s E 1 (I 1) → ∀ q, I 1 = some q → q.g ≤ p.g) ∧ acN s m = some 0 ∧ acW s m = hdrL p.g p.id p.d ∧ acD s m = p.d) ∨
      (∃ p, I 1 = some p ∧ Val s E 1 (I 1) ∧ (Val s E 0 (I 0) → ∀ q, I 0 = some q → q.g < p.g) ∧ acN s m = some 1 ∧ acW s m = hdrL p.g p.id p.d ∧ acD s m = p.d)) := act_inf S.o S.fits S.v S.i0 S.i1
/-- What is active: its bank, and what it holds. -/
theorem act_get {s : Sto} {m : Mem} {n : Nat} {V E : Nat → Nat} {I : Int → Option Bk} (S : Sta s m n V E I) : fullB s m = false ∧
    ((acN s m = none ∧ otherN s m = 0 ∧ ¬ Val s E 0 (I 0) ∧ ¬ Val s E 1 (I 1)) ∨ (∃ c p, (c = 0 ∨ c = 1) ∧ acN s m = some c ∧ otherN s m = 1 - c ∧ I c = some p ∧ Val s E c (I c) ∧ acW s m = hdrL p.g p.id p.d ∧ acD s m = p.d)) := by
  obtain ⟨E', _, _, _, h⟩ := act_one S
  rcases h with ⟨a, b, h⟩ | ⟨p, hp, a, _, h, hw, hd⟩ | ⟨p, hp, a, _, h, hw, hd⟩
  · exact ⟨(other_none h).2, Or.inl ⟨h, (other_none h).1, a, b⟩⟩
  · refine ⟨?_, Or.inr ⟨0, p, Or.inl rfl, h, (other_some h).1, hp, a, hw, hd⟩⟩
    have := S.small _ _ hp
    rw [(other_some h).2, hw]; exact decide_eq_false (by show ¬ ((p.g : Nat) : Int) = 4294967295; omega)
  · refine ⟨?_, Or.inr ⟨1, p, Or.inr rfl, h, (other_some h).1, hp, a, hw, hd⟩⟩
    have := S.small _ _ hp
    rw [(other_some h).2, hw]; exact decide_eq_false (by show ¬ ((p.g : Nat) : Int) = 4294967295; omega)
/-- The generation that is loaded next. -/
def nxtG (s : Sto) (m : Mem) (I : Int → Option Bk) : Nat := match acN s m with
  | none => 1
  | some c => match I c with
    | none => 1
    | some p => p.g + 1
def putB (I : Int → Option Bk) (b : Int) (p : Option Bk) : Int → Option Bk := fun c => if c = b then p else I c
theorem putB_at (I : Int → Option Bk) (b : Int) (p : Option Bk) : putB I b p b = p := if_pos rfl
theorem putB_ne (I : Int → Option Bk) {b c : Int} (p : Option Bk) (h : c ≠ b) : putB I b p c = I c := if_neg h
theorem Sta.mk2 {s : Sto} {m : Mem} {n : Nat} {V E : Nat → Nat} {I : Int → Option Bk} (o : OkS s) (f : bankAt s 2 ≤ n) (v : Vw m n V E) {b : Int} (hb : b = 0 ∨ b = 1) (ib : Inf s V b (I b)) (ic : Inf s V (1 - b) (I (1 - b))) (sm : ∀ b p, I b = some p → p.g < 1000000) : Sta s m n V E I := by
  rcases hb with rfl | rfl
  · exact ⟨o, f, v, ib, ic, sm⟩
  · exact ⟨o, f, v, ic, ib, sm⟩
theorem ld_good {s : Sto} {m : Mem} {n : Nat} {V E : Nat → Nat} {I : Int → Option Bk} (S : Sta s m n V E I) {id : Nat} {d : ByteArray} {c : Nat} (hid : id < 2 ^ 32) (hd : ((d.size : Nat) : Int) ≤ s.size) (pw : Pw m (6 + lenW d.size + c)) (hg : nxtG s m I < 1000000) :
    fullB s m = false ∧ ldOk s m d = true ∧ ∃ V' E', Sta s (ld6 s m ((id : Nat) : Int) d) n V' E' (putB I (otherN s m) (some ⟨nxtG s m I, id, d⟩)) ∧ St m (ld6 s m ((id : Nat) : Int) d) (6 + lenW d.size) ∧ Pw (ld6 s m ((id : Nat) : Int) d) c ∧
      (∀ j, j < 5 + lenW d.size → E' (rdA0 s (otherN s m) + j) = 0) ∧ (∀ j, j < rdA0 s (otherN s m) ∨ rdA0 s (otherN s m) + (5 + lenW d.size) ≤ j → V' j = V j ∧ (E' j = E j ∨ (E j = 1 ∧ E' j = 0))) := by
  have q0 : m.fuse < 0 ∨ ((0 : Nat) : Int) ≤ m.fuse := by unfold Pw at pw; omega
  have q1 : m.fuse < 0 ∨ ((1 : Nat) : Int) ≤ m.fuse := by unfold Pw at pw; omega
  have q2 : m.fuse < 0 ∨ ((1 + lenW d.size : Nat) : Int) ≤ m.fuse := by unfold Pw at pw; omega
  obtain ⟨hfull, hact⟩ := act_get S
  obtain ⟨B0, B1, B2, B3⟩ := banks S.o S.f
  have hb : otherN s m = 0 ∨ otherN s m = 1 := by have := other_01 s m; omega
  have hl := lenW_le hd
  have hz := S.o.z1
  -- the bank that is written
  have hA : bankAt s (otherN s m) = ((rdA0 s (otherN s m) : Nat) : Int) ∧ rdA0 s (otherN s m) + bkL s ≤ n ∧ (rdA0 s (1 - otherN s m) + bkL s ≤ rdA0 s (otherN s m) ∨ rdA0 s (otherN s m) + bkL s ≤ rdA0 s (1 - otherN s m)) := by
    rcases hb with e | e <;> rw [e]
    · exact ⟨B0, by omega, Or.inr (by show _ ≤ rdA0 s 1; omega)⟩
    · exact ⟨B1, by omega, Or.inl (by show rdA0 s 0 + _ ≤ _; omega)⟩
  obtain ⟨E1, v1, l1, s1, _⟩ := act_one S
  -- names
  have e2 : ld2 s m = writeS (acM s m) (bankAt s (otherN s m)) 0 := rfl
  have e3 : ld3 s m d = wbM (lenW d.size) (ld2 s m) (rdA0 s (otherN s m) + 5) d 0 := by
    unfold ld3; rw [hA.1]; congr 1
  have e4 : ld4 s m d = rbS (ld3 s m d) (bankAt s (otherN s m) + 5) ((d.size : Nat) : Int) := rfl
  have eR : ldR s m d = rbRes (ld3 s m d) (bankAt s (otherN s m) + 5) ((d.size : Nat) : Int) := rfl
  have e6 : ld6 s m ((id : Nat) : Int) d = hwM 5 1 (acM s (ld4 s m d)) (bankAt s (otherN s m)) (hdN (genN s (ld4 s m d) (otherN s m)) (ldG s m ((id : Nat) : Int) d)) := rfl
  generalize hbb : otherN s m = b at *
  generalize hAA : rdA0 s b = A at *
  obtain ⟨hA1, hA2, hA3⟩ := hA
  obtain ⟨v2, s2, p2⟩ := v1.write (a := bankAt s b) (i := A) (w := 0) (c := 5 + lenW d.size + c) hA1 (by unfold bkL at hA2; omega) (by omega) ((pw.sm s1).le (by omega))
  rw [← e2] at v2 s2 p2
  obtain ⟨v3, s3, p3⟩ := wb_vw d (lenW d.size) (A + 5) 0 (5 + c) v2 (p2.le (by omega)) (by omega)
  rw [← e3] at v3 s3 p3
  -- what is written is read
  obtain ⟨E4, v4, l4, s4, q4, r4⟩ := rows_vw (lenW d.size) (A + 5) v3 (by omega)
  have nl := r4 (fun j hj => by unfold wE; rw [if_pos (by omega)]; omega)
  have hroom : roomM (ld3 s m d) (bankAt s b + 5) ((d.size : Nat) : Int) = 0 := by
    unfold roomM; rw [if_pos]
    rw [v3.num, hA1]
    unfold bkL at hA2
    omega
  have e4' : ld4 s m d = rbM (lenW d.size) (ld3 s m d) (A + 5) := by
    rw [e4]; unfold rbS; rw [if_pos hroom, hA1]; congr 1
  have eR' : ldR s m d = (d, 0) := by
    rw [eR]; unfold rbRes; rw [if_pos hroom, hA1]
    show (if rbLost (lenW d.size) (ld3 s m d) (A + 5) = true then _ else (bytesOf ((rbBytes (lenW d.size) (ld3 s m d) (A + 5)).take d.size), 0)) = _
    rw [nl, if_neg (by decide), (q4 nl).2.1, vBytes_of fun j hj => ?_]
    unfold wV; rw [if_pos (by omega), Nat.zero_add, show A + 5 + j - (A + 5) = j by omega]
  rw [← e4'] at v4 s4
  -- the banks then
  have hc : 1 - b = 0 ∨ 1 - b = 1 := by omega
  have ib4 : Inf s (wV (upd V A 0) (A + 5) (lenW d.size) d 0) b (putB I b none b) := by
    rw [putB_at]
    show wV (upd V A 0) (A + 5) (lenW d.size) d 0 (rdA0 s b) = 0
    rw [hAA]; unfold wV; rw [if_neg (by omega), upd_at]
  have ic4 : Inf s (wV (upd V A 0) (A + 5) (lenW d.size) d 0) (1 - b) (putB I b none (1 - b)) := by
    rw [putB_ne _ _ (by omega)]
    refine (S.inf hc).congr fun j hj => ?_
    unfold wV; rw [if_neg (by omega), upd_ne _ _ (by omega)]
  have sm4 : ∀ c p, putB I b none c = some p → p.g < 1000000 := fun c p h => by
    unfold putB at h
    split at h
    · cases h
    · exact S.small c p h
  have S4 : Sta s (ld4 s m d) n (wV (upd V A 0) (A + 5) (lenW d.size) d 0) E4 (putB I b none) := Sta.mk2 S.o S.f v4 hb ib4 ic4 sm4
  have hE4 : ∀ j, j < A ∨ A + (5 + lenW d.size) ≤ j → E4 j = E j ∨ (E j = 1 ∧ E4 j = 0) := fun j hj => by
    have h3 : wE (upd E1 A 0) (A + 5) (lenW d.size) j = E1 j := by unfold wE; rw [if_neg (by omega), upd_ne _ _ (by omega)]
    rcases l4 j with a | ⟨a, a'⟩ <;> rw [h3] at a <;> rcases l1 j with x | ⟨x, x'⟩ <;> omega
  have vc4 : Val s E4 (1 - b) (I (1 - b)) ↔ Val s E (1 - b) (I (1 - b)) := Val.congr (S.inf hc) fun j hj => by
    rcases hE4 (rdA0 s (1 - b) + j) (by omega) with x | ⟨x, x'⟩ <;> omega
  obtain ⟨hfull4, hact4⟩ := act_get S4
  have gen4 : genN s (ld4 s m d) b = ((nxtG s m I : Nat) : Int) := by
    unfold genN nxtG
    rcases hact with ⟨h1, h2, h3, h4⟩ | ⟨cc, p, hcc, h1, h2, h3, h4, _⟩
    · rw [h1]
      have nv : ¬ Val s E4 (1 - b) (I (1 - b)) := by
        rw [vc4]
        rcases hb with e | e <;> rw [e]
        · exact h4
        · exact h3
      rcases hact4 with ⟨k1, _⟩ | ⟨c4, p4, hc4, k1, k2, k3, k4, _⟩
      · rw [k1]; rfl
      · exfalso
        by_cases e : c4 = b
        · rw [e, putB_at] at k3; cases k3
        · rw [putB_ne _ _ e, show c4 = 1 - b by omega] at k4; exact nv k4
    · have ec : cc = 1 - b := by omega
      subst ec
      rw [h1]
      show _ = (((match I (1 - b) with | none => 1 | some p => p.g + 1 : Nat) : Nat) : Int)
      rw [h3]
      have y4 : Val s E4 (1 - b) (I (1 - b)) := vc4.2 h4
      rcases hact4 with ⟨k1, k2, k3, k4⟩ | ⟨c4, p4, hc4, k1, k2, k3, k4, k5, _⟩
      · exfalso
        rcases hb with e | e <;> subst e
        · exact k4 y4
        · exact k3 y4
      · by_cases e : c4 = b
        · rw [e, putB_at] at k3; cases k3
        · have e' : c4 = 1 - b := by omega
          rw [putB_ne _ _ e, e', h3] at k3
          cases k3
          rw [k1]
          show (if c4 = b then (1 : Int) else wN (acW s (ld4 s m d)) 0 + 1) = _
          rw [if_neg e, k5]; rfl
  obtain ⟨E5, v5, l5, s5, _⟩ := act_one S4
  have p5 : Pw (acM s (ld4 s m d)) (5 + c) := (p3.sm s4).sm s5
  have hcr : crcN 0 d < 2 ^ 32 := crcN_lt (by decide) _
  have hse : sealN ((nxtG s m I : Nat) : Int) ((id : Nat) : Int) ((d.size : Nat) : Int) ((crcN 0 d : Nat) : Int) < 2 ^ 32 := crcN_lt (by decide) _
  obtain ⟨V6, E6, v6, s6, p6, w0, w1, w2, w3, w4, z6, r6⟩ := hw_vw (w0 := nxtG s m I) (w1 := id) (w2 := d.size) (w3 := crcN 0 d) (w4 := sealN ((nxtG s m I : Nat) : Int) ((id : Nat) : Int) ((d.size : Nat) : Int) ((crcN 0 d : Nat) : Int)) v5 p5 hA1 (by unfold bkL at hA2; omega) (by omega) hid (by omega) hcr hse
    (w := hdN (genN s (ld4 s m d) b) (ldG s m ((id : Nat) : Int) d)) (by rw [gen4]; rfl)
  rw [← e6] at v6 s6 p6
  refine ⟨hfull, ?_, V6, E6, ?_, ?_, p6, fun j hj => ?_, fun j hj => ?_⟩
  · unfold ldOk; rw [hfull, hfull4, eR']; simp
  · refine Sta.mk2 S.o S.f v6 hb ?_ ?_ fun cc p h => ?_
    · rw [putB_at]
      show HasP s V6 (rdA0 s b) (nxtG s m I) id d
      rw [hAA]
      refine ⟨w0, w1, w2, w3, w4, fun j hj => ?_, ?_, hd⟩
      · rw [(r6 _ (by omega)).1]
        unfold wV; rw [if_pos (by omega), Nat.zero_add, show A + 5 + j - (A + 5) = j by omega]
      · unfold nxtG; split
        · omega
        · split <;> omega
    · rw [putB_ne _ _ (by omega)]
      refine (S.inf hc).congr fun j hj => ?_
      rw [(r6 _ (by unfold bkL at *; omega)).1]
      unfold wV; rw [if_neg (by omega), upd_ne _ _ (by unfold bkL at *; omega)]
    · unfold putB at h
      split at h
      · cases h; exact hg
      · exact S.small cc p h
  · have t1 : St m (ld2 s m) 1 := s1.st.trans s2 (by omega) q0
    have t2 : St m (ld3 s m d) (1 + lenW d.size) := t1.trans s3 rfl q1
    have t3 : St m (ld4 s m d) (1 + lenW d.size) := t2.trans s4.st (by omega) q2
    have t4 : St m (acM s (ld4 s m d)) (1 + lenW d.size) := t3.trans s5.st (by omega) q2
    exact t4.trans s6 (by omega) q2
  · by_cases h5 : j < 5
    · exact z6 j h5
    · rw [(r6 _ (by omega)).2]
      refine l5.zero (l4.zero ?_)
      unfold wE; rw [if_pos (by omega)]
  · obtain ⟨a1, a2⟩ := r6 j (by omega)
    refine ⟨?_, ?_⟩
    · rw [a1]; unfold wV; rw [if_neg (by omega), upd_ne _ _ (by omega)]
    · rw [a2]
      rcases l5 j with x | ⟨x, x'⟩ <;> rcases hE4 j hj with y | ⟨y, y'⟩ <;> omega
end Go.Am.Pat
