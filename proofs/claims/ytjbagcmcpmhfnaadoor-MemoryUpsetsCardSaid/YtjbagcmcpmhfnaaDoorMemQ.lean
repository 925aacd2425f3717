/-
  Memory: MemoryDouble. Own work.
-/
import Derived.Test.YtjbagcmcpmhfnaaDoorMemN
namespace Go.Am.Mem
open Go Go.Am Go.Am.Ham Go.Proofs
set_option maxRecDepth 100000

theorem cnt_count {m : Mem} (h : CntM m) (k : Int) : CntM (countM m k) := by
  have := h.fx0; have := h.fx1; have := h.lo0; have := h.lo1
  unfold countM
  split
  · exact ⟨by show _ ≤ iAdd .i64 m.fx 1; unfold iAdd; rw [wrap64]; split <;> omega, by show iAdd .i64 m.fx 1 ≤ _; unfold iAdd; rw [wrap64]; split <;> omega, h.lo0, h.lo1⟩
  · split
    · exact ⟨h.fx0, h.fx1, by show _ ≤ iAdd .i64 m.lo 1; unfold iAdd; rw [wrap64]; split <;> omega, by show iAdd .i64 m.lo 1 ≤ _; unfold iAdd; rw [wrap64]; split <;> omega⟩
    · exact h
theorem count_safe (m : Mem) (k : Int) : (countM m k).safe = m.safe := by unfold countM; split <;> (try split) <;> rfl
section
variable {m : Mem} {w v i j : Nat} {s : Int} (d : Dbl m w v i j s)
include d
theorem Dbl.k0 : kindAt m 0 = 0 := by unfold kindAt; rw [d.a0, dec_enc d.v32]
theorem Dbl.k1 : kindAt m 1 = 2 := by unfold kindAt; rw [d.a1, dec_two d.i39 d.j39 d.ne]
theorem Dbl.k2 : kindAt m 2 = 0 := by unfold kindAt; rw [d.a2, dec_enc d.v32]
theorem Dbl.kind {p : Nat} (hp : p < 3) : kindAt m p ≠ 1 := by
  rcases (by omega : p = 0 ∨ p = 1 ∨ p = 2) with rfl | rfl | rfl
  · rw [d.k0]; omega
  · rw [d.k1]; omega
  · rw [d.k2]; omega
theorem Dbl.readF {p : Nat} (hp : p < 3) : Dbl (readF m p) w v i j s := by
  have e : Mem.readF m p = countM m ((kindAt m p : Nat) : Int) := by
    have := d.kind hp
    unfold kindAt at this
    unfold Mem.readF kindAt
    rw [if_neg this]
  have g := d.g.readF p
  rw [e] at g ⊢
  exact ⟨g, d.i39, d.j39, d.ne, d.v32, (count_at _ _ _).trans d.a0, (count_at _ _ _).trans d.a1, (count_at _ _ _).trans d.a2, cnt_count d.c _, (count_safe _ _).trans d.sf, (count_scrub _ _).trans d.sc⟩
theorem Dbl.step {p : Nat} (hp : p < 3) (hs : s = (p : Nat)) : Dbl (stepM m) w v i j (((p + 1) % 3 : Nat) : Int) ∧ scrubN 1 1 m = 0 ∧ kindAt m m.scrub.toNat = (if p = 1 then 2 else 0) := by
  have e : m.scrub.toNat = p := by rw [d.sc, hs, Int.toNat_natCast]
  have dr := d.readF hp
  have hk : kindAt m p = (if p = 1 then 2 else 0) := by
    rcases (by omega : p = 0 ∨ p = 1 ∨ p = 2) with rfl | rfl | rfl
    · exact d.k0
    · exact d.k1
    · exact d.k2
  have hc : stepM m = { Mem.readF m p with scrub := (((p + 1) % 3 : Nat) : Int) } := by
    unfold stepM
    rw [e, d.sc, hs, d.g.n]
    congr 1
  refine ⟨?_, ?_, by rw [e]; exact hk⟩
  · rw [hc]
    have o := ok_step d.g.ok
    rw [hc] at o
    exact ⟨⟨o, dr.g.n, dr.g.fuse⟩, d.i39, d.j39, d.ne, d.v32, dr.a0, dr.a1, dr.a2, ⟨dr.c.fx0, dr.c.fx1, dr.c.lo0, dr.c.lo1⟩, dr.sf, rfl⟩
  · rw [scrubN, e, if_neg (d.kind hp)]; rfl
end
theorem Dbl.scrub {m : Mem} {w v i j : Nat} (d : Dbl m w v i j 0) : Dbl (scrubS m 3) w v i j 0 ∧ scrubR m 3 = (0, 1, 0) := by
  obtain ⟨d1, n1, k1⟩ := d.step (p := 0) (by omega) rfl
  obtain ⟨d2, n2, k2⟩ := d1.step (p := 1) (by omega) rfl
  obtain ⟨d3, n3, k3⟩ := d2.step (p := 2) (by omega) rfl
  unfold scrubS scrubR
  rw [if_neg (by omega), if_neg (by omega)]
  refine ⟨d3, ?_⟩
  show (scrubN 1 3 m, scrubN 2 3 m, 0) = _
  have e1 : scrubN 1 3 m = 0 := by
    simp only [scrubN, k1, k2, k3]; rfl
  have e2 : scrubN 2 3 m = 1 := by
    simp only [scrubN, k1, k2, k3]; rfl
  rw [e1, e2]
theorem Dbl.reset {m : Mem} {w v i j : Nat} (d : Dbl m w v i j 0) : Dbl (resetM m) w v i j 0 := by
  have hn := d.g.n
  have e : resetM m = { m with scrub := 0, fuse := -1, bl := false, fx := 0, lo := 0, st := 0 } := by
    have hz := zero_all d.g.ok.len
    rw [hn] at hz
    have hz2 : zeroFrom m m.safe.toNat = m := by rw [d.sf]; exact hz
    unfold resetM
    rw [hz2]
  have o := ok_reset d.g.ok
  rw [e] at o ⊢
  exact ⟨⟨o, hn, by show (-1 : Int) < 0; omega⟩, d.i39, d.j39, d.ne, d.v32, d.a0, d.a1, d.a2, ⟨by show _ ≤ (0 : Int); omega, by show (0 : Int) ≤ _; omega, by show _ ≤ (0 : Int); omega, by show (0 : Int) ≤ _; omega⟩, d.sf, rfl⟩
theorem Dbl.read {m : Mem} {w v i j : Nat} (d : Dbl m w v i j 0) : Dbl (readS m 1) w v i j 0 ∧ readR m 1 = (0, 2, 300) := by
  have h1 : (0 : Int) ≤ 1 ∧ (1 : Int) < (3 : Nat) := by omega
  refine ⟨?_, ?_⟩
  · unfold readS; rw [d.g.inM h1]; exact d.readF (by decide)
  · rw [d.g.readR h1, show (1 : Int).toNat = 1 from rfl]
    have := d.k1
    unfold kindAt at this
    rw [if_pos this]
theorem Dbl.rb {m : Mem} {w v i j : Nat} (d : Dbl m w v i j 0) : Dbl (rbS m 0 12) w v i j 0 ∧ rbRes m 0 12 = (⟨⟨[]⟩⟩, 300) := by
  have d1 := d.readF (p := 0) (by omega)
  have hr : roomM m 0 12 = 0 := by unfold roomM; rw [if_pos]; rw [d.g.n]; omega
  have hl : lenW (12 : Int).toNat = 3 := rfl
  have hk0 : ¬ kindAt m 0 = 2 := by rw [d.k0]; omega
  have hk1 : kindAt (Mem.readF m 0) 1 = 2 := d1.k1
  unfold rbS rbRes
  rw [if_pos hr, if_pos hr, hl, show (0 : Int).toNat = 0 from rfl]
  have e1 : rbM 3 m 0 = Mem.readF (Mem.readF m 0) 1 := by rw [rbM, if_neg hk0, rbM, if_pos hk1]
  have e2 : rbLost 3 m 0 = true := by rw [rbLost, if_neg hk0, rbLost, if_pos hk1]
  rw [e1, if_pos e2]
  exact ⟨d1.readF (by omega), rfl⟩

theorem loopDa : ∀ e h k, TDa e h k → ∃ m, loopN cDbl (codeOf Tryd.f7) 0 8 m e h k := by
  intro e h k hT
  unfold TDa at hT
  split at hT
  · rename_i w v n
    replace hT := asMem_elim hT
    obtain ⟨m, ty, ty2, mv, mv2, rfl, rfl, w0, w1, i, j, d, hk⟩ := hT
    have key : ∀ (c n : Nat) (m : Mem), Dbl m w.toNat v.toNat i j 0 → n + c = 3 →
        loopN cDbl (codeOf Tryd.f7) 0 8 (c + 1) [(0, .int .u32 w), (1, .int .u32 v), (9, .pointer (some ⟨0, 0, some 0⟩)), (11, .int .i64 (n : Nat))] (memH m ty ty2 mv mv2) k := by
      intro c
      induction c with
      | zero =>
        intro n m d hn
        rw [loopN_succ]
        show tDa m ty ty2 mv mv2 w v n _
        rw [tDa_eq, dF (by omega)]
        exact hk m d
      | succ c ih =>
        intro n m d hn
        rw [loopN_succ]
        show tDa m ty ty2 mv mv2 w v n _
        rw [tDa_eq, dT (by omega)]
        obtain ⟨d1, q1⟩ := d.read
        obtain ⟨d2, q2⟩ := d1.rb
        obtain ⟨d3, q3⟩ := d2.scrub
        have d4 := d3.reset
        refine ⟨d.g.ok, ?_⟩
        rw [q1]
        rintro _ rfl _ rfl _ rfl _ rfl
        rw [dnT (by rfl), dnT (by rfl), dnT (by rfl)]
        refine ⟨d1.g.ok, ?_⟩
        rw [q2]
        rintro _ rfl x6 h6 _ rfl
        rw [h6, strEq_nil, dnT (by rfl), dnT (by rfl)]
        refine ⟨d2.g.ok, d2.c, ?_⟩
        rw [q3]
        rintro _ rfl _ rfl _ rfl _ rfl
        rw [dnT (by rfl), dnT (by rfl), dnT (by rfl)]
        refine ⟨d3.g.ok, ?_⟩
        rintro _ rfl x13 h13
        rw [iAdd_i64 (by omega) (by omega)] at h13
        obtain rfl : x13 = ((n + 1 : Nat) : Int) := by omega
        exact ih (n + 1) _ d4 (by omega)
    exact ⟨_, key 3 0 m d rfl⟩
  · exact hT.elim
theorem Sgl.read {m : Mem} {w v p : Nat} (d : Sgl m w v) (hp : p < 3) : readS m (p : Nat) = m ∧ readR m (p : Nat) = (if p = 1 then w else v, 0, 0) := by
  have h1 : (0 : Int) ≤ (p : Nat) ∧ ((p : Nat) : Int) < (3 : Nat) := by omega
  have hd : decN (wordAt m p) = (if p = 1 then w else v, 0, 0) := by
    rcases (by omega : p = 0 ∨ p = 1 ∨ p = 2) with rfl | rfl | rfl
    · rw [d.a0, dec_enc d.v32]; rfl
    · rw [d.a1, dec_enc d.w32]; rfl
    · rw [d.a2, dec_enc d.v32]; rfl
  refine ⟨?_, ?_⟩
  · unfold readS readF
    rw [d.g.inM h1, if_pos rfl, Int.toNat_natCast, hd, if_neg (by show ¬ (0 : Nat) = 1; omega)]
    rfl
  · rw [d.g.readR h1, Int.toNat_natCast, hd, if_neg (by show ¬ (0 : Nat) = 2; omega)]
theorem loopDb : ∀ e h k, TDb e h k → ∃ m, loopN cDbl (codeOf Tryd.f7) 1 23 m e h k := by
  intro e h k hT
  unfold TDb at hT
  split at hT
  · rename_i w v n
    replace hT := asMem_elim hT
    obtain ⟨m, ty, ty2, mv, mv2, rfl, rfl, w0, v0, d, hk⟩ := hT
    have key : ∀ (c n : Nat), n + c = 3 →
        loopN cDbl (codeOf Tryd.f7) 1 23 (c + 1) [(0, .int .u32 w), (1, .int .u32 v), (9, .pointer (some ⟨0, 0, some 0⟩)), (20, .int .i64 (n : Nat))] (memH m ty ty2 mv mv2) k := by
      intro c
      induction c with
      | zero =>
        intro n hn
        rw [loopN_succ]
        show tDb m ty ty2 mv mv2 w v n _
        rw [tDb_eq, dF (by omega)]
        exact hk
      | succ c ih =>
        intro n hn
        rw [loopN_succ]
        show tDb m ty ty2 mv mv2 w v n _
        obtain ⟨e1, e2⟩ := d.read (p := n) (by omega)
        rw [tDb_eq, dT (by omega), e1, e2]
        refine ⟨d.g.ok, ?_⟩
        rintro x1 hx1 x2 h2 _ rfl _ rfl
        replace hx1 := hx1.symm
        subst hx1
        have nx : ∀ x : Int, x = iAdd .i64 (n : Nat) 1 → loopN cDbl (codeOf Tryd.f7) 1 23 (c + 1) [(0, .int .u32 w), (1, .int .u32 v), (9, .pointer (some ⟨0, 0, some 0⟩)), (20, .int .i64 x)] (memH m ty ty2 mv mv2) k := by
          intro x hx
          rw [iAdd_i64 (by omega) (by omega)] at hx
          obtain rfl : x = ((n + 1 : Nat) : Int) := by omega
          exact ih (n + 1) (by omega)
        by_cases hn1 : n = 1
        · rw [dT (show ((n : Nat) : Int) = 1 by omega), dnT (show x2 = w by rw [h2]; show (((if n = 1 then w.toNat else v.toNat) : Nat) : Int) = w; rw [if_pos hn1]; omega), dnT (show ((n : Nat) : Int) = 1 by omega), dnT (by rfl), dnT (by rfl)]
          exact nx
        · rw [dF (show ¬ ((n : Nat) : Int) = 1 by omega), dnF (show ¬ ((n : Nat) : Int) = 1 by omega), dnT (show x2 = v by rw [h2]; show (((if n = 1 then w.toNat else v.toNat) : Nat) : Int) = v; rw [if_neg hn1]; omega), dnT (by rfl), dnT (by rfl)]
          exact nx
    exact ⟨_, key 3 0 rfl⟩
  · exact hT.elim
def sDbl : Spec := fun args h K => match args, h with
  | [.int .u32 w, .int .u32 v, .agg ⟨[.int .u8 p, .int .u8 q]⟩], [] => 0 ≤ w ∧ w < 2 ^ 32 ∧ 0 ≤ v ∧ v < 2 ^ 32 ∧ 0 ≤ p ∧ p < 2 ^ 8 ∧ 0 ≤ q ∧ q < 2 ^ 8 ∧ K (.bool true) []
  | _, _ => False
theorem mod39 {p x1 x2 : Int} (p0 : 0 ≤ p) (h1 : x1 = Int.tmod p 39) (h2 : x2 = IntKind.wrap .i64 x1) : ∃ i : Nat, i < 39 ∧ x2 = i := by
  refine ⟨p.toNat % 39, Nat.mod_lt _ (by omega), ?_⟩
  have e : p = ((p.toNat : Nat) : Int) := by omega
  rw [e, show (39 : Int) = ((39 : Nat) : Int) from rfl, tmod_cast] at h1
  rw [h2, h1]
  exact wrap_cast .i64 (Nat.lt_of_lt_of_le (Nat.mod_lt _ (by omega)) (by decide))
theorem okDbl : SpecOk Tryd.prog G0 7 sDbl :=
  spec2 mixed tL_ok Tryd.func7 (by kernel_rfl : Tryd.f7.body = some (codeOf Tryd.f7)) cDbl rfl rfl rfl (by kernel_rfl) (ids := [8, 23]) (by kernel_rfl) ⟨loopDa, loopDb, trivial⟩ (by
    intro args h K hk
    unfold sDbl at hk
    split at hk
    · rename_i w v p q
      obtain ⟨w0, w1, v0, v1, p0, p1, q0, q1, hk⟩ := hk
      show bDbl w v p q K
      rw [bDbl_eq]
      rintro x1 h1 x2 h2 x3 h3 x4 h4
      obtain ⟨i, i39, e2⟩ := mod39 p0 h1 h2
      obtain ⟨j, j39, e4⟩ := mod39 q0 h3 h4
      by_cases hij : x2 = x4
      · rw [dT hij]; exact hk
      · rw [dF hij]
        refine ⟨fun _ => ?_, fun h => by cases h⟩
        have hw : w.toNat < 2 ^ 32 := by omega
        have hv : v.toNat < 2 ^ 32 := by omega
        have i0 : (0 : Int) ≤ 0 ∧ (0 : Int) < (3 : Nat) := by omega
        have i1 : (0 : Int) ≤ 1 ∧ (1 : Int) < (3 : Nat) := by omega
        have i2 : (0 : Int) ≤ 2 ∧ (2 : Int) < (3 : Nat) := by omega
        have b2 : 0 ≤ x2 ∧ x2 < 39 := by omega
        have b4 : 0 ≤ x4 ∧ x4 < 39 := by omega
        rintro x5 h5 _ rfl
        have g5 : Good x5 3 := by rw [h5]; exact good_new (by omega) (by omega) (by omega) (by omega)
        rw [dnT (by rfl)]
        refine ⟨g5.ok, v0, v1, ?_⟩
        rintro x7 h7 x8 h8
        have g7 : Good x7 3 := by rw [h7]; exact g5.write i0 _
        rw [dnT (by rw [h8, g5.chk i0]; rfl)]
        refine ⟨g7.ok, w0, w1, ?_⟩
        rintro x9 h9 x10 h10
        have g9 : Good x9 3 := by rw [h9]; exact g7.write i1 _
        rw [dnT (by rw [h10, g7.chk i1]; rfl)]
        refine ⟨g9.ok, v0, v1, ?_⟩
        rintro x11 h11 x12 h12
        have g11 : Good x11 3 := by rw [h11]; exact g9.write i2 _
        rw [dnT (by rw [h12, g9.chk i2]; rfl)]
        refine ⟨g11.ok, ?_⟩
        rintro x13 h13 x14 h14
        have g13 : Good x13 3 := by rw [h13]; exact g11.ups
        rw [dnT (by rw [h14, g11.ups_ok i1 b2]; rfl)]
        refine ⟨g13.ok, ?_⟩
        rintro x15 h15 x16 h16
        have g15 : Good x15 3 := by rw [h15]; exact g13.ups
        rw [dnT (by rw [h16, g13.ups_ok i1 b4]; rfl)]
        have at11 : ∀ p : Nat, p < 3 → wordAt x11 p = (if p = 1 then encN w.toNat else encN v.toNat) := by
          intro p hp
          rw [h11, g9.write_at i2 _ hp, h9, g7.write_at i1 _ hp, h7, g5.write_at i0 _ hp]
          rcases (by omega : p = 0 ∨ p = 1 ∨ p = 2) with rfl | rfl | rfl <;> rfl
        have at15 : ∀ p : Nat, p < 3 → wordAt x15 p = (if p = 1 then encN w.toNat ^^^ 2 ^ i ^^^ 2 ^ j else encN v.toNat) := by
          intro p hp
          rw [h15, g13.ups_at i1 b4 hp, h13, g11.ups_at i1 b2 hp, g11.ups_at i1 b2 (by decide), e2, e4, Int.toNat_natCast, Int.toNat_natCast, at11 p hp, show (1 : Int).toNat = 1 from rfl, at11 1 (by omega)]
          by_cases h : p = 1
          · subst h; rfl
          · rw [if_neg (fun e => h e.symm), if_neg (fun e => h e.symm), if_neg h, if_neg h]
        have plain : x15.safe = 3 ∧ x15.scrub = 0 ∧ CntM x15 := by
          have st : ∀ (m : Mem) (a : Int) (u : Nat), (writeS m a u).safe = m.safe ∧ (writeS m a u).scrub = m.scrub ∧ (CntM m → CntM (writeS m a u)) := by
            intro m a u
            unfold writeS
            split
            · refine ⟨?_, store_scrub _ _ _, fun c => ⟨?_, ?_, ?_, ?_⟩⟩
              · unfold storeM; split <;> rfl
              · rw [(store_fx _ _ _).1]; exact c.fx0
              · rw [(store_fx _ _ _).1]; exact c.fx1
              · rw [(store_fx _ _ _).2]; exact c.lo0
              · rw [(store_fx _ _ _).2]; exact c.lo1
            · exact ⟨rfl, rfl, id⟩
          have su : ∀ (m : Mem) (a b : Int), (upsS m a b).safe = m.safe ∧ (upsS m a b).scrub = m.scrub ∧ (CntM m → CntM (upsS m a b)) := by
            intro m a b
            unfold upsS
            split
            · exact ⟨rfl, rfl, fun c => ⟨c.fx0, c.fx1, c.lo0, c.lo1⟩⟩
            · exact ⟨rfl, rfl, id⟩
          have c5 : CntM x5 := by rw [h5]; exact ⟨by show _ ≤ (0 : Int); omega, by show (0 : Int) ≤ _; omega, by show _ ≤ (0 : Int); omega, by show (0 : Int) ≤ _; omega⟩
          refine ⟨?_, ?_, ?_⟩
          · rw [h15, (su _ _ _).1, h13, (su _ _ _).1, h11, (st _ _ _).1, h9, (st _ _ _).1, h7, (st _ _ _).1, h5]; rfl
          · rw [h15, (su _ _ _).2.1, h13, (su _ _ _).2.1, h11, (st _ _ _).2.1, h9, (st _ _ _).2.1, h7, (st _ _ _).2.1, h5]; rfl
          · rw [h15]; refine (su _ _ _).2.2 ?_; rw [h13]; refine (su _ _ _).2.2 ?_; rw [h11]; refine (st _ _ _).2.2 ?_; rw [h9]; refine (st _ _ _).2.2 ?_; rw [h7]; exact (st _ _ _).2.2 c5
        have d15 : Dbl x15 w.toNat v.toNat i j 0 := ⟨g15, i39, j39, fun e => hij (by rw [e2, e4, e]), hv, at15 0 (by omega), at15 1 (by omega), at15 2 (by omega), plain.2.2, plain.1, plain.2.1⟩
        refine ⟨rfl, w0, w1, i, j, d15, ?_⟩
        rintro x17 d17
        refine ⟨d17.g.ok, w0, w1, ?_⟩
        rintro x18 h18 x19 h19
        have g18 : Good x18 3 := by rw [h18]; exact d17.g.write i1 _
        rw [dnT (by rw [h19, d17.g.chk i1]; rfl)]
        refine ⟨rfl, w0, v0, ⟨g18, hw, hv, ?_, ?_, ?_⟩, hk⟩
        · rw [h18, d17.g.write_at i1 _ (by omega)]; exact d17.a0
        · rw [h18, d17.g.write_at i1 _ (by omega)]; rfl
        · rw [h18, d17.g.write_at i1 _ (by omega)]; exact d17.a2
    · exact hk.elim)
end Go.Am.Mem
