/-
  Joiner: PacketLosses, walked: messages. Own work.
-/
import Derived.Test.YtbpfhjmiaaaoiaaJoiX1
namespace Go.Am.Joi
open Go Go.Am Go.Am.Lib Go.Lib Go.Proofs Go.RowKit
open Go.Am.Own
open Go.Am.Pkt (G0 manyP flP rowP badS sSplit okSplit)
set_option maxRecDepth 100000
set_option maxHeartbeats 6400000 in
theorem losses_main {W0 : World} (ao : Option Addr) (n cap : Nat) (F : Nat → ByteArray) (hs : StrsIn W0 ao n F) (z : Int) (lo : Option Addr) (nl cl : Nat) (hb : BoolsIn W0 lo nl) (h30 : n ≤ 30) (h6 : sumS F n ≤ 6000) :
    Calls Try.prog 6 #[.slice ao n cap, .int .i64 z, .slice lo nl cl] W0 fun e w' => e = .returned (.bool true) ∧ Below W0.heap.size W0 w' := by
  have hS := shown_calls W0
  have h' : ¬ (30 : Int) < ((n : Nat) : Int) := by omega
  have HL := Lib.hid (fun w (hB : Below W0.heap.size W0 w) => long_calls ao n cap F (hs.keep hB))
  have HS := Lib.hid hs
  have HB := Lib.hid hb
  rw [decide_eq_false (by omega)] at HL
  clear hs hb
  go_enter Try.func6, Try.ntmps6
  go_wp2_with (go_at_call 10; refine hS.mono ?_; clear hS; rintro e W2 ⟨rfl, b2⟩)
  go_wp2_with (go_at_call 21; refine (HL.out _ b2).mono ?_; clear HL; rintro e W3 ⟨rfl, b3⟩; have g3 := b2.trans (b3.mono b2.size))
  go_wp2_with (go_at_call 15; refine (new_at _).mono ?_; rintro e W4 ⟨jb, rfl, hj0, b4, hjb⟩)
  have hW := Wj.first (V := W0) g3 hj0 b4 9 9 9 9
  have h0 : Lo1 W0 F jb 16380 0 0 0 0 false (.slice none 0 0) (.slice none 0 0) W4 := ⟨0, js0, [], by omega, Nat.zero_le _, by omega, Nat.le_refl _, Nat.le_refl _, Ls.zero, hW⟩
  clear hj0 b4 b3 b2 hjb hW
  go_wp2
  go_loopw [8, 9, 10, 11, 12, 13, 14, 15] (fun cv av mv wv gv bv uv iv wq => ∃ (c a mi i u : Nat) (bg : Bool) (vw vg : Value), cv = .int .i64 (c : Nat) ∧ av = .int .i64 (a : Nat) ∧ mv = .int .i64 (mi : Nat) ∧ vw = wv ∧ vg = gv ∧ bv = .bool bg ∧ uv = .int .i64 (u : Nat) ∧ iv = .int .i64 (i : Nat) ∧ i ≤ n ∧ Lo1 W0 F jb c a mi i u bg vw vg wq)
    (fun _ _ _ _ _ _ _ iv _ => n - iOf iv)
  case atStart => exact ⟨16380, 0, 0, 0, 0, false, _, _, rfl, rfl, rfl, rfl, rfl, rfl, rfl, rfl, Nat.zero_le _, h0⟩
  case round =>
    clear h0 g3
    obtain ⟨c, a, mi, i, u, bg, vw, vg, rfl, rfl, rfl, rfl, rfl, rfl, rfl, rfl, hi, hLo⟩ := hrel
    rcases Nat.lt_or_ge i n with hlt | hge
    · have hlt' : ((i : Nat) : Int) < ((n : Nat) : Int) := by omega
      obtain ⟨N, J, L, hc, ha, hmu, hN, hLl, hls, hW⟩ := hLo
      obtain ⟨x, rfl, hx0, hsz, hxb⟩ := HS.out i hlt
      have hx := (World.cell?_of_block (hW.fr.block _ hxb)).trans hx0
      obtain ⟨s, hsF⟩ : ∃ s, F i = s := ⟨_, rfl⟩
      rw [hsF] at hx hx0 hsz
      have HX := Lib.hid hx0
      obtain ⟨p, hp⟩ : ∃ p : Nat, z % 50 = (p : Int) := ⟨(z % 50).toNat, by omega⟩
      have hpb : p < 50 := by omega
      have cP := fun w => pick_calls z 50 (by decide) (by decide) w
      rw [hp] at cP
      have h6i := sumS_mono F (show i + 1 ≤ n from hlt)
      have hsum : sumS F (i + 1) = sumS F i + s.size + 1 := by rw [← hsF]; rfl
      rcases Nat.eq_zero_or_pos s.size with hs0 | hs0
      · have hse : s = ⟨#[]⟩ := by
          have h1 : s.data.size = 0 := hs0
          have h2 : s.data = #[] := Array.eq_empty_of_size_eq_zero h1
          cases s
          exact congrArg ByteArray.mk h2
        subst hse
        have cS := fun w => split_empty true 9 (c : Int) (IntKind.i64.wrap (1 + (p : Int))) w
        have CS := Lib.hid cS
        have CP := Lib.hid cP
        have HN := Lib.hid (And.intro hN (And.intro hLl (And.intro hls (And.intro hsum (And.intro h6i (And.intro ha hmu))))))
        have HFin := Lib.hid (show ∀ w', Wj W0 W0 none jb (N, J) (R4 (9, vw, cellS L) (9, vg, cellS L) nilR nilR) w' → Lo1 W0 F jb c a mi (i + 1) u bg vw vg w' from fun w' h => ⟨N, J, L, hc, by omega, hmu, hN, by omega, hls, h⟩)
        have hi30 : i ≤ 30 := by omega
        clear cS cP hx0 hsF hp hN hLl hls hsum h6i ha hmu
        go_wp2
        go_region_with (first
          | (go_at_call 22; refine (CP.out _).mono ?_; rintro e V1 ⟨rfl, d1⟩; have hV1 := hW.drew.below d1; have hx1 := (World.cell?_of_block (hV1.fr.block _ hxb)).trans HX.out)
          | (go_at_call 20; refine (CS.out _).mono ?_; rintro e V2 ⟨rfl, d2⟩; have hV2 := hV1.below d2; have hx2 := (World.cell?_of_block (hV2.fr.block _ hxb)).trans HX.out))
        all_goals go_wp2
        all_goals exact ⟨⟨c, a, mi, i + 1, u, bg, _, _, rfl, rfl, rfl, rfl, rfl, rfl, rfl, by push_cast; rfl, hlt, HFin.out _ hV2⟩, by show n - (i + 1) < n - i; omega⟩
      · have hM0 : manyP s (1 + p) ≤ s.size := many_le (by omega) hs0
        have hM1 : 0 < manyP s (1 + p) := by unfold manyP; exact Nat.div_pos (by omega) (by omega)
        have cS := fun w => split_calls true (a := 9) (n := c) (m := 1 + p) (s := s) (by decide) (by omega) (by omega) (by omega) hs0 (by omega) w
        have e1p : (((1 + p : Nat) : Nat) : Int) = IntKind.i64.wrap (1 + (p : Int)) := by
          rw [show IntKind.i64.wrap (1 + (p : Int)) = 1 + (p : Int) from by rw [IntKind.wrap_i64]; omega]
          push_cast; rfl
        rw [e1p] at cS
        obtain ⟨M, hM⟩ : ∃ M, manyP s (1 + p) = M := ⟨_, rfl⟩
        simp only [hM] at cS hM0 hM1
        have CS := Lib.hid cS
        have CP := Lib.hid cP
        obtain ⟨B, hBF⟩ : ∃ B, sumS F i = B := ⟨_, rfl⟩
        rw [hBF] at ha hsum
        have hB1 : B + M ≤ sumS F (i + 1) := by omega
        have hB2 : B + M ≤ 6000 := by omega
        have h12 := fun (g : Nat) (V w : World) (h : Wj W0 V (some g) jb (N, J) (R4 (9, vw, cellS L) (9, vg, cellS L) nilR nilR) w) => lo1_lo2 (p := p) (c := c) (s := s) ha hmu hN hls hM1 h
        have HS0 := Lib.hid (And.intro hM (And.intro hpb (show s.size ≤ 16000 by omega)))
        have HF := Lib.hid (And.intro hB1 (And.intro hLl hB2))
        clear cS cP e1p hx0 hsF hp hN hLl hls hsum h6i ha hmu hM hBF hpb hB1 h6 hs0 hM0
        go_wp2
        go_region_with (first
          | (go_at_call 22; refine (CP.out _).mono ?_; rintro e V1 ⟨rfl, d1⟩; have hV1 := hW.drew.below d1; have hx1 := (World.cell?_of_block (hV1.fr.block _ hxb)).trans HX.out)
          | (go_at_call 20; refine (CS.out _).mono ?_; rintro e V2 ⟨g, o, c', rfl, hg1, hg2, hLc, hcl, d2⟩; have hV2 := hV1.keep d2 hg1 hg2))
        all_goals
          have h2 := h12 _ _ _ hV2
          have HCL := Lib.hid hcl
          clear h12 hW hV1 hV2 hx1 hcl d1 d2 hx
          go_wp2
          go_loopw [9, 10, 12, 13, 14, 18, 19] (fun av mv gv bv uv hv kv wq => ∃ (a mi k u : Nat) (bg wh : Bool) (xg : Value), av = .int .i64 (a : Nat) ∧ mv = .int .i64 (mi : Nat) ∧ xg = gv ∧ bv = .bool bg ∧ uv = .int .i64 (u : Nat) ∧ hv = .bool wh ∧ kv = .int .i64 (k : Nat) ∧ Lo2 W0 V2 g jb B c p s M L vw a mi k u bg wh xg wq)
            (fun _ _ _ _ _ _ kv _ => M - iOf kv)
          case atStart => exact ⟨a, mi, 0, u, bg, true, _, rfl, rfl, rfl, rfl, rfl, rfl, rfl, h2⟩
          case round =>
            clear h2
            obtain ⟨a, mi, k, u, bg, wh, vg, rfl, rfl, rfl, rfl, rfl, rfl, rfl, h2⟩ := hrel
            have hL2 := h2
            obtain ⟨N, J, hkM, ha, hmu, hN, hls, hW⟩ := hL2
            have hB2 := HF.out.2.2
            have ha6 : a ≤ 6000 := by omega
            have hm6 : mi ≤ 6000 := by omega
            have hu6 : u ≤ 6000 := by omega
            rcases Nat.lt_or_ge k M with hlt2 | hge2
            · have hlt2' : ((k : Nat) : Int) < ((M : Nat) : Int) := by omega
              obtain ⟨hM, hpb, s16⟩ := HS0.out
              have hLL := HF.out.2.1
              rw [gotL_lt hlt2] at hW
              obtain ⟨og, cg, rfl⟩ := ownsRow_slice hW.row1
              have HLost := Lib.hid (lo2_lost h2 hlt2)
              have hFed := fun (wl : Bool) (hwl : (wh && decide (k + 1 = M)) = wl) (mm : Nat) (hmm : (if bg = true then u else 0) = mm) (mz : Int) (hmz : ((mm : Nat) : Int) = mz) w1 hw => lo2_fed h2 hlt2 hM hpb s16 (by omega) (wl := wl) hwl (mm := mm) hmm (mz := mz) hmz w1 hw
              obtain ⟨oi, hoi⟩ : ∃ q, o + k * 5 = q := ⟨_, rfl⟩
              have rr : ∀ qq v, qq < 5 → (rowP true 9 c s (1 + p) (flP M) k)[qq]? = some v → wr.cell? ⟨g, oi + qq, none⟩ = some v := fun qq v hq5 hv5 => by
                rw [show oi + qq = o + (5 * k + qq) by omega]; exact (World.cell?_of_block (hW.kp g rfl).2.1).trans (HCL.out k qq v hlt2 hq5 hv5)
              have r0 : wr.cell? ⟨g, oi, none⟩ = some (.bool true) := rr 0 _ (by decide) rfl
              have r1 : wr.cell? ⟨g, oi + 1, none⟩ = some (.int .i64 9) := rr 1 _ (by decide) rfl
              have r2 : wr.cell? ⟨g, oi + 2, none⟩ = some (.int .i64 ((flP M k : Nat) : Int)) := rr 2 _ (by decide) rfl
              have r3 : wr.cell? ⟨g, oi + 3, none⟩ = some (.int .i64 (((c + k) % 16384 : Nat) : Int)) := rr 3 _ (by decide) rfl
              have r4 : wr.cell? ⟨g, oi + 4, none⟩ = some (.string (Pkt.part s (1 + p) k)) := rr 4 _ (by decide) rfl
              obtain ⟨ff, hff⟩ : ∃ q, flP M k = q := ⟨_, rfl⟩
              obtain ⟨kk, hkk⟩ : ∃ q, (c + k) % 16384 = q := ⟨_, rfl⟩
              obtain ⟨dd, hdd⟩ : ∃ q, Pkt.part s (1 + p) k = q := ⟨_, rfl⟩
              rw [hff] at r2
              rw [hkk] at r3
              rw [hdd] at r4
              simp only [hff, hkk, hdd] at hFed
              have hmeas : M - (k + 1) < M - k := by omega
              have hcs : (∃ ad, lo = some ad ∧ a < nl ∧ wr.cell? (ad.add a) = some (.bool true)) ∨ (∃ ad, lo = some ad ∧ a < nl ∧ wr.cell? (ad.add a) = some (.bool false)) ∨ nl ≤ a := by
                rcases Nat.lt_or_ge a nl with hal | hal
                · obtain ⟨ad, t, e, hc, hb⟩ := HB.out a hal
                  have hcc := (World.cell?_of_block (hW.fr.block _ hb)).trans hc
                  cases t with
                  | true => exact .inl ⟨ad, e, hal, hcc⟩
                  | false => exact .inr (.inl ⟨ad, e, hal, hcc⟩)
                · exact .inr (.inr hal)
              have HFed := Lib.hid hFed
              have HW := Lib.hid hW
              clear rr hFed hff hkk hdd hls h2 hM hpb s16 hN hW
              rcases hcs with ⟨ad, rfl, hal, hc⟩ | h | h
              · have hle : ((a : Nat) : Int) + 1 ≤ ((nl : Nat) : Int) := by omega
                clear r0 r1 r2 r3 r4 HFed
                go_wp2
                exact ⟨⟨a + 1, mi, k + 1, u + 1, bg, false, _, by push_cast; rfl, rfl, rfl, rfl, by push_cast; rfl, rfl, by push_cast; rfl, HLost.out⟩, hmeas⟩
              all_goals
                first
                  | (obtain ⟨ad, rfl, hal, hc⟩ := h; have hle : ((a : Nat) : Int) + 1 ≤ ((nl : Nat) : Int) := by omega)
                  | have hle : ¬ ((a : Nat) : Int) + 1 ≤ ((nl : Nat) : Int) := by omega
                obtain ⟨iS, iS1, iS2, iS3, iS4⟩ := infoS
                obtain ⟨wl, hwl⟩ : ∃ wl, (wh && decide (k + 1 = M)) = wl := ⟨_, rfl⟩
                have hFed := HFed.out wl hwl
                clear HFed hwl HLost
                have hne : (((u : Nat) : Int) != ((u : Nat) : Int)) = false := by simp
                cases bg with
                | true =>
                  have cF := hFed u rfl _ rfl wr (Below.refl _ _)
                  clear hFed
                  cases wl with
                  | false =>
                    go_wp2_with (go_at_call 16; refine cF.mono ?_; clear cF; rintro e W6 ⟨t, br, x2, rfl, ht, hW6, HE⟩; have hW7 := hW6.alloc (.cells #[.bool false, .string t, .int .i64 ((u : Nat) : Int), .bool br] 40); have HE2 := Lib.hid (HE _ _ hW7); clear HE hW6 hW7)
                    exact ⟨⟨a + 1, mi + u, k + 1, 0, true, wh, _, by push_cast; rfl, by push_cast; rfl, rfl, rfl, rfl, rfl, by push_cast; rfl, HE2.out⟩, hmeas⟩
                  | true =>
                    go_wp2_with (first
                      | (go_at_call 16; refine cF.mono ?_; clear cF; rintro e W6 ⟨t, br, x2, rfl, ht, hW6, HE⟩; obtain rfl := ht rfl; have hcl1 := cell_one (W6.alloc (.cells #[.bool true, .string s, .int .i64 ((u : Nat) : Int), .bool br] 40)) 9 (.string s); rw [alloc_size] at hcl1; have hW8 := (hW6.alloc (.cells #[.bool true, .string s, .int .i64 ((u : Nat) : Int), .bool br] 40)).alloc (.cells #[.string s] 9); have hbase := hW8.lo; have HE2 := Lib.hid HE; clear HE hW6)
                      | (at_builtin; refine wpList_append_at rfl _ _ 50 rfl W0.heap.size 9 iS (.string ⟨#[]⟩) 1 16 Try.underlying50 iS1 iS2 iS3 iS4 rfl (by decide) _ L.length (cellS L) rfl hW8.row1 ⟨W6.heap.size + 1, 0, none⟩ 1 1 [.string s] rfl rfl hcl1 (by intro u hu; exact one_mem hu rfl) (by decide) ?_ (by omega) hbase ?_))
                    · unfold maxLen; omega
                    intro v5 V5 hr5 hg5 hw5
                    have hV5 := hW8.push1 hr5 hg5 (by simpa only [alloc_size] using hw5)
                    have HE3 := Lib.hid (HE2.out _ _ hV5)
                    clear hr5 hg5 hw5 hV5 hW8 HE2 hbase
                    go_wp2
                    exact ⟨⟨a + 1, mi + u, k + 1, 0, true, wh, _, by push_cast; rfl, by push_cast; rfl, rfl, rfl, rfl, rfl, by push_cast; rfl, HE3.out⟩, hmeas⟩
                | false =>
                  have cF := hFed 0 rfl 0 rfl wr (Below.refl _ _)
                  clear hFed
                  cases wl with
                  | false =>
                    go_wp2_with (go_at_call 16; refine cF.mono ?_; clear cF; rintro e W6 ⟨t, br, x2, rfl, ht, hW6, HE⟩; have hW7 := hW6.alloc (.cells #[.bool false, .string t, .int .i64 0, .bool br] 40); have HE2 := Lib.hid (HE _ _ hW7); clear HE hW6 hW7)
                    exact ⟨⟨a + 1, mi, k + 1, 0, true, wh, _, by push_cast; rfl, rfl, rfl, rfl, rfl, rfl, by push_cast; rfl, HE2.out⟩, hmeas⟩
                  | true =>
                    go_wp2_with (first
                      | (go_at_call 16; refine cF.mono ?_; clear cF; rintro e W6 ⟨t, br, x2, rfl, ht, hW6, HE⟩; obtain rfl := ht rfl; have hcl1 := cell_one (W6.alloc (.cells #[.bool true, .string s, .int .i64 0, .bool br] 40)) 9 (.string s); rw [alloc_size] at hcl1; have hW8 := (hW6.alloc (.cells #[.bool true, .string s, .int .i64 0, .bool br] 40)).alloc (.cells #[.string s] 9); have hbase := hW8.lo; have HE2 := Lib.hid HE; clear HE hW6)
                      | (at_builtin; refine wpList_append_at rfl _ _ 50 rfl W0.heap.size 9 iS (.string ⟨#[]⟩) 1 16 Try.underlying50 iS1 iS2 iS3 iS4 rfl (by decide) _ L.length (cellS L) rfl hW8.row1 ⟨W6.heap.size + 1, 0, none⟩ 1 1 [.string s] rfl rfl hcl1 (by intro u hu; exact one_mem hu rfl) (by decide) ?_ (by omega) hbase ?_))
                    · unfold maxLen; omega
                    intro v5 V5 hr5 hg5 hw5
                    have hV5 := hW8.push1 hr5 hg5 (by simpa only [alloc_size] using hw5)
                    have HE3 := Lib.hid (HE2.out _ _ hV5)
                    clear hr5 hg5 hw5 hV5 hW8 HE2 hbase
                    go_wp2
                    exact ⟨⟨a + 1, mi, k + 1, 0, true, wh, _, by push_cast; rfl, rfl, rfl, rfl, rfl, rfl, by push_cast; rfl, HE3.out⟩, hmeas⟩
            · have hk : k = M := by omega
              subst hk
              have hmeas : n - (i + 1) < n - i := by omega
              cases wh with
              | false =>
                have HE := Lib.hid (lo2_false (F := F) h2 HF.out.1 HF.out.2.1)
                clear hls h2 hW
                go_wp2
                exact ⟨⟨(c + k) % 16384, a, mi, i + 1, u, bg, _, _, by push_cast; rfl, rfl, rfl, rfl, rfl, rfl, rfl, by push_cast; rfl, hlt, HE.out⟩, hmeas⟩
              | true =>
                obtain ⟨x2, hW2, hE⟩ := lo2_true (F := F) h2 HF.out.1 HF.out.2.1
                have HE := Lib.hid hE
                obtain ⟨ow, cw, rfl⟩ := ownsRow_slice hW2.row0
                have hx := (World.cell?_of_block (hW2.fr.block _ hxb)).trans HX.out
                have hLL := HF.out.2.1
                have hW8 := hW2.alloc (.cells #[.string s] 9)
                have hbase := hW8.lo
                obtain ⟨iS, iS1, iS2, iS3, iS4⟩ := infoS
                clear hls h2 hW hW2 hE
                go_wp2_with (at_builtin; refine wpList_append_at rfl _ _ 50 rfl W0.heap.size 9 iS (.string ⟨#[]⟩) 1 16 Try.underlying50 iS1 iS2 iS3 iS4 rfl (by decide) _ L.length (cellS L) rfl hW8.row0 ⟨wr.heap.size, 0, none⟩ 1 1 [.string s] rfl rfl (cell_one wr 9 _) (by intro u hu; exact one_mem hu rfl) (by decide) ?_ (by omega) hbase ?_)
                · unfold maxLen; omega
                intro v5 V5 hr5 hg5 hw5
                have hV5 := hW8.push0 hr5 hg5 (by rw [alloc_size]; exact hw5)
                have HE2 := Lib.hid (HE.out _ _ hV5)
                clear hr5 hg5 hw5 hV5 hW8 HE
                go_wp2
                exact ⟨⟨(c + k) % 16384, a, mi, i + 1, u, bg, _, _, by push_cast; rfl, rfl, rfl, rfl, rfl, rfl, rfl, by push_cast; rfl, hlt, HE2.out⟩, hmeas⟩
    · have hge' : ¬ ((i : Nat) : Int) < ((n : Nat) : Int) := by omega
      obtain ⟨N, J, L, hc, ha, hmu, hN, hLl, hls, hW⟩ := hLo
      obtain ⟨ow, cw, rfl⟩ := ownsRow_slice hW.row0
      obtain ⟨og, cg, rfl⟩ := ownsRow_slice hW.row1
      have hma : ((mi : Nat) : Int) ≤ ((a : Nat) : Int) := by omega
      have cS := same_calls (ownsRow_up hW.row1 (Nat.zero_le _)) (ownsRow_up hW.row0 (Nat.zero_le _)) (by omega)
      go_wp2_with (go_at_call 23; refine cS.mono ?_; clear cS; rintro e V20 ⟨rfl, d20⟩; have hV20 := hW.below d20)
      go_ret
      exact ⟨rfl, hV20.fr⟩
end Go.Am.Joi
