/-
  Cltu: CltuUnits, walked. Own work.
-/
import Derived.Test.YtoeepogoogcbiaaDoorCltBC
namespace Go.Am.Clt
open Go Go.Am Go.Am.Lib Go.Lib Go.Proofs Go.RowKit
set_option maxRecDepth 100000

set_option maxHeartbeats 3200000 in
theorem units_walk {W0 : World} (hG : GOk G0 W0) (ao : Option Addr) (n cap : Nat) (F : Nat → ByteArray) (fo : Option Addr) (nf fcap : Nat) (zs : List Int)
    (hcs : ∀ i, i < n → ∃ a, ao = some a ∧ W0.cell? (a.add i) = some (.string (F i)) ∧ (a.add i).block < W0.heap.size)
    (hfs : ∀ i, i < nf → ∃ a, fo = some a ∧ W0.cell? (a.add i) = some (.int .i64 (zs.getD i 0)) ∧ (a.add i).block < W0.heap.size) :
    Calls Tryd.prog 6 #[.slice ao n cap, .slice fo nf fcap] W0 fun e w' => e = .returned (.bool true) ∧ Below W0.heap.size W0 w' := by
  have cS := shown_from hG (w := W0) (fun _ _ => rfl) (Nat.le_refl _)
  by_cases hbig : 20 < n
  · have hd : 20 < ((n : Nat) : Int) := by omega
    go_enter Tryd.func6, Tryd.ntmps6
    go_wp2_with (go_at_call 9; refine (cS _ (Below.refl _ _)).mono ?_)
    first | rintro e W1 rfl g1 | rintro e W1 ⟨rfl, g1⟩
    go_wp2
    go_ret
    exact ⟨rfl, g1⟩
  have hd : ¬ 20 < ((n : Nat) : Int) := by omega
  go_enter Tryd.func6, Tryd.ntmps6
  go_wp2_with (go_at_call 9; refine (cS _ (Below.refl _ _)).mono ?_)
  first | rintro e W1 rfl g1 | rintro e W1 ⟨rfl, g1⟩
  go_wp2_with (go_at_call 18; refine (new_at W1).mono ?_)
  rintro e W2 ⟨b, rfl, z1, g2, z2, c1⟩
  have hUn : Un W0 b ps0 W2 := un_new g1 z1.out g2 c1
  clear z1 z2 g2 c1 g1
  go_wp2
  go_loopw [6, 7] (fun tv iv wr => ∃ (at' i : Nat) (p : PS), tv = .int .i64 (at' : Nat) ∧ iv = .int .i64 (i : Nat) ∧ i ≤ n ∧ at' ≤ 60 * i ∧ Quiet p ∧ Un W0 b p wr)
    (fun _ iv _ => n - iOf iv)
  case atStart => exact ⟨0, 0, ps0, rfl, rfl, Nat.zero_le _, Nat.zero_le _, quiet0, hUn⟩
  case round =>
    obtain ⟨at', i, p, rfl, rfl, hi, hat, hq, hUn⟩ := hrel
    rcases Nat.lt_or_ge i n with hlt | hge
    · have hlt' : ((i : Nat) : Int) < ((n : Nat) : Int) := by omega
      obtain ⟨a, rfl, ha1, ha2⟩ := hcs i hlt
      have hca : wr.cell? (a.add i) = some (.string (F i)) := (World.cell?_of_block (hUn.fr.block _ ha2)).trans ha1
      obtain ⟨f, hf⟩ : ∃ f, F i = f := ⟨_, rfl⟩
      rw [hf] at hca ha1
      rcases Nat.eq_zero_or_pos f.size with h0 | h0
      · have he : f.toList.isEmpty = true := by
          rw [Lib.toList_data]
          have := size_list f
          rw [h0] at this
          rw [List.eq_nil_of_length_eq_zero this]; rfl
        go_wp2_with (go_at_call 14; refine (put_none f wr h0).mono ?_)
        first | rintro e W3 rfl b3 | rintro e W3 ⟨rfl, b3⟩
        have hUn := hUn.below b3
        have hca : W3.cell? (a.add i) = some (.string f) := (World.cell?_of_block (hUn.fr.block _ ha2)).trans ha1
        go_wp2
        exact ⟨⟨at', i + 1, p, rfl, by push_cast; rfl, hlt, by omega, hq, hUn⟩, by show n - (i + 1) < n - i; omega⟩
      · have he := empty_f h0
        by_cases h350 : 350 < f.size
        · have hd' : 350 < ((f.size : Nat) : Int) := by omega
          have hd2 : ¬ ((f.size : Nat) : Int) ≤ 350 := by omega
          go_wp2_with (go_at_call 14; refine (put_long f wr h350).mono ?_)
          first | rintro e W3 rfl b3 | rintro e W3 ⟨rfl, b3⟩
          have hUn := hUn.below b3
          have hca : W3.cell? (a.add i) = some (.string f) := (World.cell?_of_block (hUn.fr.block _ ha2)).trans ha1
          go_wp2
          exact ⟨⟨at', i + 1, p, rfl, by push_cast; rfl, hlt, by omega, hq, hUn⟩, by show n - (i + 1) < n - i; omega⟩
        · obtain ⟨m, hU⟩ := unit_of h0 (by omega)
          have cP := put_walk hG f wr (fun k hk => hUn.fr.block k hk) hUn.fr.size h0 (by omega)
          obtain ⟨U, hUU⟩ : ∃ U : ByteArray, ⟨(putL f).toArray⟩ = U := ⟨_, rfl⟩
          obtain ⟨P, hPP⟩ : ∃ P, padS f = P := ⟨_, rfl⟩
          rw [hUU] at hU cP
          rw [hPP] at hU
          obtain ⟨um, um50, uP, uU, ust, ubl, utl⟩ := hU
          have hu1 : ¬ ((U.size : Nat) : Int) < 18 := by omega
          have hub : ((U.size : Nat) : Int) ≤ 500 := by omega
          have hu2 : (((U.size : Nat) : Int) % 8 != 2) = false := by
            have : ((U.size : Nat) : Int) % 8 = 2 := by omega
            rw [this]; rfl
          have s1 := cut_h (t := U) (u := startB) (k := 2) ust (by omega)
          have s1' : ∀ wx : World, (Instr.slice 9 (.string U) none (some (.int .i64 2)) none).run Tryd.prog wx = .ok (.string startB) wx := s1
          have hst : startB.size = 2 := rfl
          have UU : Hid (U.size = 8 * m + 10) := uU
          clear s1 uU ust he
          go_wp2_with (go_at_call 14; refine cP.mono ?_)
          first | rintro e W3 rfl b3 | rintro e W3 ⟨rfl, b3⟩
          have hUn := hUn.below b3
          clear b3 hca cP
          rcases Nat.lt_or_ge at' nf with hatn | hatn
          · have hatn' : ((at' : Nat) : Int) < ((nf : Nat) : Int) := by omega
            obtain ⟨a2, rfl, hb1, hb2⟩ := hfs at' hatn
            have hcb : W3.cell? (a2.add at') = some (.int .i64 (zs.getD at' 0)) := (World.cell?_of_block (hUn.fr.block _ hb2)).trans hb1
            obtain ⟨z, hz⟩ : ∃ z, zs.getD at' 0 = z := ⟨_, rfl⟩
            rw [hz] at hcb
            have cF := flip_at' hG hUn.fr startB z (by decide) (by decide)
            by_cases h3 : z.tmod 3 = 0
            · have h3b : (z.tmod 3 != 0) = false := by rw [h3]; rfl
              obtain ⟨B, hB, NB⟩ : ∃ B, startB = B ∧ Hid (Near B startB) := ⟨_, rfl, Or.inl rfl⟩
              clear cF
              rw [hB] at s1' hst
              go_wp2
              go_loopw [6, 10, 11] (fun tv bv kv wr2 => ∃ (at2 j k : Nat) (D : ByteArray), tv = .int .i64 (at2 : Nat) ∧ bv = .string D ∧ kv = .int .i64 (k : Nat) ∧ Hid (k = 8 * j + 2) ∧ j ≤ m ∧ at2 ≤ at' + 1 + j ∧ Hid (D.size = 8 * j + 2) ∧ MidSt P j (feedP p D.data.toList) ∧ Un W0 b p wr2)
                (fun _ _ kv _ => U.size - iOf kv)
              case atStart => exact ⟨at' + 1, 0, 2, B, by push_cast; rfl, rfl, rfl, rfl, Nat.zero_le _, by omega, hst, mid_0 (feed_start hq NB.out), hUn⟩
              case round =>
                obtain ⟨at2, j, k, D, rfl, rfl, rfl, hk, hj, hat2, hD, hmid, hUn⟩ := hrel
                rcases Nat.lt_or_ge j m with hjm | hjm
                · have hk1 := hk.out
                  have hu := UU.out
                  have hD1 := hD.out
                  have hkb : ((k : Nat) : Int) ≤ 500 := by omega
                  have hle : ((k : Nat) : Int) + 16 ≤ ((U.size : Nat) : Int) := by omega
                  obtain ⟨q, hqq⟩ : ∃ q, blkS (P.extract (7 * j) (7 * j + 7)) = q := ⟨_, rfl⟩
                  have hq8 : q.size = 8 := by rw [← hqq]; exact blkS_size (by rw [ByteArray.size_extract]; omega)
                  have s2 := cut_8 (U := U) (q := q) (k := k) (by rw [hk1, ← hqq]; exact ubl j hjm) (by omega)
                  have hadd : ∀ C, Near C q → Hid (MidSt P (j + 1) (feedP p (D ++ C).data.toList)) := fun C hC => mid_add hmid (by omega) (by omega) (by rw [hqq]; exact hC)
                  clear hk1 hu hqq
                  rcases Nat.lt_or_ge at2 nf with hatn2 | hatn2
                  · have hatn2' : ((at2 : Nat) : Int) < ((nf : Nat) : Int) := by omega
                    obtain ⟨a3, ha3, hb3, hb4⟩ := hfs at2 hatn2
                    first | cases ha3 | subst ha3
                    have hcb3 := (World.cell?_of_block (hUn.fr.block _ hb4)).trans hb3
                    obtain ⟨z2, hz2⟩ : ∃ z2, zs.getD at2 0 = z2 := ⟨_, rfl⟩
                    rw [hz2] at hcb3
                    by_cases h4 : z2.tmod 3 = 0
                    · have h4b : (z2.tmod 3 != 0) = false := by rw [h4]; rfl
                      have hM := hadd q (Or.inl rfl)
                      obtain ⟨D2, hD2⟩ : ∃ D2, D ++ q = D2 := ⟨_, rfl⟩
                      rw [hD2] at hM
                      have hD2s : D2.size = D.size + 8 := by rw [← hD2, ByteArray.size_append, hq8]
                      have hsv : ¬ 9223372036854775807 < D.size + q.size := by omega
                      have hS2 : Hid (D2.size = 8 * (j + 1) + 2) := by show D2.size = _; omega
                      clear hadd hD2s hD1
                      go_wp2
                      exact ⟨⟨at2 + 1, j + 1, k + 8, D2, by push_cast; rfl, rfl, by push_cast; rfl, by show k + 8 = 8 * (j + 1) + 2; have := hk.out; omega, hjm, by omega, hS2, hM.out, hUn⟩, by show U.size - (k + 8) < U.size - k; omega⟩
                    · have h4b : (z2.tmod 3 != 0) = true := bne_iff_ne.2 h4
                      have cF2 := flip_at' hG hUn.fr q z2 (by omega) (by omega)
                      have hC := near_flip q (by omega) z2
                      obtain ⟨C, hCC⟩ : ∃ C, flipN q z2 = C := ⟨_, rfl⟩
                      rw [hCC] at hC cF2
                      have hC8 : C.size = 8 := by rw [hC.size]; exact hq8
                      have hM := hadd C hC
                      obtain ⟨D2, hD2⟩ : ∃ D2, D ++ C = D2 := ⟨_, rfl⟩
                      rw [hD2] at hM
                      have hD2s : D2.size = D.size + 8 := by rw [← hD2, ByteArray.size_append, hC8]
                      have hsv : ¬ 9223372036854775807 < D.size + C.size := by omega
                      have hS2 : Hid (D2.size = 8 * (j + 1) + 2) := by show D2.size = _; omega
                      clear hadd hC hD2s hD1 hCC
                      go_wp2_with (go_at_call 17; refine cF2.mono ?_)
                      first | rintro e W6 rfl b6 | rintro e W6 ⟨rfl, b6⟩
                      have hUn := hUn.below b6
                      clear b6 cF2 hcb3
                      go_wp2
                      exact ⟨⟨at2 + 1, j + 1, k + 8, D2, by push_cast; rfl, rfl, by push_cast; rfl, by show k + 8 = 8 * (j + 1) + 2; have := hk.out; omega, hjm, by omega, hS2, hM.out, hUn⟩, by show U.size - (k + 8) < U.size - k; omega⟩
                  · have hatn2' : ¬ ((at2 : Nat) : Int) < ((nf : Nat) : Int) := by omega
                    have hM := hadd q (Or.inl rfl)
                    obtain ⟨D2, hD2⟩ : ∃ D2, D ++ q = D2 := ⟨_, rfl⟩
                    rw [hD2] at hM
                    have hD2s : D2.size = D.size + 8 := by rw [← hD2, ByteArray.size_append, hq8]
                    have hsv : ¬ 9223372036854775807 < D.size + q.size := by omega
                    have hS2 : Hid (D2.size = 8 * (j + 1) + 2) := by show D2.size = _; omega
                    clear hadd hD2s hD1
                    go_wp2
                    exact ⟨⟨at2 + 1, j + 1, k + 8, D2, by push_cast; rfl, rfl, by push_cast; rfl, by show k + 8 = 8 * (j + 1) + 2; have := hk.out; omega, hjm, by omega, hS2, hM.out, hUn⟩, by show U.size - (k + 8) < U.size - k; omega⟩
                · have hk1 := hk.out
                  have hu := UU.out
                  have hD1 := hD.out
                  have hjm' : j = m := by omega
                  subst hjm'
                  have hkb : ((k : Nat) : Int) ≤ 500 := by omega
                  have hle : ¬ ((k : Nat) : Int) + 16 ≤ ((U.size : Nat) : Int) := by omega
                  have s3 := cut_end (U := U) (q := tailB) (k := 8 * j + 2) utl (by omega)
                  obtain ⟨T, hT⟩ : ∃ T, D ++ tailB = T := ⟨_, rfl⟩
                  have htl : tailB.size = 8 := rfl
                  have hTs : T.size < 2 ^ 30 := by rw [← hT, ByteArray.size_append]; omega
                  have hsv : ¬ 9223372036854775807 < D.size + tailB.size := by omega
                  have hsv2 : ¬ 9223372036854775807 < D.size + 8 := by omega
                  have hF := un_feed hG hUn (ok_quiet hq) T hTs
                  obtain ⟨f1, f2, f3⟩ := tail_add hmid um uP
                  rw [hT] at f1 f2 f3
                  rw [f1] at hF
                  have hQ : Hid (Quiet (clr (feedP p T.data.toList))) := f3
                  obtain ⟨p3, hp3⟩ : ∃ p3, clr (feedP p T.data.toList) = p3 := ⟨_, rfl⟩
                  have hbg3 : p3.begun = false := by rw [← hp3]; exact f2
                  rw [hp3] at hF hQ
                  have hPs : Hid (padS f = P) := hPP
                  clear f1 f2 f3 hk1 hu hD1 hmid hp3 hTs
                  go_wp2_with (go_at_call 19; refine hF.mono ?_)
                  first | rintro e W5 v rfl hv hUn | rintro e W5 ⟨v, rfl, hv, hUn⟩
                  have hv' : W5.ownsRow 0 9 1 v 1 [.string P] := hv
                  obtain ⟨ao5, cap5, hv5⟩ := ownsRow_slice hv'
                  subst hv5
                  obtain ⟨hcap, g5, rfl⟩ := ownsRow_base hv' (by omega)
                  have hc5 : W5.cell? ⟨g5, 0, none⟩ = some (.string P) := hv'.cells (g := g5) rfl 0 _ rfl
                  have hca : W5.cell? (a.add i) = some (.string f) := (World.cell?_of_block (hUn.fr.block _ ha2)).trans ha1
                  have hlk : Lk b false W5 := by rw [← hbg3]; exact hUn.lk
                  clear hv hv' hF s3
                  go_wp2
                  go_loopw [14] (fun tv wr3 => ∃ (t : ByteArray) (n' : Nat), tv = .string t ∧ W5 = wr3 ∧ t.size + n' ≤ 357 ∧ (t.size + n') % 7 = 0 ∧ n' < 7 ∧ Hid (t ++ rep n' = P))
                    (fun tv _ => 400 - strLen tv)
                  case atStart => exact ⟨f, padN f.size, rfl, rfl, by unfold padN; omega, by unfold padN; omega, by unfold padN; omega, hPs⟩
                  case round =>
                    obtain ⟨t, n', rfl, rfl, h1, h2, h3', hp⟩ := hrel
                    cases n' with
                    | zero =>
                      have hp := hp.out
                      rw [rep_zero] at hp
                      subst hp
                      have hz7 : (((t.size : Nat) : Int) % 7 != 0) = false := by
                        have : ((t.size : Nat) : Int) % 7 = 0 := by omega
                        rw [this]; rfl
                      go_wp2_with (go_at_call 20; refine hlk.calls.mono ?_)
                      rintro e W6 ⟨rfl, rfl⟩
                      go_wp2
                      exact ⟨⟨at2, i + 1, p3, rfl, by push_cast; rfl, hlt, by omega, hQ.out, hUn⟩, by show n - (i + 1) < n - i; omega⟩
                    | succ n' =>
                      have hz7 : (((t.size : Nat) : Int) % 7 != 0) = true := by
                        have : ¬ ((t.size : Nat) : Int) % 7 = 0 := by omega
                        simpa using this
                      have hsv3 : ¬ 9223372036854775807 < t.size + 1 := by omega
                      have hsu3 : ¬ 9223372036854775807 < t.size + (⟨#[85]⟩ : ByteArray).size := by show ¬ 9223372036854775807 < t.size + 1; omega
                      have ht : (t ++ (⟨#[85]⟩ : ByteArray)).size = t.size + 1 := by rw [ByteArray.size_append]; rfl
                      have hp := hp.out
                      rw [← rep_succ] at hp
                      have hp' : Hid ((t ++ ⟨#[85]⟩) ++ rep n' = P) := hp
                      clear hp
                      go_wp2
                      exact ⟨⟨t ++ ⟨#[85]⟩, n', rfl, trivial, by omega, by rw [ht]; omega, by omega, hp'⟩, by show 400 - (t ++ (⟨#[85]⟩ : ByteArray)).size < 400 - t.size; omega⟩
            · have h3b : (z.tmod 3 != 0) = true := bne_iff_ne.2 h3
              have NB : Hid (Near (flipN startB z) startB) := near_flip startB (by decide) z
              obtain ⟨B, hB⟩ : ∃ B, flipN startB z = B := ⟨_, rfl⟩
              rw [hB] at NB cF
              have hst2 : B.size = 2 := by rw [NB.out.size]; rfl
              go_wp2_with (go_at_call 17; refine cF.mono ?_)
              first | rintro e W4 rfl b4 | rintro e W4 ⟨rfl, b4⟩
              have hUn := hUn.below b4
              clear b4 cF hcb hst hB
              have hst : B.size = 2 := hst2
              clear hst2
              go_wp2
              go_loopw [6, 10, 11] (fun tv bv kv wr2 => ∃ (at2 j k : Nat) (D : ByteArray), tv = .int .i64 (at2 : Nat) ∧ bv = .string D ∧ kv = .int .i64 (k : Nat) ∧ Hid (k = 8 * j + 2) ∧ j ≤ m ∧ at2 ≤ at' + 1 + j ∧ Hid (D.size = 8 * j + 2) ∧ MidSt P j (feedP p D.data.toList) ∧ Un W0 b p wr2)
                (fun _ _ kv _ => U.size - iOf kv)
              case atStart => exact ⟨at' + 1, 0, 2, B, by push_cast; rfl, rfl, rfl, rfl, Nat.zero_le _, by omega, hst, mid_0 (feed_start hq NB.out), hUn⟩
              case round =>
                obtain ⟨at2, j, k, D, rfl, rfl, rfl, hk, hj, hat2, hD, hmid, hUn⟩ := hrel
                rcases Nat.lt_or_ge j m with hjm | hjm
                · have hk1 := hk.out
                  have hu := UU.out
                  have hD1 := hD.out
                  have hkb : ((k : Nat) : Int) ≤ 500 := by omega
                  have hle : ((k : Nat) : Int) + 16 ≤ ((U.size : Nat) : Int) := by omega
                  obtain ⟨q, hqq⟩ : ∃ q, blkS (P.extract (7 * j) (7 * j + 7)) = q := ⟨_, rfl⟩
                  have hq8 : q.size = 8 := by rw [← hqq]; exact blkS_size (by rw [ByteArray.size_extract]; omega)
                  have s2 := cut_8 (U := U) (q := q) (k := k) (by rw [hk1, ← hqq]; exact ubl j hjm) (by omega)
                  have hadd : ∀ C, Near C q → Hid (MidSt P (j + 1) (feedP p (D ++ C).data.toList)) := fun C hC => mid_add hmid (by omega) (by omega) (by rw [hqq]; exact hC)
                  clear hk1 hu hqq
                  rcases Nat.lt_or_ge at2 nf with hatn2 | hatn2
                  · have hatn2' : ((at2 : Nat) : Int) < ((nf : Nat) : Int) := by omega
                    obtain ⟨a3, ha3, hb3, hb4⟩ := hfs at2 hatn2
                    first | cases ha3 | subst ha3
                    have hcb3 := (World.cell?_of_block (hUn.fr.block _ hb4)).trans hb3
                    obtain ⟨z2, hz2⟩ : ∃ z2, zs.getD at2 0 = z2 := ⟨_, rfl⟩
                    rw [hz2] at hcb3
                    by_cases h4 : z2.tmod 3 = 0
                    · have h4b : (z2.tmod 3 != 0) = false := by rw [h4]; rfl
                      have hM := hadd q (Or.inl rfl)
                      obtain ⟨D2, hD2⟩ : ∃ D2, D ++ q = D2 := ⟨_, rfl⟩
                      rw [hD2] at hM
                      have hD2s : D2.size = D.size + 8 := by rw [← hD2, ByteArray.size_append, hq8]
                      have hsv : ¬ 9223372036854775807 < D.size + q.size := by omega
                      have hS2 : Hid (D2.size = 8 * (j + 1) + 2) := by show D2.size = _; omega
                      clear hadd hD2s hD1
                      go_wp2
                      exact ⟨⟨at2 + 1, j + 1, k + 8, D2, by push_cast; rfl, rfl, by push_cast; rfl, by show k + 8 = 8 * (j + 1) + 2; have := hk.out; omega, hjm, by omega, hS2, hM.out, hUn⟩, by show U.size - (k + 8) < U.size - k; omega⟩
                    · have h4b : (z2.tmod 3 != 0) = true := bne_iff_ne.2 h4
                      have cF2 := flip_at' hG hUn.fr q z2 (by omega) (by omega)
                      have hC := near_flip q (by omega) z2
                      obtain ⟨C, hCC⟩ : ∃ C, flipN q z2 = C := ⟨_, rfl⟩
                      rw [hCC] at hC cF2
                      have hC8 : C.size = 8 := by rw [hC.size]; exact hq8
                      have hM := hadd C hC
                      obtain ⟨D2, hD2⟩ : ∃ D2, D ++ C = D2 := ⟨_, rfl⟩
                      rw [hD2] at hM
                      have hD2s : D2.size = D.size + 8 := by rw [← hD2, ByteArray.size_append, hC8]
                      have hsv : ¬ 9223372036854775807 < D.size + C.size := by omega
                      have hS2 : Hid (D2.size = 8 * (j + 1) + 2) := by show D2.size = _; omega
                      clear hadd hC hD2s hD1 hCC
                      go_wp2_with (go_at_call 17; refine cF2.mono ?_)
                      first | rintro e W6 rfl b6 | rintro e W6 ⟨rfl, b6⟩
                      have hUn := hUn.below b6
                      clear b6 cF2 hcb3
                      go_wp2
                      exact ⟨⟨at2 + 1, j + 1, k + 8, D2, by push_cast; rfl, rfl, by push_cast; rfl, by show k + 8 = 8 * (j + 1) + 2; have := hk.out; omega, hjm, by omega, hS2, hM.out, hUn⟩, by show U.size - (k + 8) < U.size - k; omega⟩
                  · have hatn2' : ¬ ((at2 : Nat) : Int) < ((nf : Nat) : Int) := by omega
                    have hM := hadd q (Or.inl rfl)
                    obtain ⟨D2, hD2⟩ : ∃ D2, D ++ q = D2 := ⟨_, rfl⟩
                    rw [hD2] at hM
                    have hD2s : D2.size = D.size + 8 := by rw [← hD2, ByteArray.size_append, hq8]
                    have hsv : ¬ 9223372036854775807 < D.size + q.size := by omega
                    have hS2 : Hid (D2.size = 8 * (j + 1) + 2) := by show D2.size = _; omega
                    clear hadd hD2s hD1
                    go_wp2
                    exact ⟨⟨at2 + 1, j + 1, k + 8, D2, by push_cast; rfl, rfl, by push_cast; rfl, by show k + 8 = 8 * (j + 1) + 2; have := hk.out; omega, hjm, by omega, hS2, hM.out, hUn⟩, by show U.size - (k + 8) < U.size - k; omega⟩
                · have hk1 := hk.out
                  have hu := UU.out
                  have hD1 := hD.out
                  have hjm' : j = m := by omega
                  subst hjm'
                  have hkb : ((k : Nat) : Int) ≤ 500 := by omega
                  have hle : ¬ ((k : Nat) : Int) + 16 ≤ ((U.size : Nat) : Int) := by omega
                  have s3 := cut_end (U := U) (q := tailB) (k := 8 * j + 2) utl (by omega)
                  obtain ⟨T, hT⟩ : ∃ T, D ++ tailB = T := ⟨_, rfl⟩
                  have htl : tailB.size = 8 := rfl
                  have hTs : T.size < 2 ^ 30 := by rw [← hT, ByteArray.size_append]; omega
                  have hsv : ¬ 9223372036854775807 < D.size + tailB.size := by omega
                  have hsv2 : ¬ 9223372036854775807 < D.size + 8 := by omega
                  have hF := un_feed hG hUn (ok_quiet hq) T hTs
                  obtain ⟨f1, f2, f3⟩ := tail_add hmid um uP
                  rw [hT] at f1 f2 f3
                  rw [f1] at hF
                  have hQ : Hid (Quiet (clr (feedP p T.data.toList))) := f3
                  obtain ⟨p3, hp3⟩ : ∃ p3, clr (feedP p T.data.toList) = p3 := ⟨_, rfl⟩
                  have hbg3 : p3.begun = false := by rw [← hp3]; exact f2
                  rw [hp3] at hF hQ
                  have hPs : Hid (padS f = P) := hPP
                  clear f1 f2 f3 hk1 hu hD1 hmid hp3 hTs
                  go_wp2_with (go_at_call 19; refine hF.mono ?_)
                  first | rintro e W5 v rfl hv hUn | rintro e W5 ⟨v, rfl, hv, hUn⟩
                  have hv' : W5.ownsRow 0 9 1 v 1 [.string P] := hv
                  obtain ⟨ao5, cap5, hv5⟩ := ownsRow_slice hv'
                  subst hv5
                  obtain ⟨hcap, g5, rfl⟩ := ownsRow_base hv' (by omega)
                  have hc5 : W5.cell? ⟨g5, 0, none⟩ = some (.string P) := hv'.cells (g := g5) rfl 0 _ rfl
                  have hca : W5.cell? (a.add i) = some (.string f) := (World.cell?_of_block (hUn.fr.block _ ha2)).trans ha1
                  have hlk : Lk b false W5 := by rw [← hbg3]; exact hUn.lk
                  clear hv hv' hF s3
                  go_wp2
                  go_loopw [14] (fun tv wr3 => ∃ (t : ByteArray) (n' : Nat), tv = .string t ∧ W5 = wr3 ∧ t.size + n' ≤ 357 ∧ (t.size + n') % 7 = 0 ∧ n' < 7 ∧ Hid (t ++ rep n' = P))
                    (fun tv _ => 400 - strLen tv)
                  case atStart => exact ⟨f, padN f.size, rfl, rfl, by unfold padN; omega, by unfold padN; omega, by unfold padN; omega, hPs⟩
                  case round =>
                    obtain ⟨t, n', rfl, rfl, h1, h2, h3', hp⟩ := hrel
                    cases n' with
                    | zero =>
                      have hp := hp.out
                      rw [rep_zero] at hp
                      subst hp
                      have hz7 : (((t.size : Nat) : Int) % 7 != 0) = false := by
                        have : ((t.size : Nat) : Int) % 7 = 0 := by omega
                        rw [this]; rfl
                      go_wp2_with (go_at_call 20; refine hlk.calls.mono ?_)
                      rintro e W6 ⟨rfl, rfl⟩
                      go_wp2
                      exact ⟨⟨at2, i + 1, p3, rfl, by push_cast; rfl, hlt, by omega, hQ.out, hUn⟩, by show n - (i + 1) < n - i; omega⟩
                    | succ n' =>
                      have hz7 : (((t.size : Nat) : Int) % 7 != 0) = true := by
                        have : ¬ ((t.size : Nat) : Int) % 7 = 0 := by omega
                        simpa using this
                      have hsv3 : ¬ 9223372036854775807 < t.size + 1 := by omega
                      have hsu3 : ¬ 9223372036854775807 < t.size + (⟨#[85]⟩ : ByteArray).size := by show ¬ 9223372036854775807 < t.size + 1; omega
                      have ht : (t ++ (⟨#[85]⟩ : ByteArray)).size = t.size + 1 := by rw [ByteArray.size_append]; rfl
                      have hp := hp.out
                      rw [← rep_succ] at hp
                      have hp' : Hid ((t ++ ⟨#[85]⟩) ++ rep n' = P) := hp
                      clear hp
                      go_wp2
                      exact ⟨⟨t ++ ⟨#[85]⟩, n', rfl, trivial, by omega, by rw [ht]; omega, by omega, hp'⟩, by show 400 - (t ++ (⟨#[85]⟩ : ByteArray)).size < 400 - t.size; omega⟩
          · have hatn' : ¬ ((at' : Nat) : Int) < ((nf : Nat) : Int) := by omega
            obtain ⟨B, hB, NB⟩ : ∃ B, startB = B ∧ Hid (Near B startB) := ⟨_, rfl, Or.inl rfl⟩
            rw [hB] at s1' hst
            go_wp2
            go_loopw [6, 10, 11] (fun tv bv kv wr2 => ∃ (at2 j k : Nat) (D : ByteArray), tv = .int .i64 (at2 : Nat) ∧ bv = .string D ∧ kv = .int .i64 (k : Nat) ∧ Hid (k = 8 * j + 2) ∧ j ≤ m ∧ at2 ≤ at' + 1 + j ∧ Hid (D.size = 8 * j + 2) ∧ MidSt P j (feedP p D.data.toList) ∧ Un W0 b p wr2)
              (fun _ _ kv _ => U.size - iOf kv)
            case atStart => exact ⟨at' + 1, 0, 2, B, by push_cast; rfl, rfl, rfl, rfl, Nat.zero_le _, by omega, hst, mid_0 (feed_start hq NB.out), hUn⟩
            case round =>
              obtain ⟨at2, j, k, D, rfl, rfl, rfl, hk, hj, hat2, hD, hmid, hUn⟩ := hrel
              rcases Nat.lt_or_ge j m with hjm | hjm
              · have hk1 := hk.out
                have hu := UU.out
                have hD1 := hD.out
                have hkb : ((k : Nat) : Int) ≤ 500 := by omega
                have hle : ((k : Nat) : Int) + 16 ≤ ((U.size : Nat) : Int) := by omega
                obtain ⟨q, hqq⟩ : ∃ q, blkS (P.extract (7 * j) (7 * j + 7)) = q := ⟨_, rfl⟩
                have hq8 : q.size = 8 := by rw [← hqq]; exact blkS_size (by rw [ByteArray.size_extract]; omega)
                have s2 := cut_8 (U := U) (q := q) (k := k) (by rw [hk1, ← hqq]; exact ubl j hjm) (by omega)
                have hadd : ∀ C, Near C q → Hid (MidSt P (j + 1) (feedP p (D ++ C).data.toList)) := fun C hC => mid_add hmid (by omega) (by omega) (by rw [hqq]; exact hC)
                clear hk1 hu hqq
                rcases Nat.lt_or_ge at2 nf with hatn2 | hatn2
                · have hatn2' : ((at2 : Nat) : Int) < ((nf : Nat) : Int) := by omega
                  obtain ⟨a3, ha3, hb3, hb4⟩ := hfs at2 hatn2
                  first | cases ha3 | subst ha3
                  have hcb3 := (World.cell?_of_block (hUn.fr.block _ hb4)).trans hb3
                  obtain ⟨z2, hz2⟩ : ∃ z2, zs.getD at2 0 = z2 := ⟨_, rfl⟩
                  rw [hz2] at hcb3
                  by_cases h4 : z2.tmod 3 = 0
                  · have h4b : (z2.tmod 3 != 0) = false := by rw [h4]; rfl
                    have hM := hadd q (Or.inl rfl)
                    obtain ⟨D2, hD2⟩ : ∃ D2, D ++ q = D2 := ⟨_, rfl⟩
                    rw [hD2] at hM
                    have hD2s : D2.size = D.size + 8 := by rw [← hD2, ByteArray.size_append, hq8]
                    have hsv : ¬ 9223372036854775807 < D.size + q.size := by omega
                    have hS2 : Hid (D2.size = 8 * (j + 1) + 2) := by show D2.size = _; omega
                    clear hadd hD2s hD1
                    go_wp2
                    exact ⟨⟨at2 + 1, j + 1, k + 8, D2, by push_cast; rfl, rfl, by push_cast; rfl, by show k + 8 = 8 * (j + 1) + 2; have := hk.out; omega, hjm, by omega, hS2, hM.out, hUn⟩, by show U.size - (k + 8) < U.size - k; omega⟩
                  · have h4b : (z2.tmod 3 != 0) = true := bne_iff_ne.2 h4
                    have cF2 := flip_at' hG hUn.fr q z2 (by omega) (by omega)
                    have hC := near_flip q (by omega) z2
                    obtain ⟨C, hCC⟩ : ∃ C, flipN q z2 = C := ⟨_, rfl⟩
                    rw [hCC] at hC cF2
                    have hC8 : C.size = 8 := by rw [hC.size]; exact hq8
                    have hM := hadd C hC
                    obtain ⟨D2, hD2⟩ : ∃ D2, D ++ C = D2 := ⟨_, rfl⟩
                    rw [hD2] at hM
                    have hD2s : D2.size = D.size + 8 := by rw [← hD2, ByteArray.size_append, hC8]
                    have hsv : ¬ 9223372036854775807 < D.size + C.size := by omega
                    have hS2 : Hid (D2.size = 8 * (j + 1) + 2) := by show D2.size = _; omega
                    clear hadd hC hD2s hD1 hCC
                    go_wp2_with (go_at_call 17; refine cF2.mono ?_)
                    first | rintro e W6 rfl b6 | rintro e W6 ⟨rfl, b6⟩
                    have hUn := hUn.below b6
                    clear b6 cF2 hcb3
                    go_wp2
                    exact ⟨⟨at2 + 1, j + 1, k + 8, D2, by push_cast; rfl, rfl, by push_cast; rfl, by show k + 8 = 8 * (j + 1) + 2; have := hk.out; omega, hjm, by omega, hS2, hM.out, hUn⟩, by show U.size - (k + 8) < U.size - k; omega⟩
                · have hatn2' : ¬ ((at2 : Nat) : Int) < ((nf : Nat) : Int) := by omega
                  have hM := hadd q (Or.inl rfl)
                  obtain ⟨D2, hD2⟩ : ∃ D2, D ++ q = D2 := ⟨_, rfl⟩
                  rw [hD2] at hM
                  have hD2s : D2.size = D.size + 8 := by rw [← hD2, ByteArray.size_append, hq8]
                  have hsv : ¬ 9223372036854775807 < D.size + q.size := by omega
                  have hS2 : Hid (D2.size = 8 * (j + 1) + 2) := by show D2.size = _; omega
                  clear hadd hD2s hD1
                  go_wp2
                  exact ⟨⟨at2 + 1, j + 1, k + 8, D2, by push_cast; rfl, rfl, by push_cast; rfl, by show k + 8 = 8 * (j + 1) + 2; have := hk.out; omega, hjm, by omega, hS2, hM.out, hUn⟩, by show U.size - (k + 8) < U.size - k; omega⟩
              · have hk1 := hk.out
                have hu := UU.out
                have hD1 := hD.out
                have hjm' : j = m := by omega
                subst hjm'
                have hkb : ((k : Nat) : Int) ≤ 500 := by omega
                have hle : ¬ ((k : Nat) : Int) + 16 ≤ ((U.size : Nat) : Int) := by omega
                have s3 := cut_end (U := U) (q := tailB) (k := 8 * j + 2) utl (by omega)
                obtain ⟨T, hT⟩ : ∃ T, D ++ tailB = T := ⟨_, rfl⟩
                have htl : tailB.size = 8 := rfl
                have hTs : T.size < 2 ^ 30 := by rw [← hT, ByteArray.size_append]; omega
                have hsv : ¬ 9223372036854775807 < D.size + tailB.size := by omega
                have hsv2 : ¬ 9223372036854775807 < D.size + 8 := by omega
                have hF := un_feed hG hUn (ok_quiet hq) T hTs
                obtain ⟨f1, f2, f3⟩ := tail_add hmid um uP
                rw [hT] at f1 f2 f3
                rw [f1] at hF
                have hQ : Hid (Quiet (clr (feedP p T.data.toList))) := f3
                obtain ⟨p3, hp3⟩ : ∃ p3, clr (feedP p T.data.toList) = p3 := ⟨_, rfl⟩
                have hbg3 : p3.begun = false := by rw [← hp3]; exact f2
                rw [hp3] at hF hQ
                have hPs : Hid (padS f = P) := hPP
                clear f1 f2 f3 hk1 hu hD1 hmid hp3 hTs
                go_wp2_with (go_at_call 19; refine hF.mono ?_)
                first | rintro e W5 v rfl hv hUn | rintro e W5 ⟨v, rfl, hv, hUn⟩
                have hv' : W5.ownsRow 0 9 1 v 1 [.string P] := hv
                obtain ⟨ao5, cap5, hv5⟩ := ownsRow_slice hv'
                subst hv5
                obtain ⟨hcap, g5, rfl⟩ := ownsRow_base hv' (by omega)
                have hc5 : W5.cell? ⟨g5, 0, none⟩ = some (.string P) := hv'.cells (g := g5) rfl 0 _ rfl
                have hca : W5.cell? (a.add i) = some (.string f) := (World.cell?_of_block (hUn.fr.block _ ha2)).trans ha1
                have hlk : Lk b false W5 := by rw [← hbg3]; exact hUn.lk
                clear hv hv' hF s3
                go_wp2
                go_loopw [14] (fun tv wr3 => ∃ (t : ByteArray) (n' : Nat), tv = .string t ∧ W5 = wr3 ∧ t.size + n' ≤ 357 ∧ (t.size + n') % 7 = 0 ∧ n' < 7 ∧ Hid (t ++ rep n' = P))
                  (fun tv _ => 400 - strLen tv)
                case atStart => exact ⟨f, padN f.size, rfl, rfl, by unfold padN; omega, by unfold padN; omega, by unfold padN; omega, hPs⟩
                case round =>
                  obtain ⟨t, n', rfl, rfl, h1, h2, h3', hp⟩ := hrel
                  cases n' with
                  | zero =>
                    have hp := hp.out
                    rw [rep_zero] at hp
                    subst hp
                    have hz7 : (((t.size : Nat) : Int) % 7 != 0) = false := by
                      have : ((t.size : Nat) : Int) % 7 = 0 := by omega
                      rw [this]; rfl
                    go_wp2_with (go_at_call 20; refine hlk.calls.mono ?_)
                    rintro e W6 ⟨rfl, rfl⟩
                    go_wp2
                    exact ⟨⟨at2, i + 1, p3, rfl, by push_cast; rfl, hlt, by omega, hQ.out, hUn⟩, by show n - (i + 1) < n - i; omega⟩
                  | succ n' =>
                    have hz7 : (((t.size : Nat) : Int) % 7 != 0) = true := by
                      have : ¬ ((t.size : Nat) : Int) % 7 = 0 := by omega
                      simpa using this
                    have hsv3 : ¬ 9223372036854775807 < t.size + 1 := by omega
                    have hsu3 : ¬ 9223372036854775807 < t.size + (⟨#[85]⟩ : ByteArray).size := by show ¬ 9223372036854775807 < t.size + 1; omega
                    have ht : (t ++ (⟨#[85]⟩ : ByteArray)).size = t.size + 1 := by rw [ByteArray.size_append]; rfl
                    have hp := hp.out
                    rw [← rep_succ] at hp
                    have hp' : Hid ((t ++ ⟨#[85]⟩) ++ rep n' = P) := hp
                    clear hp
                    go_wp2
                    exact ⟨⟨t ++ ⟨#[85]⟩, n', rfl, trivial, by omega, by rw [ht]; omega, by omega, hp'⟩, by show 400 - (t ++ (⟨#[85]⟩ : ByteArray)).size < 400 - t.size; omega⟩
    · have hge' : ¬ ((i : Nat) : Int) < ((n : Nat) : Int) := by omega
      go_wp2
      go_ret
      exact ⟨rfl, hUn.fr⟩
end Go.Am.Clt
