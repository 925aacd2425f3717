/-
  Tmframe: TmframeWhole, walked. Own work.
-/
import Derived.Test.YtkhlicfnfiopnaaTmfWd
namespace Go.Am.Tmf
open Go Go.Am Go.Am.Lib Go.Lib Go.Proofs Go.RowKit
open Go.Am.Own
open Go.Am.Pkt (G0)
set_option maxRecDepth 100000

def iOf1 : Value → Nat
  | .int _ x => (x + 1).toNat
  | _ => 0
/-- The numbers and the truth values, as the law is handed them. -/
def IntsIn (w : World) (ao : Option Addr) (n : Nat) : Prop := ∀ i, i < n → ∃ (a : Addr) (z : Int), ao = some a ∧ w.cell? (a.add i) = some (.int .i64 z) ∧ (a.add i).block < w.heap.size
def BoolsIn (w : World) (ao : Option Addr) (n : Nat) : Prop := ∀ i, i < n → ∃ (a : Addr) (z : Bool), ao = some a ∧ w.cell? (a.add i) = some (.bool z) ∧ (a.add i).block < w.heap.size
theorem pick_at (n m : Int) (h0 : 0 < m) (h1 : m < 2 ^ 62) (w : World) : Calls Try.prog 14 #[.int .i64 n, .int .i64 m] w fun e w' => e = .returned (.int .i64 (n % m)) ∧ Below w.heap.size w w' :=
  flat_calls okPck w (args := [.int .i64 n, .int .i64 m]) rfl (v := .int .i64 (n % m)) rfl ⟨h0, h1, fun x hx => by rw [hx]; exact ⟨rfl, rfl⟩⟩
set_option maxHeartbeats 3200000 in
theorem whole_long {W0 : World} (sz : Int) (ao : Option Addr) (n cap : Nat) (bv : Value) (h60 : 60 < n) :
    Calls Try.prog 7 #[.int .i64 sz, .slice ao n cap, bv] W0 fun e w' => e = .returned (.bool true) ∧ Below W0.heap.size W0 w' := by
  have h60' : (60 : Int) < ((n : Nat) : Int) := by omega
  go_enter Try.func7, Try.ntmps7
  go_wp2_with (go_at_call 9; refine (shown_walk _).mono ?_; rintro e W1 ⟨rfl, b1⟩)
  go_ret
  exact ⟨rfl, b1⟩
abbrev Rows2 (vw vf : Value) (want : List L8) (fs : List Nat) : Nat → RowM := R4 (9, vw, cellS want) (3, vf, cellI fs) (9, .slice none 0 0, []) (3, .slice none 0 0, [])
set_option maxHeartbeats 6400000 in
theorem whole_yes {W0 : World} (sz : Int) (ao : Option Addr) (n cap : Nat) (bo : Option Addr) (nb bcap : Nat) (hcs : IntsIn W0 ao n) (hbs : BoolsIn W0 bo nb) (h60 : n ≤ 60) :
    Calls Try.prog 7 #[.int .i64 sz, .slice ao n cap, .slice bo nb bcap] W0 fun e w' => e = .returned (.bool true) ∧ Below W0.heap.size W0 w' := by
  have h60' : ((n : Nat) : Int) ≤ 60 := by omega
  obtain ⟨q, hq⟩ := nat_of (n := sz % 169) (by omega)
  have hq1 : q < 169 := by omega
  have cP0 := fun w => pick_at sz 169 (by omega) (by omega) w
  rw [hq] at cP0
  obtain ⟨m, hm⟩ : ∃ m, 32 + q = m := ⟨_, rfl⟩
  have hm' : (32 : Int) + ((q : Nat) : Int) = ((m : Nat) : Int) := by omega
  have m0 : 32 ≤ m := by omega
  have m1 : m ≤ 200 := by omega
  have CP0 := Lib.hid cP0
  clear cP0 hq hq1 hm
  go_enter Try.func7, Try.ntmps7
  go_wp2_with (go_at_call 9; refine (shown_walk _).mono ?_; rintro e W1 ⟨rfl, b1⟩)
  go_wp2_with (go_at_call 14; refine (CP0.out _).mono ?_; rintro e W2 ⟨rfl, b2⟩)
  have b3 := b1.trans (b2.mono b1.size)
  go_wp2_with (go_at_call 16; refine (new_at _ (by omega) (by omega) _).mono ?_; rintro e W3 ⟨rfl, f1, e1⟩)
  rw [Int.toNat_natCast] at f1
  have hW0 := Wk.first b3 f1 e1 9 3 9 3
  obtain ⟨b, hb⟩ : ∃ b, W2.heap.size = b := ⟨_, rfl⟩
  rw [hb] at hW0
  rw [hb]
  clear hb f1 e1 b1 b2 b3
  obtain ⟨iS, iS1, iS2, iS3, iS4⟩ := infoS
  obtain ⟨iI, iI1, iI2, iI3, iI4⟩ := info3
  go_wp2
  go_loopw [10, 12, 13, 14] (fun av wv fv iv wr => ∃ (i : Nat) (x : FS) (A : L8) (T want : List L8) (fs : List Nat) (vw vf : Value), av = .string (strB A) ∧ vw = wv ∧ vf = fv ∧ iv = .int .i64 (i : Nat) ∧ i ≤ n ∧ Str m x A T want fs ∧ Hid (T.length ≤ i ∧ want.length = i ∧ x.q.length ≤ 306 * i) ∧ Wk W0 b x (Rows2 vw vf want fs) wr)
    (fun _ _ _ iv _ => n - iOf iv)
  case atStart => exact ⟨0, fs0 m, [], [], [], [], _, _, rfl, rfl, rfl, rfl, Nat.zero_le _, Str.zero m0 m1, ⟨Nat.le_refl _, rfl, Nat.le_refl _⟩, hW0⟩
  case round =>
    clear hW0
    obtain ⟨i, x, A, T, want, fs, vw, vf, rfl, rfl, rfl, rfl, hi, hst, hB, hW⟩ := hrel
    obtain ⟨ow, cw, rfl⟩ := ownsRow_slice hW.row0
    obtain ⟨of, cf, rfl⟩ := ownsRow_slice hW.row1
    rcases Nat.lt_or_ge i n with hlt | hge
    · have hlt' : ((i : Nat) : Int) < ((n : Nat) : Int) := by omega
      obtain ⟨a, z, rfl, k1, k2⟩ := hcs i hlt
      have k3 : wr.cell? (a.add i) = some (.int .i64 z) := (World.cell?_of_block (hW.fr.block _ k2)).trans k1
      obtain ⟨r, hr⟩ := nat_of (n := z % 300) (by omega)
      have hr1 : r < 300 := by omega
      have cP := pick_at z 300 (by omega) (by omega) wr
      rw [hr] at cP
      obtain ⟨p, hp⟩ : ∃ p, 7 + r = p := ⟨_, rfl⟩
      have hp' : (7 : Int) + ((r : Nat) : Int) = ((p : Nat) : Int) := by omega
      have p0 : 7 ≤ p := by omega
      have p1 : p ≤ 306 := by omega
      have cA := fun w (h : Wk W0 b x (Rows2 (.slice ow want.length cw) (.slice of fs.length cf) want fs) w) => wk_add h hst hB.out.1 (by omega) p0 p1
      have cM := fun w => made_calls p0 (by omega) w
      have hst2 := hst.add p0 p1
      have hpl : (madeL p).length = p := by have := madeS_size p0; exact this
      obtain ⟨P, hP⟩ : ∃ P, madeS p = P := ⟨_, rfl⟩
      have hPL : madeL p = P.data.toList := by rw [← hP]; rfl
      simp only [hP, hPL] at cA cM hst2 hpl
      obtain ⟨x2, hx2⟩ : ∃ x2, x.add P.data.toList = x2 := ⟨_, rfl⟩
      have hB2 : Hid ((T ++ [P.data.toList]).length ≤ i + 1 ∧ (want ++ [P.data.toList]).length = i + 1 ∧ x2.q.length ≤ 306 * (i + 1)) := by
        obtain ⟨q1, q2, q3⟩ := hB.out
        refine ⟨by rw [List.length_append]; simpa using q1, by rw [List.length_append]; simpa using q2, ?_⟩
        rw [← hx2]
        show (x.q ++ P.data.toList).length ≤ _
        rw [List.length_append, hpl]; omega
      simp only [hx2] at cA hst2
      have CA := Lib.hid cA
      have CM := Lib.hid cM
      have HBi := Lib.hid hB.out.2.1
      clear cA cM hP hPL hx2 hr hr1 hp p0 hst k1 k2 hpl hB
      go_wp2_with (go_at_call 14; refine cP.mono ?_; rintro e V1 ⟨rfl, d1⟩; have hV1 := hW.below d1)
      go_wp2_with (go_at_call 17; refine (CM.out _).mono ?_; rintro e V2 ⟨rfl, d2⟩; have hV2 := hV1.below d2)
      go_wp2_with (first
        | (go_at_call 18; refine (CA.out _ hV2).mono ?_; rintro e V3 ⟨rfl, hV3⟩; have hV4 := hV3.alloc (.cells #[.string P] 9); have hbase := hV4.lo)
        | (at_builtin; refine wpList_append_at rfl _ _ 44 rfl W0.heap.size 9 iS (.string ⟨#[]⟩) 1 16 Try.underlying44 iS1 iS2 iS3 iS4 rfl (by decide) _ want.length (cellS want) rfl hV4.row0 ⟨V3.heap.size, 0, none⟩ 1 1 [.string P] rfl rfl (cell_one V3 9 _) (by intro u hu; exact one_mem hu rfl) (by decide) ?_ (by have := HBi.out; omega) hbase ?_))
      · have := HBi.out; unfold maxLen; omega
      intro v5 V5 hr5 hg5 hw5
      have hV5 := hV4.push0 hr5 hg5 (by rw [alloc_size]; exact hw5)
      clear hr5 hg5 hw5 hV4 hV3 hV2 hV1 hW d1 d2 hbase cP
      obtain ⟨want2, hwant2⟩ : ∃ l, want ++ [P.data.toList] = l := ⟨_, rfl⟩
      obtain ⟨T2, hT2⟩ : ∃ l, T ++ [P.data.toList] = l := ⟨_, rfl⟩
      rw [hwant2] at hst2 hV5 hB2
      rw [hT2] at hst2 hB2
      clear hwant2 hT2 HBi CA CM hp' k3
      obtain ⟨o5, c5, rfl⟩ := ownsRow_slice hV5.row0
      have hQ0 : A.length + x2.q.length = lenS T2 := (lenS_eq hst2.toStr0).symm
      go_wp2
      go_loopw [10, 13] (fun av fv wq => ∃ (y : FS) (A2 : L8) (fs2 : List Nat) (vf2 : Value), av = .string (strB A2) ∧ vf2 = fv ∧ Str m y A2 T2 want2 fs2 ∧ Wk W0 b y (Rows2 (.slice o5 want2.length c5) vf2 want2 fs2) wq)
        (fun av _ _ => lenS T2 - sLen av)
      case atStart => exact ⟨x2, A, fs, _, rfl, rfl, hst2, hV5⟩
      case round =>
        clear hV5 hst2 hQ0
        obtain ⟨y, A2, fs2, vf2, rfl, rfl, hst2, hV5⟩ := hrel
        obtain ⟨of2, cf2, rfl⟩ := ownsRow_slice hV5.row1
        have hTl := hB2.out.1
        have hq2 := hst2.toStr0.len
        have hl2 := lenS_eq hst2.toStr0
        have hB3 : Hid (T2.length ≤ i + 1 ∧ want2.length = i + 1 ∧ y.q.length ≤ 306 * (i + 1)) := ⟨hTl, hB2.out.2.1, by omega⟩
        have hi1 : i + 1 ≤ n := hlt
        have hmeas : n - (i + 1) < n - i := by omega
        have hend : ∃ (i' : Nat) (x : FS) (A : L8) (T want : List L8) (fs : List Nat) (vw vf : Value), Value.string (strB A2) = .string (strB A) ∧ vw = .slice o5 want2.length c5 ∧ vf = .slice of2 fs2.length cf2 ∧ Value.int .i64 (((i : Nat) : Int) + 1) = .int .i64 (i' : Nat) ∧ i' ≤ n ∧ Str m x A T want fs ∧ Hid (T.length ≤ i' ∧ want.length = i' ∧ x.q.length ≤ 306 * i') ∧ Wk W0 b x (Rows2 vw vf want fs) wr :=
          ⟨i + 1, y, A2, T2, want2, fs2, _, _, rfl, rfl, rfl, by push_cast; rfl, hi1, hst2, hB3, hV5⟩
        rcases Nat.lt_or_ge i nb with hnb | hnb
        · have hnb' : ((i : Nat) : Int) < ((nb : Nat) : Int) := by omega
          obtain ⟨a2, tb, rfl, k4, k5⟩ := hbs i hnb
          have k6 : wr.cell? (a2.add i) = some (.bool tb) := (World.cell?_of_block (hV5.fr.block _ k5)).trans k4
          cases tb with
          | false =>
            have HE := Lib.hid hend
            clear hend hV5 hst2 hB3 hB2 k4 k5 hbs hcs
            go_wp2
            exact ⟨HE.out, hmeas⟩
          | true =>
            have cW := wk_wait hV5 (hst2.ok hTl (by omega))
            rcases Nat.lt_or_ge y.wait m with hwl | hwl
            · obtain ⟨wt, hwt⟩ : ∃ k, y.wait = k := ⟨_, rfl⟩
              rw [hwt] at cW hwl
              have hwl' : ¬ ((m : Nat) : Int) ≤ ((wt : Nat) : Int) := by omega
              have HE : Hid (∀ w, Wk W0 b y (Rows2 (.slice o5 want2.length c5) (.slice of2 fs2.length cf2) want2 fs2) w → ∃ (i' : Nat) (x : FS) (A : L8) (T want : List L8) (fs : List Nat) (vw vf : Value), Value.string (strB A2) = .string (strB A) ∧ vw = .slice o5 want2.length c5 ∧ vf = .slice of2 fs2.length cf2 ∧ Value.int .i64 (((i : Nat) : Int) + 1) = .int .i64 (i' : Nat) ∧ i' ≤ n ∧ Str m x A T want fs ∧ Hid (T.length ≤ i' ∧ want.length = i' ∧ x.q.length ≤ 306 * i') ∧ Wk W0 b x (Rows2 vw vf want fs) w) :=
                fun w hw => ⟨i + 1, y, A2, T2, want2, fs2, _, _, rfl, rfl, rfl, by push_cast; rfl, hi1, hst2, hB3, hw⟩
              clear hend hV5 hst2 hB3 hB2 k4 k5 hbs hcs hwt hl2 hq2
              go_wp2_with (go_at_call 19; refine cW.mono ?_; rintro e V6 ⟨rfl, hV6⟩)
              exact ⟨HE.out _ hV6, hmeas⟩
            · have hq3 : m ≤ y.q.length := by unfold FS.wait at hwl; omega
              obtain ⟨g1, g2, g3⟩ := hst2.next_full hq3
              have cN := fun w (h : Wk W0 b y (Rows2 (.slice o5 want2.length c5) (.slice of2 fs2.length cf2) want2 fs2) w) => wk_next h (hst2.ok hTl (by omega)) (by omega)
              have cW' := cW
              obtain ⟨wt, hwt⟩ : ∃ k, y.wait = k := ⟨_, rfl⟩
              rw [hwt] at cW hwl
              have hwl' : ((m : Nat) : Int) ≤ ((wt : Nat) : Int) := by omega
              obtain ⟨fi, hfi⟩ : ∃ k, y.first idleL = k := ⟨_, rfl⟩
              obtain ⟨y2, hy2⟩ : ∃ k, y.next idleL = k := ⟨_, rfl⟩
              obtain ⟨D, hD⟩ : ∃ D, strB (y.data idleL) = D := ⟨_, rfl⟩
              have hDl : y.data idleL = D.data.toList := by rw [← hD]; rfl
              obtain ⟨AB, hAB⟩ : ∃ B, strB A2 = B := ⟨_, rfl⟩
              have hApp : strB (A2 ++ D.data.toList) = AB ++ D := by rw [← hAB]; exact Pkt.ba_ext (by rw [ByteArray.data_append, Array.toList_append]; rfl)
              simp only [hfi, hy2, hD] at cN
              rw [hfi, hy2, hDl] at g1
              rw [hDl] at g2
              rw [hy2] at g3
              have hDs : D.size = m := g2
              have hDn : (((D.size : Nat) : Int) != ((m : Nat) : Int)) = false := by rw [hDs]; simp
              have hfl := g1.toStr0.fl
              have hl3 := lenS_eq g1.toStr0
              have hmA : lenS T2 - sLen (.string (AB ++ D)) < lenS T2 - sLen (.string AB) := by
                show lenS T2 - (AB ++ D).size < lenS T2 - AB.size
                have e1 : AB.size = A2.length := by rw [← hAB]; rfl
                rw [ByteArray.size_append, hDs, e1]; omega
              have hfs : fs2.length ≤ 20000 := by
                have := hst2.toStr0.fl
                have : fs2.length * 1 ≤ fs2.length * m := Nat.mul_le_mul_left _ (by omega)
                omega
              have hcc : AB.size + D.size ≤ 9223372036854775807 := by
                have e1 : AB.size = A2.length := by rw [← hAB]; rfl
                omega
              have HFS := Lib.hid hfs
              have HG := Lib.hid g1
              have HM := Lib.hid hmA
              have CN := Lib.hid cN
              rw [hAB]
              clear hend hst2 hB3 hB2 k4 k5 hbs hcs hwt hl2 hq2 cN g1 g2 g3 hD hDl hy2 hfi hAB hmA hfs cW' hl3 hfl hq3 hDs hTl
              go_wp2_with (go_at_call 19; refine cW.mono ?_; rintro e V6 ⟨rfl, hV6⟩)
              go_wp2_with (first
                | (go_at_call 20; refine (CN.out _ hV6).mono ?_; rintro e V7 ⟨rfl, hV7⟩; have hV8 := hV7.alloc (.cells #[.int .i64 ((fi : Nat) : Int)] 3); have hbase := hV8.lo)
                | (at_builtin; refine wpList_append_at rfl _ _ 39 rfl W0.heap.size 3 iI (.int .i64 0) 1 8 Try.underlying39 iI1 iI2 iI3 iI4 rfl (by decide) _ fs2.length (cellI fs2) rfl hV8.row1 ⟨V7.heap.size, 0, none⟩ 1 1 [.int .i64 ((fi : Nat) : Int)] rfl rfl (cell_one V7 3 _) (by intro u hu; exact one_mem hu rfl) (by decide) ?_ (by have := HFS.out; omega) hbase ?_))
              · have := HFS.out; unfold maxLen; omega
              intro v9 V9 hr9 hg9 hw9
              have hV9 := hV8.push1 hr9 hg9 (by rw [alloc_size]; exact hw9)
              clear hr9 hg9 hw9 hV8 hV7 hV6 hbase hV5 cW
              go_wp2
              exact ⟨⟨y2, A2 ++ D.data.toList, fs2 ++ [fi], _, by rw [hApp], rfl, HG.out, hV9⟩, HM.out⟩
        · have hnb' : ¬ ((i : Nat) : Int) < ((nb : Nat) : Int) := by omega
          have HE := Lib.hid hend
          clear hend hV5 hst2 hB3 hB2
          go_wp2
          exact ⟨HE.out, hmeas⟩
    · have hge' : ¬ ((i : Nat) : Int) < ((n : Nat) : Int) := by omega
      have hin : i = n := by omega
      have hTl0 : T.length ≤ n := by rw [← hin]; exact hB.out.1
      have hwl0 : want.length ≤ 60 := by have := hB.out.2.1; omega
      have hq0 : x.q.length + 32 * 0 ≤ 18400 := by have := hst.toStr0.len; omega
      have HWL := Lib.hid hwl0
      clear hB CP0 hcs hbs hin hwl0
      go_wp2
      go_loopw [10, 13, 19] (fun av fv kv wq => ∃ (k : Nat) (y : FS) (A2 T2 : _) (fs2 : List Nat) (vf2 : Value), av = .string (strB A2) ∧ vf2 = fv ∧ kv = .int .i64 (k : Nat) ∧ k ≤ 580 ∧ Str m y A2 T2 want fs2 ∧ Hid (T2.length ≤ n + k) ∧ Hid (y.wait = 0 ∨ y.q.length + 32 * k ≤ 18400) ∧ Wk W0 b y (Rows2 (.slice ow want.length cw) vf2 want fs2) wq)
        (fun _ _ kv _ => 700 - iOf kv)
      case atStart => exact ⟨0, x, A, T, fs, _, rfl, rfl, rfl, Nat.zero_le _, hst, hTl0, .inr hq0, hW⟩
      case round =>
        clear hW hst hTl0 hq0
        obtain ⟨k, y, A2, T2, fs2, vf2, rfl, rfl, rfl, hk, hst, hTl, hq, hV0⟩ := hrel
        obtain ⟨of2, cf2, rfl⟩ := ownsRow_slice hV0.row1
        have hk7 : ((k : Nat) : Int) < 700 := by omega
        have hok := hst.okq hTl.out (by omega) (by
          rcases hq.out with h | h
          · unfold FS.wait at h; have := hst.idle; omega
          · omega)
        have cW := wk_wait hV0 hok
        rcases Nat.eq_zero_or_pos y.wait with hw | hw
        · rw [hw] at cW
          clear hq
          have hTl2 := hTl.out
          have hwt : want = T2.filter real := hst.want
          have hA2 : A2.length ≤ 200000 := by have := hst.toStr0.len; omega
          have HS := Lib.hid (And.intro hst hw)
          have HOK := Lib.hid hok
          obtain ⟨AB, hAB⟩ : ∃ B, strB A2 = B := ⟨_, rfl⟩
          have hABs : AB.size = A2.length := by rw [← hAB]; rfl
          have hABb : ((AB.size : Nat) : Int) ≤ 200000 := by omega
          have HAB := Lib.hid hAB
          rw [hAB]
          clear hst hAB hok hwt hw
          go_wp2_with (go_at_call 19; refine cW.mono ?_; rintro e V6 ⟨rfl, hV6⟩)
          clear cW hV0
          go_loopw [11, 23, 24] (fun pv gv bv wq => ∃ (j at' : Nat) (G : List L8) (Bs : List Nat) (vg vb : Value), pv = .int .i64 (at' : Nat) ∧ vg = gv ∧ vb = bv ∧ Hid (j ≤ T2.length ∧ at' = lenS (T2.take j) ∧ G = (T2.take j).filter real ∧ Bs = stOf 0 false (T2.take j)) ∧ Wk W0 b y (R4 (9, .slice ow want.length cw, cellS want) (3, .slice of2 fs2.length cf2, cellI fs2) (9, vg, cellS G) (3, vb, cellI Bs)) wq)
            (fun pv _ _ _ => A2.length - iOf pv)
          case atStart => exact ⟨0, 0, [], [], _, _, rfl, rfl, rfl, ⟨Nat.zero_le _, rfl, rfl, rfl⟩, hV6⟩
          case round =>
            clear hV6
            obtain ⟨j, at', G, Bs, vg, vb, rfl, rfl, rfl, hJ, hX⟩ := hrel
            obtain ⟨og, cg, rfl⟩ := ownsRow_slice hX.row2
            obtain ⟨ob, cb, rfl⟩ := ownsRow_slice hX.row3
            have hBl : Bs.length ≤ 700 := by
              obtain ⟨j1, _, _, j4⟩ := hJ.out
              rw [j4, stOf_length, List.length_take]; omega
            have hGl : G.length ≤ 700 := by
              obtain ⟨j1, _, j3, _⟩ := hJ.out
              have := List.length_filter_le real (T2.take j)
              rw [← j3, List.length_take] at this
              omega
            rcases Nat.lt_or_ge at' A2.length with hat | hat
            · have hat' : ((at' : Nat) : Int) < ((AB.size : Nat) : Int) := by omega
              obtain ⟨j1, j2, j3, j4⟩ := hJ.out
              obtain ⟨p, hp, hItm, hdr⟩ := parse_at HS.out.1.toStr0 (j := j) (by rw [← j2]; exact hat)
              rw [← j2] at hdr
              have hsl : ∀ wx : World, (Instr.slice 9 (.string AB) (some (.int .i64 (at' : Nat))) none none).run Try.prog wx = .ok (.string (strB (A2.drop at'))) wx := cut_l (by rw [← HAB.out]; exact ext_drop A2 at') (by omega)
              obtain ⟨S, hS⟩ : ∃ S, strB (A2.drop at') = S := ⟨_, rfl⟩
              have hSl : S.data.toList = A2.drop at' := by rw [← hS]; rfl
              rw [hS] at hsl
              have cT := take_calls S wr
              have ip := itm_len hItm
              rcases Nat.lt_or_ge A2.length (at' + p.length) with hlt | hge
              · have hk : A2.length - at' < p.length := by omega
                have t1 := itm_pre hItm hk (s := S) (by rw [hSl, hdr, List.take_append_of_le_length (by omega)])
                obtain ⟨hTT, hre⟩ := parse_part HS.out.1 HS.out.2 hp (by rw [← j2]; exact hlt)
                have hGw : want = G := by
                  have h1 := filter_succ hp
                  rw [hTT, hre, if_neg (by decide), List.append_nil, ← j3] at h1
                  rw [← h1]; exact HS.out.1.want
                have hBf : Bs ++ [at'] = stOf 0 false T2 := by
                  have h1 := st_take hp
                  rw [hTT, ← j4, ← j2] at h1
                  exact h1.symm
                obtain ⟨pl, hpl⟩ : ∃ k, Pkt.pL S = k := ⟨_, rfl⟩
                obtain ⟨pc, hpc⟩ : ∃ k, Pkt.pC S = k := ⟨_, rfl⟩
                obtain ⟨pa, hpa⟩ : ∃ k, Pkt.pA S = k := ⟨_, rfl⟩
                obtain ⟨pf, hpf⟩ : ∃ k, Pkt.pF S = k := ⟨_, rfl⟩
                obtain ⟨pn, hpn⟩ : ∃ k, Pkt.pN S = k := ⟨_, rfl⟩
                obtain ⟨pd, hpd⟩ : ∃ k, Pkt.pD S = k := ⟨_, rfl⟩
                rw [t1, hpl, hpc, hpa, hpf, hpn, hpd] at cT
                have HBl := Lib.hid hBl
                have HBf := Lib.hid hBf
                have HGw := Lib.hid hGw
                clear t1 hpc hpa hpf hpn hpd hdr hSl hp hItm ip hS j1 j2 j3 j4 hJ hat hBl hre hpl hk hTT hBf hGw hlt
                go_wp2_with (first
                  | (go_at_call 21; refine cT.mono ?_; rintro e V7 ⟨rfl, d7⟩; have hX7 := hX.below d7; have hX8 := hX7.alloc (.cells #[.bool pc, .int .i64 ((pa : Nat) : Int), .int .i64 ((pf : Nat) : Int), .int .i64 ((pn : Nat) : Int), .string pd] 51); have c8 := heap_alloc_new V7 (.cells #[.bool pc, .int .i64 ((pa : Nat) : Int), .int .i64 ((pf : Nat) : Int), .int .i64 ((pn : Nat) : Int), .string pd] 51); obtain ⟨W8, hW8⟩ : ∃ W, V7.alloc (.cells #[.bool pc, .int .i64 ((pa : Nat) : Int), .int .i64 ((pf : Nat) : Int), .int .i64 ((pn : Nat) : Int), .string pd] 51) = W := ⟨_, rfl⟩; rw [hW8] at hX8 c8; have l8 : V7.heap.size < W8.heap.size := (by rw [← hW8, alloc_size]; omega); obtain ⟨q0, hq0⟩ : ∃ k, V7.heap.size = k := ⟨_, rfl⟩; have lq := Nat.le_of_eq hq0; rw [hq0] at c8 l8; have hX9 := hX8.alloc (.cells #[.int .i64 ((at' : Nat) : Int)] 3); have c9 := ((World.grownBy_alloc W8 (.cells #[.int .i64 ((at' : Nat) : Int)] 3) none).block q0 l8 (by simp)).trans c8; have hbase := hX9.lo)
                  | (at_builtin; refine wpList_append_at rfl _ _ 39 rfl W0.heap.size 3 iI (.int .i64 0) 1 8 Try.underlying39 iI1 iI2 iI3 iI4 rfl (by decide) _ Bs.length (cellI Bs) rfl hX9.row3 ⟨W8.heap.size, 0, none⟩ 1 1 [.int .i64 ((at' : Nat) : Int)] rfl rfl (cell_one W8 3 _) (by intro u hu; exact one_mem hu rfl) (by decide) ?_ (by have := HBl.out; omega) hbase ?_))
                · have := HBl.out; unfold maxLen; omega
                intro v10 V10 hr10 hg10 hw10
                have hX10 := hX9.push3 hr10 hg10 (by rw [alloc_size]; exact hw10)
                have c10 := hX7.beside (i := 3) (by decide) lq c9 hg10
                clear hr10 hg10 hw10 hX9 hX8 hX7 hX c8 c9 hbase l8 lq d7 cT
                have hGw := HGw.out
                subst hGw
                obtain ⟨Bf, hBq⟩ : ∃ B, Bs ++ [at'] = B := ⟨_, rfl⟩
                rw [hBq] at hX10 HBf
                have hBl : Bf.length ≤ 701 := by have := HBl.out; rw [← hBq, List.length_append]; simpa using this
                clear hBq
                have hR := hX10
                clear hX10
                obtain ⟨ob2, cb2, rfl⟩ := ownsRow_slice hR.row3
                have hfsl : fs2.length ≤ 200000 := by
                  have := HS.out.1.toStr0.fl
                  have : fs2.length * 1 ≤ fs2.length * m := Nat.mul_le_mul_left _ (by omega)
                  omega
                go_wp2
                go_loopw [28] (fun iv wq => ∃ (i2 : Nat), iv = .int .i64 (i2 : Nat) ∧ i2 ≤ fs2.length ∧ Wk W0 b y (R4 (9, .slice ow want.length cw, cellS want) (3, .slice of2 fs2.length cf2, cellI fs2) (9, .slice og want.length cg, cellS want) (3, .slice ob2 Bf.length cb2, cellI Bf)) wq)
                  (fun iv _ => fs2.length - iOf iv)
                case atStart => exact ⟨0, rfl, Nat.zero_le _, hR⟩
                case round =>
                  clear hR
                  obtain ⟨i2, rfl, hi2, hR⟩ := hrel
                  rcases Nat.lt_or_ge i2 fs2.length with hlt2 | hge2
                  · have hlt2' : ((i2 : Nat) : Int) < ((fs2.length : Nat) : Int) := by omega
                    have hmeas2 : fs2.length - (i2 + 1) < fs2.length - i2 := by omega
                    have hst := HS.out.1
                    have hfl := hst.toStr0.fl
                    have hfk := hst.toStr0.fk i2 hlt2
                    obtain ⟨im, him⟩ : ∃ k, i2 * m = k := ⟨_, rfl⟩
                    have him2 : im + m ≤ 200000 := by
                      have h1 : (i2 + 1) * m ≤ fs2.length * m := Nat.mul_le_mul_right m hlt2
                      rw [Nat.succ_mul, him, hfl] at h1
                      omega
                    have hmul1 : ((i2 : Nat) : Int) * ((m : Nat) : Int) = ((im : Nat) : Int) := by rw [← him]; push_cast; rfl
                    obtain ⟨im2, hi2m⟩ : ∃ k, im + m = k := ⟨_, rfl⟩
                    have hmul2 : (((i2 : Nat) : Int) + 1) * ((m : Nat) : Int) = ((im2 : Nat) : Int) := by rw [← hi2m, ← him]; push_cast; rw [Int.add_mul, Int.one_mul]
                    rw [him, ← pick_st, ← HBf.out] at hfk
                    have himb : im ≤ 200000 := by omega
                    rw [hi2m] at him2
                    have HI := Lib.hid hi2m
                    have HFK := Lib.hid hfk
                    clear hst hfl hfk him hi2m
                    go_wp2
                    go_loopw [29, 30] (fun fv kv wq => ∃ (k pv : Nat), fv = .int .i64 (pv : Nat) ∧ kv = .int .i64 (((k : Nat) : Int) - 1) ∧ k ≤ Bf.length ∧ Hid (pv = pickF im m (Bf.drop k)) ∧ Wk W0 b y (R4 (9, .slice ow want.length cw, cellS want) (3, .slice of2 fs2.length cf2, cellI fs2) (9, .slice og want.length cg, cellS want) (3, .slice ob2 Bf.length cb2, cellI Bf)) wq)
                      (fun _ kv _ => iOf1 kv)
                    case atStart => exact ⟨Bf.length, 2047, rfl, rfl, Nat.le_refl _, by rw [List.drop_length]; rfl, hR⟩
                    case round =>
                      clear hR
                      obtain ⟨k2, pv, rfl, rfl, hk2, hpv, hR⟩ := hrel
                      rcases k2 with _ | k2
                      · have e0 : (((0 : Nat) : Int) - 1) = -1 := rfl
                        rw [e0]
                        obtain ⟨gf, rfl, hcf⟩ := int_at hR.row1 hlt2 rfl
                        have hfv : fs2.getD i2 0 = pv := by
                          rw [List.getD_eq_getElem?_getD, HFK.out, hpv.out]; rfl
                        rw [hfv] at hcf
                        unfold intV at hcf
                        have hfin2 : ∃ (i3 : Nat), Value.int .i64 (((i2 : Nat) : Int) + 1) = .int .i64 (i3 : Nat) ∧ i3 ≤ fs2.length ∧ Wk W0 b y (R4 (9, .slice ow want.length cw, cellS want) (3, .slice (some ⟨gf, 0, none⟩) fs2.length cf2, cellI fs2) (9, .slice og want.length cg, cellS want) (3, .slice ob2 Bf.length cb2, cellI Bf)) wr := ⟨i2 + 1, by push_cast; rfl, hlt2, hR⟩
                        have HF2 := Lib.hid hfin2
                        clear hfin2 hR hfv e0
                        go_wp2
                        exact ⟨HF2.out, hmeas2⟩
                      · have e0 : (((k2 + 1 : Nat) : Int) - 1) = ((k2 : Nat) : Int) := by omega
                        rw [e0]
                        obtain ⟨gb, rfl, hcb⟩ := int_at hR.row3 (show k2 < Bf.length by omega) rfl
                        obtain ⟨s, hs⟩ : ∃ s, Bf.getD k2 0 = s := ⟨_, rfl⟩
                        have hgs : Bf[k2]? = some s := by rw [← hs, List.getD_eq_getElem?_getD, List.getElem?_eq_getElem (by omega)]; rfl
                        rw [hs] at hcb
                        unfold intV at hcb
                        have hpd := pickF_drop (a := im) (n := m) hgs
                        have hsb : s ≤ 200000 := by
                          have h1 : s ∈ stOf 0 false T2 := by rw [← HBf.out]; exact List.mem_of_getElem? hgs
                          have h2 := stOf_lt T2 0 false (fun p hp => itm_ne (HS.out.1.itm p hp)) s h1
                          have h3 := lenS_le HS.out.1.itm
                          omega
                        have hk0 : (0 : Int) ≤ ((k2 : Nat) : Int) := by omega
                        have hkb : ((k2 : Nat) : Int) < ((Bf.length : Nat) : Int) := by omega
                        have hmeas3 : iOf1 (.int .i64 (((k2 : Nat) : Int) - 1)) < iOf1 (.int .i64 ((k2 : Nat) : Int)) := by
                          show ((((k2 : Nat) : Int) - 1) + 1).toNat < (((k2 : Nat) : Int) + 1).toNat
                          omega
                        have HM3 := Lib.hid hmeas3
                        have hk2' : k2 ≤ Bf.length := by omega
                        have hR2 : Wk W0 b y (R4 (9, .slice ow want.length cw, cellS want) (3, .slice of2 fs2.length cf2, cellI fs2) (9, .slice og want.length cg, cellS want) (3, .slice (some ⟨gb, 0, none⟩) Bf.length cb2, cellI Bf)) wr := hR
                        have HR2 := Lib.hid hR2
                        rcases Nat.lt_or_ge s im with ha | ha
                        · have ha' : ¬ ((im : Nat) : Int) ≤ ((s : Nat) : Int) := by omega
                          have hpv2 : pv = pickF im m (Bf.drop k2) := by rw [hpd, if_neg (by omega)]; exact hpv.out
                          have HPV := Lib.hid hpv2
                          clear hR hR2 hpd hpv2 hs hgs hmeas3 e0
                          go_wp2
                          exact ⟨⟨k2, pv, rfl, rfl, hk2', HPV.out, HR2.out⟩, HM3.out⟩
                        · have ha' : ((im : Nat) : Int) ≤ ((s : Nat) : Int) := by omega
                          rcases Nat.lt_or_ge s im2 with hb2 | hb2
                          · have hb' : ((s : Nat) : Int) < ((im2 : Nat) : Int) := by omega
                            obtain ⟨d, hd⟩ : ∃ d, s - im = d := ⟨_, rfl⟩
                            have hd' : ((s : Nat) : Int) - ((im : Nat) : Int) = ((d : Nat) : Int) := by omega
                            have hdb : d ≤ 200000 := by omega
                            have hpv2 : d = pickF im m (Bf.drop k2) := by rw [hpd, if_pos ⟨ha, by have := HI.out; omega⟩, hd]
                            have HPV := Lib.hid hpv2
                            clear hR hR2 hpd hpv2 hs hgs hmeas3 e0 hd
                            go_wp2
                            exact ⟨⟨k2, d, rfl, rfl, hk2', HPV.out, HR2.out⟩, HM3.out⟩
                          · have hb' : ¬ ((s : Nat) : Int) < ((im2 : Nat) : Int) := by omega
                            have hpv2 : pv = pickF im m (Bf.drop k2) := by rw [hpd, if_neg (by have := HI.out; omega)]; exact hpv.out
                            have HPV := Lib.hid hpv2
                            clear hR hR2 hpd hpv2 hs hgs hmeas3 e0
                            go_wp2
                            exact ⟨⟨k2, pv, rfl, rfl, hk2', HPV.out, HR2.out⟩, HM3.out⟩
                  · have hge2' : ¬ ((i2 : Nat) : Int) < ((fs2.length : Nat) : Int) := by omega
                    have cS := same_calls (ownsRow_up hR.row2 (Nat.zero_le _)) (ownsRow_up hR.row0 (Nat.zero_le _)) (by have := HWL.out; omega)
                    have cW := fun w (h : Wk W0 b y (R4 (9, .slice ow want.length cw, cellS want) (3, .slice of2 fs2.length cf2, cellI fs2) (9, .slice og want.length cg, cellS want) (3, .slice ob2 Bf.length cb2, cellI Bf)) w) => wk_wait h HOK.out
                    rw [HS.out.2] at cW
                    have CW := Lib.hid cW
                    clear cW
                    go_wp2_with (go_at_call 22; refine cS.mono ?_; rintro e V20 ⟨rfl, d20⟩; have hV20 := hR.below d20)
                    go_wp2_with (go_at_call 19; refine (CW.out _ hV20).mono ?_; rintro e V21 ⟨rfl, hV21⟩)
                    go_ret
                    exact ⟨rfl, hV21.fr⟩
              · obtain ⟨r, e1, e2⟩ := parse_whole (A := A2) (by rw [← j2]; exact hdr) (by rw [← j2]; exact hge)
                rw [← j2] at e1 e2
                obtain ⟨t1, t2, t3⟩ := itm_take hItm (s := S) (r := r) (by rw [hSl, e1])
                obtain ⟨pl, hpl⟩ : ∃ k, p.length = k := ⟨_, rfl⟩
                rw [hpl] at t2 ip hge e2
                obtain ⟨en, hen⟩ : ∃ k, at' + pl = k := ⟨_, rfl⟩
                rw [hen] at hge
                have hen' : ((at' : Nat) : Int) + ((pl : Nat) : Int) = ((en : Nat) : Int) := by omega
                have henb : en ≤ 200000 := by omega
                have hpl1 : ¬ ((pl : Nat) : Int) < 1 := by omega
                have hen2 : ¬ ((AB.size : Nat) : Int) < ((en : Nat) : Int) := by omega
                have hsl2 : ∀ wx : World, (Instr.slice 9 (.string AB) (some (.int .i64 (at' : Nat))) (some (.int .i64 (en : Nat))) none).run Try.prog wx = .ok (.string (strB p)) wx := cut_lh (by rw [← HAB.out, ← hen]; exact ext_part e2) (by omega) (by omega)
                have hJ2 : Hid (j + 1 ≤ T2.length ∧ en = lenS (T2.take (j + 1))) := ⟨by have := (List.getElem?_eq_some_iff.1 hp).1; omega, by rw [lenS_succ hp, ← j2, hpl, hen]⟩
                have hmeas : A2.length - en < A2.length - at' := by omega
                have hGs : (T2.take (j + 1)).filter real = G ++ (if real p = true then [p] else []) := by rw [filter_succ hp, ← j3]
                have hBs : stOf 0 false (T2.take (j + 1)) = Bs ++ [at'] := by rw [st_take hp, ← j4, ← j2]
                obtain ⟨pc, hpc⟩ : ∃ k, Pkt.pC S = k := ⟨_, rfl⟩
                obtain ⟨pa, hpa⟩ : ∃ k, Pkt.pA S = k := ⟨_, rfl⟩
                obtain ⟨pf, hpf⟩ : ∃ k, Pkt.pF S = k := ⟨_, rfl⟩
                obtain ⟨pn, hpn⟩ : ∃ k, Pkt.pN S = k := ⟨_, rfl⟩
                obtain ⟨pd, hpd⟩ : ∃ k, Pkt.pD S = k := ⟨_, rfl⟩
                obtain ⟨pb, hpb⟩ : ∃ k, strB p = k := ⟨_, rfl⟩
                have hpbl : p = pb.data.toList := by rw [← hpb]; rfl
                rw [t1, t2, hpc, hpa, hpf, hpn, hpd] at cT
                rw [hpa] at t3
                rw [hpb] at hsl2
                have HBl := Lib.hid hBl
                have HGl := Lib.hid hGl
                cases hre : real p with
                | true =>
                  rw [hre] at t3
                  rw [hre, if_pos rfl] at hGs
                  have hne : (((pa : Nat) : Int) != 2047) = true := by
                    have := of_decide_eq_true t3.symm
                    simp; omega
                  have HGS := Lib.hid hGs
                  have HBS := Lib.hid hBs
                  have HPB := Lib.hid hpbl
                  clear t1 t2 t3 hpc hpa hpf hpn hpd hGs hBs hdr hSl e1 e2 hp hItm ip hge hen hS j1 j2 j3 j4 hJ hat hBl hGl hpb hpbl hre hpl
                  go_wp2_with (first
                    | (go_at_call 21; refine cT.mono ?_; rintro e V7 ⟨rfl, d7⟩; have hX7 := hX.below d7; have hX8 := hX7.alloc (.cells #[.bool pc, .int .i64 ((pa : Nat) : Int), .int .i64 ((pf : Nat) : Int), .int .i64 ((pn : Nat) : Int), .string pd] 51); have c8 := heap_alloc_new V7 (.cells #[.bool pc, .int .i64 ((pa : Nat) : Int), .int .i64 ((pf : Nat) : Int), .int .i64 ((pn : Nat) : Int), .string pd] 51); obtain ⟨W8, hW8⟩ : ∃ W, V7.alloc (.cells #[.bool pc, .int .i64 ((pa : Nat) : Int), .int .i64 ((pf : Nat) : Int), .int .i64 ((pn : Nat) : Int), .string pd] 51) = W := ⟨_, rfl⟩; rw [hW8] at hX8 c8; have l8 : V7.heap.size < W8.heap.size := (by rw [← hW8, alloc_size]; omega); obtain ⟨q0, hq0⟩ : ∃ k, V7.heap.size = k := ⟨_, rfl⟩; have lq := Nat.le_of_eq hq0; rw [hq0] at c8 l8; have hX9 := hX8.alloc (.cells #[.int .i64 ((at' : Nat) : Int)] 3); have c9 := ((World.grownBy_alloc W8 (.cells #[.int .i64 ((at' : Nat) : Int)] 3) none).block q0 l8 (by simp)).trans c8; have hbase := hX9.lo)
                    | (at_builtin; refine wpList_append_at rfl _ _ 39 rfl W0.heap.size 3 iI (.int .i64 0) 1 8 Try.underlying39 iI1 iI2 iI3 iI4 rfl (by decide) _ Bs.length (cellI Bs) rfl hX9.row3 ⟨W8.heap.size, 0, none⟩ 1 1 [.int .i64 ((at' : Nat) : Int)] rfl rfl (cell_one W8 3 _) (by intro u hu; exact one_mem hu rfl) (by decide) ?_ (by have := HBl.out; omega) hbase ?_))
                  · have := HBl.out; unfold maxLen; omega
                  intro v10 V10 hr10 hg10 hw10
                  have hX10 := hX9.push3 hr10 hg10 (by rw [alloc_size]; exact hw10)
                  have c10 := hX7.beside (i := 3) (by decide) lq c9 hg10
                  have k10 : V10.cell? ⟨q0, 1, none⟩ = some (.int .i64 ((pa : Nat) : Int)) := cell_of c10
                  clear hr10 hg10 hw10 hX9 hX8 hX7 hX c8 c9 c10 hbase l8 lq d7 cT
                  have hX11 := hX10.alloc (.cells #[.string pb] 9)
                  have hbase := hX11.lo
                  go_wp2_with (at_builtin; refine wpList_append_at rfl _ _ 44 rfl W0.heap.size 9 iS (.string ⟨#[]⟩) 1 16 Try.underlying44 iS1 iS2 iS3 iS4 rfl (by decide) _ G.length (cellS G) rfl hX11.row2 ⟨V10.heap.size, 0, none⟩ 1 1 [.string pb] rfl rfl (cell_one V10 9 _) (by intro u hu; exact one_mem hu rfl) (by decide) ?_ (by have := HGl.out; omega) hbase ?_)
                  · have := HGl.out; unfold maxLen; omega
                  intro v12 V12 hr12 hg12 hw12
                  have hX12 := hX11.push2 hr12 hg12 (by rw [alloc_size]; exact hw12)
                  have hfin : ∃ (j at2 : Nat) (G : List L8) (Bs : List Nat) (vg vb : Value), Value.int .i64 ((en : Nat) : Int) = .int .i64 (at2 : Nat) ∧ vg = v12 ∧ vb = v10 ∧ Hid (j ≤ T2.length ∧ at2 = lenS (T2.take j) ∧ G = (T2.take j).filter real ∧ Bs = stOf 0 false (T2.take j)) ∧ Wk W0 b y (R4 (9, .slice ow want.length cw, cellS want) (3, .slice of2 fs2.length cf2, cellI fs2) (9, vg, cellS G) (3, vb, cellI Bs)) V12 :=
                    ⟨j + 1, en, _, _, v12, v10, rfl, rfl, rfl, ⟨hJ2.out.1, hJ2.out.2, by rw [HGS.out, HPB.out], HBS.out.symm⟩, hX12⟩
                  have HF := Lib.hid hfin
                  clear hr12 hg12 hw12 hX12 hX11 hX10 hbase hfin k10
                  go_wp2
                  exact ⟨HF.out, hmeas⟩
                | false =>
                  rw [hre] at t3
                  rw [hre, if_neg (by decide), List.append_nil] at hGs
                  have hne : (((pa : Nat) : Int) != 2047) = false := by
                    have : ¬ pa ≠ 2047 := of_decide_eq_false t3.symm
                    simp; omega
                  have HGS := Lib.hid hGs
                  have HBS := Lib.hid hBs
                  clear t1 t2 t3 hpc hpa hpf hpn hpd hGs hBs hdr hSl e1 e2 hp hItm ip hge hen hS j1 j2 j3 j4 hJ hat hBl hGl hpb hre hpl
                  go_wp2_with (first
                    | (go_at_call 21; refine cT.mono ?_; rintro e V7 ⟨rfl, d7⟩; have hX7 := hX.below d7; have hX8 := hX7.alloc (.cells #[.bool pc, .int .i64 ((pa : Nat) : Int), .int .i64 ((pf : Nat) : Int), .int .i64 ((pn : Nat) : Int), .string pd] 51); have c8 := heap_alloc_new V7 (.cells #[.bool pc, .int .i64 ((pa : Nat) : Int), .int .i64 ((pf : Nat) : Int), .int .i64 ((pn : Nat) : Int), .string pd] 51); obtain ⟨W8, hW8⟩ : ∃ W, V7.alloc (.cells #[.bool pc, .int .i64 ((pa : Nat) : Int), .int .i64 ((pf : Nat) : Int), .int .i64 ((pn : Nat) : Int), .string pd] 51) = W := ⟨_, rfl⟩; rw [hW8] at hX8 c8; have l8 : V7.heap.size < W8.heap.size := (by rw [← hW8, alloc_size]; omega); obtain ⟨q0, hq0⟩ : ∃ k, V7.heap.size = k := ⟨_, rfl⟩; have lq := Nat.le_of_eq hq0; rw [hq0] at c8 l8; have hX9 := hX8.alloc (.cells #[.int .i64 ((at' : Nat) : Int)] 3); have c9 := ((World.grownBy_alloc W8 (.cells #[.int .i64 ((at' : Nat) : Int)] 3) none).block q0 l8 (by simp)).trans c8; have hbase := hX9.lo)
                    | (at_builtin; refine wpList_append_at rfl _ _ 39 rfl W0.heap.size 3 iI (.int .i64 0) 1 8 Try.underlying39 iI1 iI2 iI3 iI4 rfl (by decide) _ Bs.length (cellI Bs) rfl hX9.row3 ⟨W8.heap.size, 0, none⟩ 1 1 [.int .i64 ((at' : Nat) : Int)] rfl rfl (cell_one W8 3 _) (by intro u hu; exact one_mem hu rfl) (by decide) ?_ (by have := HBl.out; omega) hbase ?_))
                  · have := HBl.out; unfold maxLen; omega
                  intro v10 V10 hr10 hg10 hw10
                  have hX10 := hX9.push3 hr10 hg10 (by rw [alloc_size]; exact hw10)
                  have c10 := hX7.beside (i := 3) (by decide) lq c9 hg10
                  have k10 : V10.cell? ⟨q0, 1, none⟩ = some (.int .i64 ((pa : Nat) : Int)) := cell_of c10
                  clear hr10 hg10 hw10 hX9 hX8 hX7 hX c8 c9 c10 hbase l8 lq d7 cT
                  have hfin : ∃ (j at2 : Nat) (G2 : List L8) (Bs : List Nat) (vg vb : Value), Value.int .i64 ((en : Nat) : Int) = .int .i64 (at2 : Nat) ∧ vg = .slice og G.length cg ∧ vb = v10 ∧ Hid (j ≤ T2.length ∧ at2 = lenS (T2.take j) ∧ G2 = (T2.take j).filter real ∧ Bs = stOf 0 false (T2.take j)) ∧ Wk W0 b y (R4 (9, .slice ow want.length cw, cellS want) (3, .slice of2 fs2.length cf2, cellI fs2) (9, vg, cellS G2) (3, vb, cellI Bs)) V10 :=
                    ⟨j + 1, en, _, _, _, v10, rfl, rfl, rfl, ⟨hJ2.out.1, hJ2.out.2, HGS.out.symm, HBS.out.symm⟩, hX10⟩
                  have HF := Lib.hid hfin
                  clear hX10 hfin
                  go_wp2
                  exact ⟨HF.out, hmeas⟩
            · have hat' : ¬ ((at' : Nat) : Int) < ((AB.size : Nat) : Int) := by omega
              obtain ⟨j1, j2, j3, j4⟩ := hJ.out
              have hTT := parse_done HS.out.1 HS.out.2 (j := j) (by omega)
              have hGw : want = G := by rw [j3, hTT]; exact HS.out.1.want
              subst hGw
              have hBf : Bs = stOf 0 false T2 := by rw [j4, hTT]
              obtain ⟨Bf, hBq⟩ : ∃ B, B = Bs := ⟨_, rfl⟩
              subst hBq
              have HBf := Lib.hid hBf
              have hR := hX
              clear hX hBf hTT j1 j2 j3 j4 hJ
              have hfsl : fs2.length ≤ 200000 := by
                have := HS.out.1.toStr0.fl
                have : fs2.length * 1 ≤ fs2.length * m := Nat.mul_le_mul_left _ (by omega)
                omega
              go_wp2
              go_loopw [28] (fun iv wq => ∃ (i2 : Nat), iv = .int .i64 (i2 : Nat) ∧ i2 ≤ fs2.length ∧ Wk W0 b y (R4 (9, .slice ow want.length cw, cellS want) (3, .slice of2 fs2.length cf2, cellI fs2) (9, .slice og want.length cg, cellS want) (3, .slice ob Bf.length cb, cellI Bf)) wq)
                (fun iv _ => fs2.length - iOf iv)
              case atStart => exact ⟨0, rfl, Nat.zero_le _, hR⟩
              case round =>
                clear hR
                obtain ⟨i2, rfl, hi2, hR⟩ := hrel
                rcases Nat.lt_or_ge i2 fs2.length with hlt2 | hge2
                · have hlt2' : ((i2 : Nat) : Int) < ((fs2.length : Nat) : Int) := by omega
                  have hmeas2 : fs2.length - (i2 + 1) < fs2.length - i2 := by omega
                  have hst := HS.out.1
                  have hfl := hst.toStr0.fl
                  have hfk := hst.toStr0.fk i2 hlt2
                  obtain ⟨im, him⟩ : ∃ k, i2 * m = k := ⟨_, rfl⟩
                  have him2 : im + m ≤ 200000 := by
                    have h1 : (i2 + 1) * m ≤ fs2.length * m := Nat.mul_le_mul_right m hlt2
                    rw [Nat.succ_mul, him, hfl] at h1
                    omega
                  have hmul1 : ((i2 : Nat) : Int) * ((m : Nat) : Int) = ((im : Nat) : Int) := by rw [← him]; push_cast; rfl
                  obtain ⟨im2, hi2m⟩ : ∃ k, im + m = k := ⟨_, rfl⟩
                  have hmul2 : (((i2 : Nat) : Int) + 1) * ((m : Nat) : Int) = ((im2 : Nat) : Int) := by rw [← hi2m, ← him]; push_cast; rw [Int.add_mul, Int.one_mul]
                  rw [him, ← pick_st, ← HBf.out] at hfk
                  have himb : im ≤ 200000 := by omega
                  rw [hi2m] at him2
                  have HI := Lib.hid hi2m
                  have HFK := Lib.hid hfk
                  clear hst hfl hfk him hi2m
                  go_wp2
                  go_loopw [29, 30] (fun fv kv wq => ∃ (k pv : Nat), fv = .int .i64 (pv : Nat) ∧ kv = .int .i64 (((k : Nat) : Int) - 1) ∧ k ≤ Bf.length ∧ Hid (pv = pickF im m (Bf.drop k)) ∧ Wk W0 b y (R4 (9, .slice ow want.length cw, cellS want) (3, .slice of2 fs2.length cf2, cellI fs2) (9, .slice og want.length cg, cellS want) (3, .slice ob Bf.length cb, cellI Bf)) wq)
                    (fun _ kv _ => iOf1 kv)
                  case atStart => exact ⟨Bf.length, 2047, rfl, rfl, Nat.le_refl _, by rw [List.drop_length]; rfl, hR⟩
                  case round =>
                    clear hR
                    obtain ⟨k2, pv, rfl, rfl, hk2, hpv, hR⟩ := hrel
                    rcases k2 with _ | k2
                    · have e0 : (((0 : Nat) : Int) - 1) = -1 := rfl
                      rw [e0]
                      obtain ⟨gf, rfl, hcf⟩ := int_at hR.row1 hlt2 rfl
                      have hfv : fs2.getD i2 0 = pv := by
                        rw [List.getD_eq_getElem?_getD, HFK.out, hpv.out]; rfl
                      rw [hfv] at hcf
                      unfold intV at hcf
                      have hfin2 : ∃ (i3 : Nat), Value.int .i64 (((i2 : Nat) : Int) + 1) = .int .i64 (i3 : Nat) ∧ i3 ≤ fs2.length ∧ Wk W0 b y (R4 (9, .slice ow want.length cw, cellS want) (3, .slice (some ⟨gf, 0, none⟩) fs2.length cf2, cellI fs2) (9, .slice og want.length cg, cellS want) (3, .slice ob Bf.length cb, cellI Bf)) wr := ⟨i2 + 1, by push_cast; rfl, hlt2, hR⟩
                      have HF2 := Lib.hid hfin2
                      clear hfin2 hR hfv e0
                      go_wp2
                      exact ⟨HF2.out, hmeas2⟩
                    · have e0 : (((k2 + 1 : Nat) : Int) - 1) = ((k2 : Nat) : Int) := by omega
                      rw [e0]
                      obtain ⟨gb, rfl, hcb⟩ := int_at hR.row3 (show k2 < Bf.length by omega) rfl
                      obtain ⟨s, hs⟩ : ∃ s, Bf.getD k2 0 = s := ⟨_, rfl⟩
                      have hgs : Bf[k2]? = some s := by rw [← hs, List.getD_eq_getElem?_getD, List.getElem?_eq_getElem (by omega)]; rfl
                      rw [hs] at hcb
                      unfold intV at hcb
                      have hpd := pickF_drop (a := im) (n := m) hgs
                      have hsb : s ≤ 200000 := by
                        have h1 : s ∈ stOf 0 false T2 := by rw [← HBf.out]; exact List.mem_of_getElem? hgs
                        have h2 := stOf_lt T2 0 false (fun p hp => itm_ne (HS.out.1.itm p hp)) s h1
                        have h3 := lenS_le HS.out.1.itm
                        omega
                      have hk0 : (0 : Int) ≤ ((k2 : Nat) : Int) := by omega
                      have hkb : ((k2 : Nat) : Int) < ((Bf.length : Nat) : Int) := by omega
                      have hmeas3 : iOf1 (.int .i64 (((k2 : Nat) : Int) - 1)) < iOf1 (.int .i64 ((k2 : Nat) : Int)) := by
                        show ((((k2 : Nat) : Int) - 1) + 1).toNat < (((k2 : Nat) : Int) + 1).toNat
                        omega
                      have HM3 := Lib.hid hmeas3
                      have hk2' : k2 ≤ Bf.length := by omega
                      have hR2 : Wk W0 b y (R4 (9, .slice ow want.length cw, cellS want) (3, .slice of2 fs2.length cf2, cellI fs2) (9, .slice og want.length cg, cellS want) (3, .slice (some ⟨gb, 0, none⟩) Bf.length cb, cellI Bf)) wr := hR
                      have HR2 := Lib.hid hR2
                      rcases Nat.lt_or_ge s im with ha | ha
                      · have ha' : ¬ ((im : Nat) : Int) ≤ ((s : Nat) : Int) := by omega
                        have hpv2 : pv = pickF im m (Bf.drop k2) := by rw [hpd, if_neg (by omega)]; exact hpv.out
                        have HPV := Lib.hid hpv2
                        clear hR hR2 hpd hpv2 hs hgs hmeas3 e0
                        go_wp2
                        exact ⟨⟨k2, pv, rfl, rfl, hk2', HPV.out, HR2.out⟩, HM3.out⟩
                      · have ha' : ((im : Nat) : Int) ≤ ((s : Nat) : Int) := by omega
                        rcases Nat.lt_or_ge s im2 with hb2 | hb2
                        · have hb' : ((s : Nat) : Int) < ((im2 : Nat) : Int) := by omega
                          obtain ⟨d, hd⟩ : ∃ d, s - im = d := ⟨_, rfl⟩
                          have hd' : ((s : Nat) : Int) - ((im : Nat) : Int) = ((d : Nat) : Int) := by omega
                          have hdb : d ≤ 200000 := by omega
                          have hpv2 : d = pickF im m (Bf.drop k2) := by rw [hpd, if_pos ⟨ha, by have := HI.out; omega⟩, hd]
                          have HPV := Lib.hid hpv2
                          clear hR hR2 hpd hpv2 hs hgs hmeas3 e0 hd
                          go_wp2
                          exact ⟨⟨k2, d, rfl, rfl, hk2', HPV.out, HR2.out⟩, HM3.out⟩
                        · have hb' : ¬ ((s : Nat) : Int) < ((im2 : Nat) : Int) := by omega
                          have hpv2 : pv = pickF im m (Bf.drop k2) := by rw [hpd, if_neg (by have := HI.out; omega)]; exact hpv.out
                          have HPV := Lib.hid hpv2
                          clear hR hR2 hpd hpv2 hs hgs hmeas3 e0
                          go_wp2
                          exact ⟨⟨k2, pv, rfl, rfl, hk2', HPV.out, HR2.out⟩, HM3.out⟩
                · have hge2' : ¬ ((i2 : Nat) : Int) < ((fs2.length : Nat) : Int) := by omega
                  have cS := same_calls (ownsRow_up hR.row2 (Nat.zero_le _)) (ownsRow_up hR.row0 (Nat.zero_le _)) (by have := HWL.out; omega)
                  have cW := fun w (h : Wk W0 b y (R4 (9, .slice ow want.length cw, cellS want) (3, .slice of2 fs2.length cf2, cellI fs2) (9, .slice og want.length cg, cellS want) (3, .slice ob Bf.length cb, cellI Bf)) w) => wk_wait h HOK.out
                  rw [HS.out.2] at cW
                  have CW := Lib.hid cW
                  clear cW
                  go_wp2_with (go_at_call 22; refine cS.mono ?_; rintro e V20 ⟨rfl, d20⟩; have hV20 := hR.below d20)
                  go_wp2_with (go_at_call 19; refine (CW.out _ hV20).mono ?_; rintro e V21 ⟨rfl, hV21⟩)
                  go_ret
                  exact ⟨rfl, hV21.fr⟩
        · have cN := fun w (h : Wk W0 b y (Rows2 (.slice ow want.length cw) (.slice of2 fs2.length cf2) want fs2) w) => wk_next h hok (by omega)
          obtain ⟨T3, g1, g2, g3, g4⟩ := hst.next
          have hTl3 : T3.length ≤ n + (k + 1) := by have := hTl.out; omega
          have hq3 : (y.next idleL).wait = 0 ∨ (y.next idleL).q.length + 32 * (k + 1) ≤ 18400 := by
            rcases g4 with g4 | ⟨g4, _⟩
            · exact .inl g4
            · rcases hq.out with h | h
              · omega
              · right; omega
          have hk3 : k + 1 ≤ 580 := by
            rcases hq.out with h | h
            · omega
            · have : 1 ≤ y.q.length := by unfold FS.wait at hw; omega
              omega
          have hl2 := hst.toStr0.len
          obtain ⟨wt, hwt⟩ : ∃ k, y.wait = k := ⟨_, rfl⟩
          rw [hwt] at cW hw
          have hw' : (0 : Int) < ((wt : Nat) : Int) := by omega
          obtain ⟨fi, hfi⟩ : ∃ k, y.first idleL = k := ⟨_, rfl⟩
          obtain ⟨y2, hy2⟩ : ∃ k, y.next idleL = k := ⟨_, rfl⟩
          obtain ⟨D, hD⟩ : ∃ D, strB (y.data idleL) = D := ⟨_, rfl⟩
          have hDl : y.data idleL = D.data.toList := by rw [← hD]; rfl
          obtain ⟨AB, hAB⟩ : ∃ B, strB A2 = B := ⟨_, rfl⟩
          have hApp : strB (A2 ++ D.data.toList) = AB ++ D := by rw [← hAB]; exact Pkt.ba_ext (by rw [ByteArray.data_append, Array.toList_append]; rfl)
          simp only [hfi, hy2, hD] at cN
          rw [hfi, hy2, hDl] at g1
          rw [hDl] at g3
          rw [hy2] at hq3
          have hDs : D.size = m := g3
          have hDn : (((D.size : Nat) : Int) != ((m : Nat) : Int)) = false := by rw [hDs]; simp
          have hfs : fs2.length ≤ 200000 := by
            have := hst.toStr0.fl
            have : fs2.length * 1 ≤ fs2.length * m := Nat.mul_le_mul_left _ (by omega)
            have := hTl.out
            omega
          have hcc : AB.size + D.size ≤ 9223372036854775807 := by
            have e1 : AB.size = A2.length := by rw [← hAB]; rfl
            have := hTl.out
            omega
          have hmeas : 700 - (k + 1) < 700 - k := by omega
          have HFS := Lib.hid hfs
          have HG := Lib.hid g1
          have HQ := Lib.hid hq3
          have HT := Lib.hid hTl3
          have CN := Lib.hid cN
          rw [hAB]
          clear hst hwt cN g1 g2 g3 g4 hD hDl hy2 hfi hAB hfs hDs hTl hok hq hq3 hTl3 hl2
          go_wp2_with (go_at_call 19; refine cW.mono ?_; rintro e V6 ⟨rfl, hV6⟩)
          go_wp2_with (first
            | (go_at_call 20; refine (CN.out _ hV6).mono ?_; rintro e V7 ⟨rfl, hV7⟩; have hV8 := hV7.alloc (.cells #[.int .i64 ((fi : Nat) : Int)] 3); have hbase := hV8.lo)
            | (at_builtin; refine wpList_append_at rfl _ _ 39 rfl W0.heap.size 3 iI (.int .i64 0) 1 8 Try.underlying39 iI1 iI2 iI3 iI4 rfl (by decide) _ fs2.length (cellI fs2) rfl hV8.row1 ⟨V7.heap.size, 0, none⟩ 1 1 [.int .i64 ((fi : Nat) : Int)] rfl rfl (cell_one V7 3 _) (by intro u hu; exact one_mem hu rfl) (by decide) ?_ (by have := HFS.out; omega) hbase ?_))
          · have := HFS.out; unfold maxLen; omega
          intro v9 V9 hr9 hg9 hw9
          have hV9 := hV8.push1 hr9 hg9 (by rw [alloc_size]; exact hw9)
          clear hr9 hg9 hw9 hV8 hV7 hV6 hbase hV0 cW
          go_wp2
          exact ⟨⟨k + 1, y2, A2 ++ D.data.toList, T3, fs2 ++ [fi], _, by rw [hApp], rfl, by push_cast; rfl, hk3, HG.out, HT.out, HQ.out, hV9⟩, hmeas⟩
theorem whole_walk {W0 : World} (sz : Int) (ao : Option Addr) (n cap : Nat) (bo : Option Addr) (nb bcap : Nat) (hcs : IntsIn W0 ao n) (hbs : BoolsIn W0 bo nb) :
    Calls Try.prog 7 #[.int .i64 sz, .slice ao n cap, .slice bo nb bcap] W0 fun e w' => e = .returned (.bool true) ∧ Below W0.heap.size W0 w' := by
  rcases Nat.lt_or_ge 60 n with h | h
  · exact whole_long sz ao n cap _ h
  · exact whole_yes sz ao n cap bo nb bcap hcs hbs h
end Go.Am.Tmf
