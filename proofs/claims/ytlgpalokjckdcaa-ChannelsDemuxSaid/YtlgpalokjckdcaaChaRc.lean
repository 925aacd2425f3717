/-
  Channels: the reference's field walked. Own work; printed by gen/mkrc.py.
-/
import Derived.Test.YtlgpalokjckdcaaChaRX
namespace Go.Am.Cha
open Go Go.Am Go.Am.Lib Go.Lib Go.Proofs Go.RowKit
open Go.Am.Own
set_option maxRecDepth 100000
attribute [local go_sem] Oper.semAt_some

variable {sb Bo : Nat} {w0 : World} {a0 a1 a2 a3 a6 : Value}
theorem gsk {D : Dm} {k : Nat} (hk : k < 8) {W : World} {x : Sk} (h : W.heap[sb]? = some (.cells (dmC (D.put k x)) 83 (0, 0))) : W.cell? ⟨sb, 4 + k * 5 + 3, none⟩ = some (.bool x.bg) ∧ W.cell? ⟨sb, 4 + k * 5 + 4, none⟩ = some (.string x.pt) :=
  ⟨(cell_of h).trans (by rw [dmC_at _ hk (by omega), Dm.put_at]; rfl), (cell_of h).trans (by rw [dmC_at _ hk (by omega), Dm.put_at]; rfl)⟩
theorem tail_4 {a : Sk × Nat × List L8} {pre : List ByteArray} {r : ByteArray} (hz : r.size ≠ 0) (hE : Pkt.takeE r = 4) : tailM a (pre, r) = ({ a.1 with bg := true, pt := r }, a.2.1, a.2.2 ++ came pre) := by
  unfold tailM endN
  rw [if_pos ⟨hz, hE⟩, if_neg (fun h => h.2 hE)]
theorem tail_6 {a : Sk × Nat × List L8} {pre : List ByteArray} {r : ByteArray} (hz : r.size ≠ 0) (hE : Pkt.takeE r ≠ 4) : tailM a (pre, r) = ({ a.1 with pt := ⟨#[]⟩ }, a.2.1 + 1, a.2.2 ++ came pre) := by
  unfold tailM endN
  rw [if_neg (fun h => hE h.2), if_pos ⟨hz, hE⟩]
theorem tail_0 {a : Sk × Nat × List L8} {pre : List ByteArray} {r : ByteArray} (hz : r.size = 0) : tailM a (pre, r) = ({ a.1 with pt := ⟨#[]⟩ }, a.2.1, a.2.2 ++ came pre) := by
  unfold tailM endN
  rw [if_neg (fun h => h.1 hz), if_neg (fun h => h.1 hz)]
theorem nrm_pt {s : Sk} (h : s.bg = false) : nrm { s with pt := ⟨#[]⟩ } = nrm s := by
  rw [nrm_no h]
  exact nrm_no h
set_option maxHeartbeats 40000000 in
theorem rfield_at {D : Dm} {k : Nat} (hk : k < 8) {x : Sk} (hx : nrm x = x) (hps : x.pt.size ≤ 100000) {br : Nat} (hbr : br ≤ 1) (hsk : w0.heap[sb]? = some (.cells (dmC (D.put k x)) 83 (0, 0)))
    (hbo : w0.heap[Bo]? = some (.cells #[a0, a1, a2, a3, .slice none 0 0, .int .i64 ((br : Nat) : Int), a6] 33 (0, 0))) (crf ch mst cnt : Int) (first : Nat) (data : ByteArray) (wd : Value) (_ : first ≤ 2047) (hd : data.size ≤ 1000) :
    Calls Try.prog 34 #[.pointer (some ⟨sb, 0, none⟩), .pointer (some ⟨sb, 4 + k * 5, none⟩), .pointer (some ⟨Bo, 0, none⟩), .agg #[.int .i64 crf, .int .i64 ch, .int .i64 mst, .int .i64 cnt, .int .i64 ((first : Nat) : Int), .string data, wd]] w0 fun e w' => e = .returned (.tuple #[]) ∧ ∃ v, Gd sb Bo w0 (dmC (D.put k (nrm (takeM x first data br []).1))) #[.int .i64 crf, .int .i64 ch, .int .i64 mst, .int .i64 cnt, .int .i64 ((first : Nat) : Int), .string data, wd] a0 a1 a2 a3 v (.int .i64 (((takeM x first data br []).2.1 : Nat) : Int)) a6 (takeM x first data br []).2.2 w' := by
  have h0 := Gd.start hsk hbo #[.int .i64 crf, .int .i64 ch, .int .i64 mst, .int .i64 cnt, .int .i64 ((first : Nat) : Int), .string data, wd]
  obtain ⟨W1, hW1⟩ : ∃ W1, w0.alloc (.cells #[.int .i64 crf, .int .i64 ch, .int .i64 mst, .int .i64 cnt, .int .i64 ((first : Nat) : Int), .string data, wd] 85) = W1 := ⟨_, rfl⟩
  rw [hW1] at h0
  obtain ⟨x3, x4⟩ := gsk hk h0.sk
  have f4 : W1.cell? ⟨w0.heap.size, 4, none⟩ = some (.int .i64 ((first : Nat) : Int)) := cell_of h0.f
  have f5 : W1.cell? ⟨w0.heap.size, 5, none⟩ = some (.string data) := cell_of h0.f
  obtain ⟨mn, hmn⟩ : ∃ m : Nat, min first data.size = m := ⟨_, rfl⟩
  have hmi : min ((first : Nat) : Int) ((data.size : Nat) : Int) = ((mn : Nat) : Int) := by omega
  have hml : mn ≤ data.size := by omega
  obtain ⟨bv, hbv⟩ : ∃ u, Value.bool x.bg = u := ⟨_, rfl⟩
  rw [hbv] at x3
  obtain ⟨st, hst⟩ : ∃ s, stepM x first data br [] = s := ⟨_, rfl⟩
  obtain ⟨tk, htk⟩ : ∃ s, takeM x first data br [] = s := ⟨_, rfl⟩
  have htk2 := htk
  unfold takeM at htk
  rw [hst] at htk
  rw [htk2]
  clear htk2 hsk hbo
  go_enter Try.func34, Try.ntmps34
  go_wp2
  rename_i K hK
  have hrest : ∀ (v' : Value) (W' : World), Gd sb Bo w0 (dmC (D.put k (nrm st.1))) #[.int .i64 crf, .int .i64 ch, .int .i64 mst, .int .i64 cnt, .int .i64 ((first : Nat) : Int), .string data, wd] a0 a1 a2 a3 v' (.int .i64 ((st.2.1 : Nat) : Int)) a6 st.2.2 W' → st.2.1 ≤ 2 → st.2.2.length ≤ 1 → ∀ u3 u4 u5 u6 u9 u10 u11 u12 u13 u14 u15 u16 u17 u18 u19 u20 u21 u22 u23 u24 u25 u26 u27 u28 u29 u30 u31 u32 u33 u34 u35 u36 u37 u38 u39 u40 u41 u42 u43 u44 u45 u46 u47 u48 u49 u50 u51 u52 u53 u54 u55 u56 u57 u58 u59 u60 u61 u62 u63 u64 u65 u66 u67 u68 u69 u70 u71 u72 u73 u74 u75 u76 u77 u78 u79 u80 u81 u82 u83 u84 u85 u86 u87 u88 u89 u90 u91 u92 u93 u94 u95 u96 u97 u98 u99 u100 u101 u102 u103 u104 u105 u106 u107 u108 u109 u110 u111 u112 u113 u114 u115 u116 u117 u118 u119 u120 u121 u122 u123 u124 u125 u126 u127 u128 u129 u130 u131 u132 u133 u134 u135 u136 u137 : Value,  K ⟨#[.pointer (some ⟨sb, 0, none⟩), .pointer (some ⟨sb, 4 + k * 5, none⟩), .pointer (some ⟨Bo, 0, none⟩), u3, u4, u5, u6, .pointer (some ⟨w0.heap.size, 0, none⟩), .int .i64 ((mn : Nat) : Int), u9, u10, u11, u12, u13, u14, u15, u16, u17, u18, u19, u20, u21, u22, u23, u24, u25, u26, u27, u28, u29, u30, u31, u32, u33, u34, u35, u36, u37, u38, u39, u40, u41, u42, u43, u44, u45, u46, u47, u48, u49, u50, u51, u52, u53, u54, u55, u56, u57, u58, u59, u60, u61, u62, u63, u64, u65, u66, u67, u68, u69, u70, u71, u72, u73, u74, u75, u76, u77, u78, u79, u80, u81, u82, u83, u84, u85, u86, u87, u88, u89, u90, u91, u92, u93, u94, u95, u96, u97, u98, u99, u100, u101, u102, u103, u104, u105, u106, u107, u108, u109, u110, u111, u112, u113, u114, u115, u116, u117, u118, u119, u120, u121, u122, u123, u124, u125, u126, u127, u128, u129, u130, u131, u132, u133, u134, u135, u136, u137], []⟩ W' := by
    clear h0 x3 x4 f4 f5 hbv hW1
    intro v' W' h7 hn2 hL1 u3 u4 u5 u6 u9 u10 u11 u12 u13 u14 u15 u16 u17 u18 u19 u20 u21 u22 u23 u24 u25 u26 u27 u28 u29 u30 u31 u32 u33 u34 u35 u36 u37 u38 u39 u40 u41 u42 u43 u44 u45 u46 u47 u48 u49 u50 u51 u52 u53 u54 u55 u56 u57 u58 u59 u60 u61 u62 u63 u64 u65 u66 u67 u68 u69 u70 u71 u72 u73 u74 u75 u76 u77 u78 u79 u80 u81 u82 u83 u84 u85 u86 u87 u88 u89 u90 u91 u92 u93 u94 u95 u96 u97 u98 u99 u100 u101 u102 u103 u104 u105 u106 u107 u108 u109 u110 u111 u112 u113 u114 u115 u116 u117 u118 u119 u120 u121 u122 u123 u124 u125 u126 u127 u128 u129 u130 u131 u132 u133 u134 u135 u136 u137
    refine hK _ _ ?_
    clear hK
    have f4 : W'.cell? ⟨w0.heap.size, 4, none⟩ = some (.int .i64 ((first : Nat) : Int)) := cell_of h7.f
    by_cases h47 : first = 2047
    · rw [if_pos h47] at htk
      have hb : (((first : Nat) : Int) == 2047) = true := by simp; omega
      rw [htk] at h7
      have H7 := Lib.hid h7
      clear h7 h47 htk
      go_wp2
      exact bodyPost_ret (results_none rfl _ _ _) rfl ⟨rfl, _, H7.out⟩
    · rw [if_neg h47, hmn] at htk
      have hb : (((first : Nat) : Int) == 2047) = false := by simp; omega
      obtain ⟨b0, hb0⟩ : ∃ b, data.extract mn data.size = b := ⟨_, rfl⟩
      rw [hb0] at htk
      have hsbg : st.1.bg = false := by rw [← hst]; exact stepM_bg h47
      have hnst : nrm st.1 = { st.1 with pt := ⟨#[]⟩ } := nrm_no hsbg
      have HTK := Lib.hid htk
      have HNS := Lib.hid hnst
      have HSB := Lib.hid hsbg
      have HB0 := Lib.hid hb0
      clear htk hnst hsbg h47 hb0 hst hmn hmi
      go_wp2
      go_loopw [8] (fun iv wr => ∃ (i : Nat) (pre : List ByteArray) (v2 : Value), iv = .int .i64 (i : Nat) ∧ i ≤ data.size ∧ Far b0 pre ∧ remOf b0 pre = data.extract i data.size ∧ Gd sb Bo w0 (dmC (D.put k (nrm st.1))) #[.int .i64 crf, .int .i64 ch, .int .i64 mst, .int .i64 cnt, .int .i64 ((first : Nat) : Int), .string data, wd] a0 a1 a2 a3 v2 (.int .i64 ((st.2.1 : Nat) : Int)) a6 (st.2.2 ++ came pre) wr)
        (fun iv _ => data.size - iOf iv)
      case atStart => exact ⟨mn, [], v', rfl, hml, Far.nil b0, HB0.out.symm, by rw [show came [] = [] from rfl, List.append_nil]; exact h7⟩
      case round =>
        clear h7 f4
        obtain ⟨i, pre, v2, rfl, hi, hfar, hrem, h7⟩ := hrel
        have f5 : wr.cell? ⟨w0.heap.size, 5, none⟩ = some (.string data) := cell_of h7.f
        rcases Nat.lt_or_ge i data.size with hlt | hge
        · have hlt' : ((i : Nat) : Int) < ((data.size : Nat) : Int) := by omega
          obtain ⟨r, hr⟩ : ∃ r, data.extract i data.size = r := ⟨_, rfl⟩
          rw [hr] at hrem
          have hrs : r.size = data.size - i := by rw [← hr, ByteArray.size_extract]; omega
          obtain ⟨E, hE⟩ : ∃ E, Pkt.takeE r = E := ⟨_, rfl⟩
          obtain ⟨pl, hpl⟩ : ∃ p, Pkt.pL r = p := ⟨_, rfl⟩
          have ht := rtake_calls r wr
          unfold pkV at ht
          rw [hE, hpl] at ht
          have hle : E = 0 → 7 ≤ pl ∧ pl ≤ r.size := fun e => by rw [← hpl]; exact take_len (by rw [hE]; exact e)
          have hLn : (st.2.2 ++ came pre).length ≤ 100000 := by
            have h1 := hfar.len
            have h2 := came_len pre
            have h3 : b0.size ≤ 1000 := by rw [← HB0.out, ByteArray.size_extract]; omega
            rw [List.length_append]
            omega
          have hmeas : E = 0 → data.size - (i + pl) < data.size - i := fun e => by have := hle e; omega
          have HF := Lib.hid (And.intro hfar hrem)
          have hEE : E = 0 ∨ E = 4 ∨ E = 6 := by rw [← hE]; exact takeE_cases r
          clear hfar hrem
          rcases hEE with rfl | rfl | rfl
          · obtain ⟨hp7, hpr⟩ := hle rfl
            have hip : i + pl ≤ data.size := by omega
            have hhd : data.extract i (i + pl) = headB r := by
              unfold headB
              rw [hpl, ← hr, ByteArray.extract_extract]
              congr 1; omega
            have hdd : dropB r = data.extract (i + pl) data.size := by
              unfold dropB
              rw [hpl, hrs, ← hr, ByteArray.extract_extract]
              congr 1; omega
            have HD := Lib.hid (And.intro hdd (dlv_head hE))
            have HM := Lib.hid (hmeas rfl)
            have HG := Lib.hid (show Goes (remOf b0 pre) from by rw [HF.out.2]; exact ⟨by omega, hE⟩)
            clear hmeas hle hdd
            go_wp2_with (go_at_call 63; refine ht.mono ?_; clear ht; rintro e W3 ⟨rfl, b3⟩; have h8 := h7.below (b3.alloc b3.size (.cells #[.bool (Pkt.pC r), .int .i64 ((Pkt.pA r : Nat) : Int), .int .i64 ((Pkt.pF r : Nat) : Int), .int .i64 ((Pkt.pN r : Nat) : Int), .string (Pkt.pD r)] 110)); obtain ⟨V3, hV3⟩ : ∃ V, W3.alloc (.cells #[.bool (Pkt.pC r), .int .i64 ((Pkt.pA r : Nat) : Int), .int .i64 ((Pkt.pF r : Nat) : Int), .int .i64 ((Pkt.pN r : Nat) : Int), .string (Pkt.pD r)] 110) = V := ⟨_, rfl⟩; rw [hV3] at h8; have g5 : V3.cell? ⟨w0.heap.size, 5, none⟩ = some (.string data) := cell_of h8.f; have hdv := h8.arrived (by omega) (headB r))
            refine hdv.mono ?_
            rintro e V4 ⟨rfl, v4, h9⟩
            rw [HD.out.2] at h9
            have H9 := Lib.hid h9
            clear h8 h9 hdv
            go_wp2
            refine ⟨⟨i + pl, pre ++ [r], v4, by push_cast; rfl, hip, ?_, by rw [remOf_snoc]; exact HD.out.1, ?_⟩, HM.out⟩
            · have := HF.out.1.snoc HG.out
              rw [HF.out.2] at this
              exact this
            · rw [came_snoc, ← List.append_assoc]
              exact H9.out
          · have hz : r.size ≠ 0 := by omega
            have hng : ¬ Goes (remOf b0 pre) := by rw [HF.out.2]; exact fun hg => absurd (hE.symm.trans hg.2) (by decide)
            have hpp := HF.out.1.stop hng
            rw [HF.out.2] at hpp
            have ht4 := HTK.out
            rw [hpp, tail_4 hz hE] at ht4
            have HT4 := Lib.hid ht4
            clear hle hmeas hpp ht4 hng
            go_wp2_with (go_at_call 63; refine ht.mono ?_; clear ht; rintro e W3 ⟨rfl, b3⟩; have h8 := h7.below (b3.alloc b3.size (.cells #[.bool (Pkt.pC r), .int .i64 ((Pkt.pA r : Nat) : Int), .int .i64 ((Pkt.pF r : Nat) : Int), .int .i64 ((Pkt.pN r : Nat) : Int), .string (Pkt.pD r)] 110)); obtain ⟨V3, hV3⟩ : ∃ V, W3.alloc (.cells #[.bool (Pkt.pC r), .int .i64 ((Pkt.pA r : Nat) : Int), .int .i64 ((Pkt.pF r : Nat) : Int), .int .i64 ((Pkt.pN r : Nat) : Int), .string (Pkt.pD r)] 110) = V := ⟨_, rfl⟩; rw [hV3] at h8; have g5 : V3.cell? ⟨w0.heap.size, 5, none⟩ = some (.string data) := cell_of h8.f; obtain ⟨y3, y4⟩ := gsk hk h8.sk; have zs := h8.cells.2.2.2.1)
            have h9 := (h8.drew.setS (4 + k * 5 + 3) (.bool true)).setS (4 + k * 5 + 4) (.string r)
            rw [put3 D hk, put4 D hk] at h9
            have H9 := Lib.hid h9
            clear h8 h9
            go_region
            go_wp2
            refine bodyPost_ret (results_none rfl _ _ _) rfl ⟨rfl, v2, ?_⟩
            rw [← HT4.out]
            have e1 : nrm { st.1 with bg := true, pt := r } = { nrm st.1 with bg := true, pt := r } := by rw [HNS.out]; exact nrm_yes rfl
            rw [e1]
            exact H9.out
          · have hz : r.size ≠ 0 := by omega
            have hng : ¬ Goes (remOf b0 pre) := by rw [HF.out.2]; exact fun hg => absurd (hE.symm.trans hg.2) (by decide)
            have hpp := HF.out.1.stop hng
            rw [HF.out.2] at hpp
            have ht4 := HTK.out
            rw [hpp, tail_6 hz (by rw [hE]; decide)] at ht4
            have HT4 := Lib.hid ht4
            clear hle hmeas hpp ht4 hng
            go_wp2_with (go_at_call 63; refine ht.mono ?_; clear ht; rintro e W3 ⟨rfl, b3⟩; have h8 := h7.below (b3.alloc b3.size (.cells #[.bool (Pkt.pC r), .int .i64 ((Pkt.pA r : Nat) : Int), .int .i64 ((Pkt.pF r : Nat) : Int), .int .i64 ((Pkt.pN r : Nat) : Int), .string (Pkt.pD r)] 110)); obtain ⟨V3, hV3⟩ : ∃ V, W3.alloc (.cells #[.bool (Pkt.pC r), .int .i64 ((Pkt.pA r : Nat) : Int), .int .i64 ((Pkt.pF r : Nat) : Int), .int .i64 ((Pkt.pN r : Nat) : Int), .string (Pkt.pD r)] 110) = V := ⟨_, rfl⟩; rw [hV3] at h8; have g5 := h8.cells.2.2.1; have zo := h8.cells.2.2.2.2)
            have h9 := h8.set5 (.int .i64 ((st.2.1 + 1 : Nat) : Int))
            have e1 : (((st.2.1 + 1 : Nat) : Nat) : Int) = ((st.2.1 : Nat) : Int) + 1 := by push_cast; rfl
            refine bodyPost_ret (results_none rfl _ _ _) rfl ⟨rfl, v2, ?_⟩
            rw [← HT4.out, nrm_pt HSB.out, ← e1]
            exact h9
        · have hie : i = data.size := by omega
          have hge' : ¬ ((i : Nat) : Int) < ((data.size : Nat) : Int) := by omega
          have hz : (remOf b0 pre).size = 0 := by rw [hrem, ByteArray.size_extract]; omega
          have hpp := hfar.stop (fun hg => hg.1 hz)
          have ht4 := HTK.out
          rw [hpp, tail_0 hz] at ht4
          have HT4 := Lib.hid ht4
          have H7 := Lib.hid h7
          clear hpp ht4 hz h7 hrem hfar hie
          go_wp2
          go_end0
          refine ⟨rfl, v2, ?_⟩
          rw [← HT4.out]
          rw [nrm_pt HSB.out]
          exact H7.out
  have HR := Lib.hid hrest
  clear hrest hK
  cases hbg : x.bg with
  | false =>
    rw [hbg] at hbv
    subst hbv
    have hs1 : st = (x, br, []) := by rw [← hst]; unfold stepM; rw [if_neg (by rw [hbg]; decide)]
    clear hst htk
    subst hs1
    have H0 := Lib.hid h0
    clear h0 hbg
    go_wp2
    exact HR.out _ W1 (by rw [hx]; exact H0.out) (by show br ≤ 2; omega) (by simp) _ _ _ _ _ _ _ _ _ _ _ _ _ _ _ _ _ _ _ _ _ _ _ _ _ _ _ _ _ _ _ _ _ _ _ _ _ _ _ _ _ _ _ _ _ _ _ _ _ _ _ _ _ _ _ _ _ _ _ _ _ _ _ _ _ _ _ _ _ _ _ _ _ _ _ _ _ _ _ _ _ _ _ _ _ _ _ _ _ _ _ _ _ _ _ _ _ _ _ _ _ _ _ _ _ _ _ _ _ _ _ _ _ _ _ _ _ _ _ _ _ _ _ _ _ _ _ _ _ _ _ _ _
  | true =>
    rw [hbg] at hbv
    subst hbv
    have zs0 := h0.cells.2.2.2.1
    have hml' : ((mn : Nat) : Int) ≤ ((data.size : Nat) : Int) := by omega
    have hxs : (data.extract 0 mn).size ≤ 1000 := by rw [ByteArray.size_extract]; omega
    obtain ⟨part, hpart⟩ : ∃ p, x.pt ++ data.extract 0 mn = p := ⟨_, rfl⟩
    have hps2 : part.size ≤ 200000 := by rw [← hpart, ByteArray.size_append]; omega
    have hst2 : st = (if Pkt.takeE part = 0 ∧ Pkt.pL part = part.size then ({ x with bg := false, pt := part }, br, [] ++ dlv part part) else if Pkt.takeE part ≠ 4 ∨ first ≠ 2047 then ({ x with bg := false, pt := part }, br + 1, []) else ({ x with pt := part }, br, [])) := by
      rw [← hst]; unfold stepM; rw [if_pos hbg, hmn, hpart]
    have h1 := h0.drew.setS (4 + k * 5 + 4) (.string part)
    rw [put4 D hk] at h1
    have H1 := Lib.hid h1
    have HS := Lib.hid hst2
    have HG := Lib.hid hbg
    clear hst2 h0 h1 hst htk hbg
    go_wp2
    go_region
    have h2 := H1.out
    have e2 : W1.drew.setCell ⟨sb, 4 + k * 5 + 4, none⟩ (.string part) = (W1.setCell ⟨sb, 4 + k * 5 + 4, none⟩ (.string part)).drew := rfl
    rw [e2] at h2
    obtain ⟨W2, hW2⟩ : ∃ W2, (W1.setCell ⟨sb, 4 + k * 5 + 4, none⟩ (.string part)).drew = W2 := ⟨_, rfl⟩
    rw [hW2] at h2 ⊢
    clear e2 hW2 H1 hW1 f4 hpart
    have x4 : W2.cell? ⟨sb, 4 + k * 5 + 4, none⟩ = some (.string part) := (gsk hk h2.sk).2
    obtain ⟨E, hE⟩ : ∃ E, Pkt.takeE part = E := ⟨_, rfl⟩
    obtain ⟨pl, hpl⟩ : ∃ p, Pkt.pL part = p := ⟨_, rfl⟩
    have ht := rtake_calls part W2
    unfold pkV at ht
    have hds := HS.out
    rw [hE, hpl] at ht hds
    have hlst : E = 0 ∧ pl = part.size → dlvA (Pkt.gA part) part = dlv part part := fun h => dlv_eq (by rw [hE, hpl]; exact h)
    clear HS
    have hEE : E = 0 ∨ E = 4 ∨ E = 6 := by rw [← hE]; exact takeE_cases part
    have hfb : (((first : Nat) : Int) == 2047) = true ∧ first = 2047 ∨ (((first : Nat) : Int) == 2047) = false ∧ first ≠ 2047 := by
      by_cases h : first = 2047
      · exact .inl ⟨by simp; omega, h⟩
      · exact .inr ⟨by simp; omega, h⟩
    clear hE hpl hmn hmi
    by_cases hA : E = 0 ∧ pl = part.size
    · rw [if_pos hA] at hds
      have hgd := hlst hA
      obtain ⟨rfl, rfl⟩ := hA
      subst hds
      have HGD := Lib.hid hgd
      clear hlst hEE hgd
      rcases hfb with ⟨hfb, hff⟩ | ⟨hfb, hff⟩
      all_goals
        clear hff
        go_wp2_with (go_at_call 63; refine ht.mono ?_; clear ht; rintro e W3 ⟨rfl, b3⟩; have h3 := h2.below (b3.alloc b3.size (.cells #[.bool (Pkt.pC part), .int .i64 ((Pkt.pA part : Nat) : Int), .int .i64 ((Pkt.pF part : Nat) : Int), .int .i64 ((Pkt.pN part : Nat) : Int), .string (Pkt.pD part)] 110)); obtain ⟨V4, hV4⟩ : ∃ V, W3.alloc (.cells #[.bool (Pkt.pC part), .int .i64 ((Pkt.pA part : Nat) : Int), .int .i64 ((Pkt.pF part : Nat) : Int), .int .i64 ((Pkt.pN part : Nat) : Int), .string (Pkt.pD part)] 110) = V := ⟨_, rfl⟩; rw [hV4] at h3; have f4 : V4.cell? ⟨w0.heap.size, 4, none⟩ = some (.int .i64 ((first : Nat) : Int)) := cell_of h3.f; obtain ⟨y3, y4⟩ := gsk hk h3.sk; have zs := h3.cells.2.2.2.1; have g5 := h3.cells.2.2.1; have zo := h3.cells.2.2.2.2; clear h2 x3 x4 f5 zs0)
        refine (h3.arrived (by simp) part).mono ?_
        rintro e V5 ⟨rfl, v5, h5⟩
        rw [HGD.out] at h5
        obtain ⟨y3, y4⟩ := gsk hk h5.sk
        have zs := h5.cells.2.2.2.1
        have h6 := (h5.setS (4 + k * 5 + 3) (.bool false)).setS (4 + k * 5 + 4) (.string ⟨#[]⟩)
        rw [put3 D hk, put4 D hk] at h6
        have H6 := Lib.hid h6
        clear h3 h5 h6
        go_wp2
        exact HR.out v5 _ (by rw [show nrm ({ x with bg := false, pt := part } : Sk) = { x with bg := false, pt := ⟨#[]⟩ } from nrm_no rfl]; exact H6.out) (by show br ≤ 2; omega) (by have := dlv_len part part; simpa using this) _ _ _ _ _ _ _ _ _ _ _ _ _ _ _ _ _ _ _ _ _ _ _ _ _ _ _ _ _ _ _ _ _ _ _ _ _ _ _ _ _ _ _ _ _ _ _ _ _ _ _ _ _ _ _ _ _ _ _ _ _ _ _ _ _ _ _ _ _ _ _ _ _ _ _ _ _ _ _ _ _ _ _ _ _ _ _ _ _ _ _ _ _ _ _ _ _ _ _ _ _ _ _ _ _ _ _ _ _ _ _ _ _ _ _ _ _ _ _ _ _ _ _ _ _ _ _ _ _ _ _ _ _
    · rw [if_neg hA] at hds
      by_cases hB : E ≠ 4 ∨ first ≠ 2047
      · rw [if_pos hB] at hds
        subst hds
        clear hlst
        have hcs : (E = 0 ∧ (((pl : Nat) : Int) == ((part.size : Nat) : Int)) = false) ∨ E = 6 ∨ (E = 4 ∧ first ≠ 2047) := by
          rcases hEE with h | h | h
          · exact .inl ⟨h, by have : pl ≠ part.size := fun e => hA ⟨h, e⟩
                              simp; omega⟩
          · exact .inr (.inr ⟨h, by omega⟩)
          · exact .inr (.inl h)
        clear hA hB hEE
        have hfin : ∀ V : World, Gd sb Bo w0 (dmC (D.put k { x with bg := false, pt := ⟨#[]⟩ })) #[.int .i64 crf, .int .i64 ch, .int .i64 mst, .int .i64 cnt, .int .i64 ((first : Nat) : Int), .string data, wd] a0 a1 a2 a3 (.slice none 0 0) (.int .i64 (((br : Nat) : Int) + 1)) a6 [] V → ∀ u3 u4 u5 u6 u9 u10 u11 u12 u13 u14 u15 u16 u17 u18 u19 u20 u21 u22 u23 u24 u25 u26 u27 u28 u29 u30 u31 u32 u33 u34 u35 u36 u37 u38 u39 u40 u41 u42 u43 u44 u45 u46 u47 u48 u49 u50 u51 u52 u53 u54 u55 u56 u57 u58 u59 u60 u61 u62 u63 u64 u65 u66 u67 u68 u69 u70 u71 u72 u73 u74 u75 u76 u77 u78 u79 u80 u81 u82 u83 u84 u85 u86 u87 u88 u89 u90 u91 u92 u93 u94 u95 u96 u97 u98 u99 u100 u101 u102 u103 u104 u105 u106 u107 u108 u109 u110 u111 u112 u113 u114 u115 u116 u117 u118 u119 u120 u121 u122 u123 u124 u125 u126 u127 u128 u129 u130 u131 u132 u133 u134 u135 u136 u137 : Value,  K ⟨#[.pointer (some ⟨sb, 0, none⟩), .pointer (some ⟨sb, 4 + k * 5, none⟩), .pointer (some ⟨Bo, 0, none⟩), u3, u4, u5, u6, .pointer (some ⟨w0.heap.size, 0, none⟩), .int .i64 ((mn : Nat) : Int), u9, u10, u11, u12, u13, u14, u15, u16, u17, u18, u19, u20, u21, u22, u23, u24, u25, u26, u27, u28, u29, u30, u31, u32, u33, u34, u35, u36, u37, u38, u39, u40, u41, u42, u43, u44, u45, u46, u47, u48, u49, u50, u51, u52, u53, u54, u55, u56, u57, u58, u59, u60, u61, u62, u63, u64, u65, u66, u67, u68, u69, u70, u71, u72, u73, u74, u75, u76, u77, u78, u79, u80, u81, u82, u83, u84, u85, u86, u87, u88, u89, u90, u91, u92, u93, u94, u95, u96, u97, u98, u99, u100, u101, u102, u103, u104, u105, u106, u107, u108, u109, u110, u111, u112, u113, u114, u115, u116, u117, u118, u119, u120, u121, u122, u123, u124, u125, u126, u127, u128, u129, u130, u131, u132, u133, u134, u135, u136, u137], []⟩ V := fun V hV u3 u4 u5 u6 u9 u10 u11 u12 u13 u14 u15 u16 u17 u18 u19 u20 u21 u22 u23 u24 u25 u26 u27 u28 u29 u30 u31 u32 u33 u34 u35 u36 u37 u38 u39 u40 u41 u42 u43 u44 u45 u46 u47 u48 u49 u50 u51 u52 u53 u54 u55 u56 u57 u58 u59 u60 u61 u62 u63 u64 u65 u66 u67 u68 u69 u70 u71 u72 u73 u74 u75 u76 u77 u78 u79 u80 u81 u82 u83 u84 u85 u86 u87 u88 u89 u90 u91 u92 u93 u94 u95 u96 u97 u98 u99 u100 u101 u102 u103 u104 u105 u106 u107 u108 u109 u110 u111 u112 u113 u114 u115 u116 u117 u118 u119 u120 u121 u122 u123 u124 u125 u126 u127 u128 u129 u130 u131 u132 u133 u134 u135 u136 u137 => HR.out _ V (by
          rw [show nrm ({ x with bg := false, pt := part } : Sk) = { x with bg := false, pt := ⟨#[]⟩ } from nrm_no rfl, show (((br + 1 : Nat) : Nat) : Int) = ((br : Nat) : Int) + 1 from by push_cast; rfl]
          exact hV) (by show br + 1 ≤ 2; omega) (by simp) u3 u4 u5 u6 u9 u10 u11 u12 u13 u14 u15 u16 u17 u18 u19 u20 u21 u22 u23 u24 u25 u26 u27 u28 u29 u30 u31 u32 u33 u34 u35 u36 u37 u38 u39 u40 u41 u42 u43 u44 u45 u46 u47 u48 u49 u50 u51 u52 u53 u54 u55 u56 u57 u58 u59 u60 u61 u62 u63 u64 u65 u66 u67 u68 u69 u70 u71 u72 u73 u74 u75 u76 u77 u78 u79 u80 u81 u82 u83 u84 u85 u86 u87 u88 u89 u90 u91 u92 u93 u94 u95 u96 u97 u98 u99 u100 u101 u102 u103 u104 u105 u106 u107 u108 u109 u110 u111 u112 u113 u114 u115 u116 u117 u118 u119 u120 u121 u122 u123 u124 u125 u126 u127 u128 u129 u130 u131 u132 u133 u134 u135 u136 u137
        have HFI := Lib.hid hfin
        clear hfin HR
        have hmem : ∀ V : World, Gd sb Bo w0 (dmC (D.put k { x with pt := part })) #[.int .i64 crf, .int .i64 ch, .int .i64 mst, .int .i64 cnt, .int .i64 ((first : Nat) : Int), .string data, wd] a0 a1 a2 a3 (.slice none 0 0) (.int .i64 ((br : Nat) : Int)) a6 [] V → Gd sb Bo w0 (dmC (D.put k { x with bg := false, pt := ⟨#[]⟩ })) #[.int .i64 crf, .int .i64 ch, .int .i64 mst, .int .i64 cnt, .int .i64 ((first : Nat) : Int), .string data, wd] a0 a1 a2 a3 (.slice none 0 0) (.int .i64 (((br : Nat) : Int) + 1)) a6 [] (((V.setCell ⟨Bo, 5, none⟩ (.int .i64 (((br : Nat) : Int) + 1))).setCell ⟨sb, 4 + k * 5 + 3, none⟩ (.bool false)).setCell ⟨sb, 4 + k * 5 + 4, none⟩ (.string ⟨#[]⟩)) := fun V h => by
          have h6 := ((h.set5 (.int .i64 (((br : Nat) : Int) + 1))).setS (4 + k * 5 + 3) (.bool false)).setS (4 + k * 5 + 4) (.string ⟨#[]⟩)
          rw [put3 D hk, put4 D hk] at h6
          exact h6
        have HME := Lib.hid hmem
        clear hmem
        have hsb3 := h2.n3
        have hsb3' : Bo ≠ sb := fun e => hsb3 e.symm
        rcases hcs with ⟨rfl, hpb⟩ | rfl | ⟨rfl, hne⟩
        · rcases hfb with ⟨hfb, hff⟩ | ⟨hfb, hff⟩
          all_goals
            clear hff
            go_wp2_with (go_at_call 63; refine ht.mono ?_; clear ht; rintro e W3 ⟨rfl, b3⟩; have h3 := h2.below (b3.alloc b3.size (.cells #[.bool (Pkt.pC part), .int .i64 ((Pkt.pA part : Nat) : Int), .int .i64 ((Pkt.pF part : Nat) : Int), .int .i64 ((Pkt.pN part : Nat) : Int), .string (Pkt.pD part)] 110)); obtain ⟨V4, hV4⟩ : ∃ V, W3.alloc (.cells #[.bool (Pkt.pC part), .int .i64 ((Pkt.pA part : Nat) : Int), .int .i64 ((Pkt.pF part : Nat) : Int), .int .i64 ((Pkt.pN part : Nat) : Int), .string (Pkt.pD part)] 110) = V := ⟨_, rfl⟩; rw [hV4] at h3; have f4 : V4.cell? ⟨w0.heap.size, 4, none⟩ = some (.int .i64 ((first : Nat) : Int)) := cell_of h3.f; obtain ⟨y3, y4⟩ := gsk hk h3.sk; have zs := h3.cells.2.2.2.1; have g5 := h3.cells.2.2.1; have zo := h3.cells.2.2.2.2; clear h2 x3 x4 f5 zs0)
            exact HFI.out _ (HME.out _ h3) _ _ _ _ _ _ _ _ _ _ _ _ _ _ _ _ _ _ _ _ _ _ _ _ _ _ _ _ _ _ _ _ _ _ _ _ _ _ _ _ _ _ _ _ _ _ _ _ _ _ _ _ _ _ _ _ _ _ _ _ _ _ _ _ _ _ _ _ _ _ _ _ _ _ _ _ _ _ _ _ _ _ _ _ _ _ _ _ _ _ _ _ _ _ _ _ _ _ _ _ _ _ _ _ _ _ _ _ _ _ _ _ _ _ _ _ _ _ _ _ _ _ _ _ _ _ _ _ _ _ _ _ _
        · rcases hfb with ⟨hfb, hff⟩ | ⟨hfb, hff⟩
          all_goals
            clear hff
            go_wp2_with (go_at_call 63; refine ht.mono ?_; clear ht; rintro e W3 ⟨rfl, b3⟩; have h3 := h2.below (b3.alloc b3.size (.cells #[.bool (Pkt.pC part), .int .i64 ((Pkt.pA part : Nat) : Int), .int .i64 ((Pkt.pF part : Nat) : Int), .int .i64 ((Pkt.pN part : Nat) : Int), .string (Pkt.pD part)] 110)); obtain ⟨V4, hV4⟩ : ∃ V, W3.alloc (.cells #[.bool (Pkt.pC part), .int .i64 ((Pkt.pA part : Nat) : Int), .int .i64 ((Pkt.pF part : Nat) : Int), .int .i64 ((Pkt.pN part : Nat) : Int), .string (Pkt.pD part)] 110) = V := ⟨_, rfl⟩; rw [hV4] at h3; have f4 : V4.cell? ⟨w0.heap.size, 4, none⟩ = some (.int .i64 ((first : Nat) : Int)) := cell_of h3.f; obtain ⟨y3, y4⟩ := gsk hk h3.sk; have zs := h3.cells.2.2.2.1; have g5 := h3.cells.2.2.1; have zo := h3.cells.2.2.2.2; clear h2 x3 x4 f5 zs0)
            exact HFI.out _ (HME.out _ h3) _ _ _ _ _ _ _ _ _ _ _ _ _ _ _ _ _ _ _ _ _ _ _ _ _ _ _ _ _ _ _ _ _ _ _ _ _ _ _ _ _ _ _ _ _ _ _ _ _ _ _ _ _ _ _ _ _ _ _ _ _ _ _ _ _ _ _ _ _ _ _ _ _ _ _ _ _ _ _ _ _ _ _ _ _ _ _ _ _ _ _ _ _ _ _ _ _ _ _ _ _ _ _ _ _ _ _ _ _ _ _ _ _ _ _ _ _ _ _ _ _ _ _ _ _ _ _ _ _ _ _ _ _
        · have hfb2 : (((first : Nat) : Int) == 2047) = false := by simp; omega
          clear hfb hne
          go_wp2_with (go_at_call 63; refine ht.mono ?_; clear ht; rintro e W3 ⟨rfl, b3⟩; have h3 := h2.below (b3.alloc b3.size (.cells #[.bool (Pkt.pC part), .int .i64 ((Pkt.pA part : Nat) : Int), .int .i64 ((Pkt.pF part : Nat) : Int), .int .i64 ((Pkt.pN part : Nat) : Int), .string (Pkt.pD part)] 110)); obtain ⟨V4, hV4⟩ : ∃ V, W3.alloc (.cells #[.bool (Pkt.pC part), .int .i64 ((Pkt.pA part : Nat) : Int), .int .i64 ((Pkt.pF part : Nat) : Int), .int .i64 ((Pkt.pN part : Nat) : Int), .string (Pkt.pD part)] 110) = V := ⟨_, rfl⟩; rw [hV4] at h3; have f4 : V4.cell? ⟨w0.heap.size, 4, none⟩ = some (.int .i64 ((first : Nat) : Int)) := cell_of h3.f; obtain ⟨y3, y4⟩ := gsk hk h3.sk; have zs := h3.cells.2.2.2.1; have g5 := h3.cells.2.2.1; have zo := h3.cells.2.2.2.2; clear h2 x3 x4 f5 zs0)
          exact HFI.out _ (HME.out _ h3) _ _ _ _ _ _ _ _ _ _ _ _ _ _ _ _ _ _ _ _ _ _ _ _ _ _ _ _ _ _ _ _ _ _ _ _ _ _ _ _ _ _ _ _ _ _ _ _ _ _ _ _ _ _ _ _ _ _ _ _ _ _ _ _ _ _ _ _ _ _ _ _ _ _ _ _ _ _ _ _ _ _ _ _ _ _ _ _ _ _ _ _ _ _ _ _ _ _ _ _ _ _ _ _ _ _ _ _ _ _ _ _ _ _ _ _ _ _ _ _ _ _ _ _ _ _ _ _ _ _ _ _ _
      · rw [if_neg hB] at hds
        subst hds
        have h4 : E = 4 := by omega
        have hff : (((first : Nat) : Int) == 2047) = true := by simp; omega
        subst h4
        clear hlst hEE hA hB hfb
        go_wp2_with (go_at_call 63; refine ht.mono ?_; clear ht; rintro e W3 ⟨rfl, b3⟩; have h3 := h2.below (b3.alloc b3.size (.cells #[.bool (Pkt.pC part), .int .i64 ((Pkt.pA part : Nat) : Int), .int .i64 ((Pkt.pF part : Nat) : Int), .int .i64 ((Pkt.pN part : Nat) : Int), .string (Pkt.pD part)] 110)); obtain ⟨V4, hV4⟩ : ∃ V, W3.alloc (.cells #[.bool (Pkt.pC part), .int .i64 ((Pkt.pA part : Nat) : Int), .int .i64 ((Pkt.pF part : Nat) : Int), .int .i64 ((Pkt.pN part : Nat) : Int), .string (Pkt.pD part)] 110) = V := ⟨_, rfl⟩; rw [hV4] at h3; have f4 : V4.cell? ⟨w0.heap.size, 4, none⟩ = some (.int .i64 ((first : Nat) : Int)) := cell_of h3.f; obtain ⟨y3, y4⟩ := gsk hk h3.sk; have zs := h3.cells.2.2.2.1; have g5 := h3.cells.2.2.1; have zo := h3.cells.2.2.2.2; clear h2 x3 x4 f5 zs0)
        exact HR.out _ _ (by rw [show nrm ({ x with pt := part } : Sk) = { x with pt := part } from nrm_yes HG.out]; exact h3) (by show br ≤ 2; omega) (by simp) _ _ _ _ _ _ _ _ _ _ _ _ _ _ _ _ _ _ _ _ _ _ _ _ _ _ _ _ _ _ _ _ _ _ _ _ _ _ _ _ _ _ _ _ _ _ _ _ _ _ _ _ _ _ _ _ _ _ _ _ _ _ _ _ _ _ _ _ _ _ _ _ _ _ _ _ _ _ _ _ _ _ _ _ _ _ _ _ _ _ _ _ _ _ _ _ _ _ _ _ _ _ _ _ _ _ _ _ _ _ _ _ _ _ _ _ _ _ _ _ _ _ _ _ _ _ _ _ _ _ _ _ _
end Go.Am.Cha
