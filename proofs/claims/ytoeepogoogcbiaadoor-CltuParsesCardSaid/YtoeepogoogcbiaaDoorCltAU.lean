/-
  Cltu: CltuPortions, walked. Own work.
-/
import Derived.Test.YtoeepogoogcbiaaDoorCltAT
namespace Go.Am.Clt
open Go Go.Am Go.Am.Lib Go.Lib Go.Proofs Go.RowKit
set_option maxRecDepth 100000

theorem Por.below {W0 : World} {L : List ByteArray} {bg : Bool} {b1 b2 : Nat} {vw pv : Value} {pre : List UInt8} {wr w' : World} (h : Por W0 L bg b1 b2 vw pre pv wr) (hb : Below wr.heap.size wr w') : Por W0 L bg b1 b2 vw pre pv w' := by
  obtain ⟨S2, hP2, hW, hb1, hvw, hpv⟩ := h.p2
  have hb1lt := h.p1.lt
  obtain ⟨S3, hP3, hS3⟩ := hP2.shrink (w' := w') (fun k _ hlt => hb.block k hlt)
  refine { fr := h.fr.trans (hb.mono h.fr.size), whole := ownsRow_keep h.whole fun k hk => hb.block k (h.whole.lt k hk).2, p1 := ?_, p2 := ⟨S3, hP3, ?_, ?_, ?_, ?_⟩, parts := ownsRow_keep h.parts fun k hk => hb.block k (h.parts.lt k hk).2, dis := h.dis }
  · obtain ⟨f, kn, la, v1, v2, v3, hc⟩ := h.p1
    exact ⟨f, kn, la, v1, v2, v3, (hb.block b1 hb1lt).trans hc⟩
  · intro k hk hs
    exact hW k hk (hS3 k (by have := hb.size; have := h.fr.size; omega) hs).1
  · intro hs
    exact hb1 (hS3 b1 (by have := hb.size; omega) hs).1
  · intro k hk hs
    exact hvw k hk (hS3 k (by have := hb.size; have := (h.whole.lt k hk).2; omega) hs).1
  · intro k hk hs
    exact hpv k hk (hS3 k (by have := hb.size; have := (h.parts.lt k hk).2; omega) hs).1
theorem pick_at {W0 : World} (hG : GOk G0 W0) {w : World} (hold : Below W0.heap.size W0 w) (n m : Int) (h0 : 0 < m) (h1 : m < 2 ^ 62) : Calls Tryd.prog 16 #[.int .i64 n, .int .i64 m] w fun e w' => e = .returned (.int .i64 (n % m)) ∧ Below w.heap.size w w' :=
  calls_flat okPck hG (fun k hk => hold.block k hk) hold.size (args := [.int .i64 n, .int .i64 m]) rfl (v := .int .i64 (n % m)) rfl ⟨h0, h1, fun x hx => by rw [hx]; exact ⟨rfl, rfl⟩⟩
theorem cut_h {t u : ByteArray} {k : Nat} (hu : t.extract 0 k = u) (hk : k ≤ t.size) : ∀ wx : World, (Instr.slice 9 (.string t) none (some (.int .i64 (k : Nat))) none).run Tryd.prog wx = .ok (.string u) wx := by
  intro wx
  have := run_slice_string_h (P := Tryd.prog) wx 9 t Tryd.underlying9 .i64 (k : Nat) (by omega) (by omega)
  rw [Int.toNat_natCast, hu] at this
  exact this
theorem cut_l {t u : ByteArray} {k : Nat} (hu : t.extract k t.size = u) (hk : k ≤ t.size) : ∀ wx : World, (Instr.slice 9 (.string t) (some (.int .i64 (k : Nat))) none none).run Tryd.prog wx = .ok (.string u) wx := by
  intro wx
  have := run_slice_string_l (P := Tryd.prog) wx 9 t Tryd.underlying9 .i64 (k : Nat) (by omega) (by omega)
  rw [Int.toNat_natCast, hu] at this
  exact this
theorem cut_both (t : ByteArray) (k : Nat) : (t.extract 0 k).data.toList ++ (t.extract k t.size).data.toList = t.data.toList := by
  have hl : t.data.toList.length = t.size := size_list t
  rw [ByteArray.data_extract, ByteArray.data_extract, Array.toList_extract, Array.toList_extract, List.extract_eq_take_drop, List.extract_eq_take_drop, List.drop_zero, Nat.sub_zero]
  rw [List.take_of_length_le (l := List.drop k t.data.toList) (by rw [List.length_drop, hl]; exact Nat.le_refl _)]
  exact List.take_append_drop k _
set_option maxHeartbeats 3200000 in
theorem portions_walk {W0 : World} (hG : GOk G0 W0) (s : ByteArray) (ao : Option Addr) (n cap : Nat) (zs : List Int) (hs : s.size < 2 ^ 62)
    (hcs : ∀ i, i < n → ∃ a, ao = some a ∧ W0.cell? (a.add i) = some (.int .i64 (zs.getD i 0)) ∧ (a.add i).block < W0.heap.size) :
    Calls Tryd.prog 7 #[.string s, .slice ao n cap] W0 fun e w' => e = .returned (.bool true) ∧ Below W0.heap.size W0 w' := by
  have cS := shown_from hG (w := W0) (fun _ _ => rfl) (Nat.le_refl _)
  obtain ⟨j0, hj, hy0, hy1, hy2⟩ := info9
  by_cases hbig : 5000 < s.size
  · have hd : 5000 < ((s.size : Nat) : Int) := by omega
    go_enter Tryd.func7, Tryd.ntmps7
    go_wp2_with (go_at_call 9; refine (cS _ (Below.refl _ _)).mono ?_)
    first | rintro e W1 rfl g1 | rintro e W1 ⟨rfl, g1⟩
    go_wp2
    go_ret
    exact ⟨rfl, g1⟩
  have hd : ¬ 5000 < ((s.size : Nat) : Int) := by omega
  by_cases hbig2 : 100 < n
  · have hd2 : 100 < ((n : Nat) : Int) := by omega
    go_enter Tryd.func7, Tryd.ntmps7
    go_wp2_with (go_at_call 9; refine (cS _ (Below.refl _ _)).mono ?_)
    first | rintro e W1 rfl g1 | rintro e W1 ⟨rfl, g1⟩
    go_wp2
    go_ret
    exact ⟨rfl, g1⟩
  have hd2 : ¬ 100 < ((n : Nat) : Int) := by omega
  obtain ⟨L, hL⟩ : ∃ L, (feedP ps0 s.data.toList).found = L := ⟨_, rfl⟩
  obtain ⟨bg, hbg⟩ : ∃ bg, (feedP ps0 s.data.toList).begun = bg := ⟨_, rfl⟩
  have hLl : L.length ≤ 5000 := by
    have := (ok_feed s.data.toList ok_ps0).found
    rw [hL, size_list] at this
    omega
  go_enter Tryd.func7, Tryd.ntmps7
  go_wp2_with (go_at_call 9; refine (cS _ (Below.refl _ _)).mono ?_)
  first | rintro e W1 rfl g1 | rintro e W1 ⟨rfl, g1⟩
  go_wp2_with (go_at_call 18; refine (new_at W1).mono ?_)
  rintro e W2 ⟨b1, rfl, z1, g2, z2, c1⟩
  go_wp2_with (go_at_call 18; refine (new_at W2).mono ?_)
  rintro e W3 ⟨b2, rfl, z3, g3, z4, c2⟩
  have c1' : W3.heap[b1]? = _ := (g3.block b1 (by have h := z2.out; omega)).trans c1
  have g3' : Below W0.heap.size W0 W3 := g1.trans ((g2.mono g1.size).trans (g3.mono (by have := g1.size; have := g2.size; omega)))
  have hP : PAt (fun k => k = b1 ∨ W3.heap.size ≤ k) b1 ps0 W3 := PAt.new (fun k hk => Or.inr hk) (Or.inl rfl) c1'
  have hb10 : W0.heap.size ≤ b1 := by have h := z1.out; have := g1.size; omega
  have hb12 : b1 < b2 := by have h := z2.out; have h' := z3.out; omega
  have hF1 := feed_walk hG s hP ok_ps0 (by omega) (fun k hk hq => by have := g3'.size; rcases hq with e | e <;> omega) (fun k hk => g3'.block k hk)
  rw [hL] at hF1
  go_wp2_with (go_at_call 19; refine hF1.mono ?_)
  rintro e W4 ⟨vw, rfl, hw4, hF4, S1, hP1, hS1, hv1⟩
  have c2' : W4.heap[b2]? = _ := (hF4.block b2 (by rintro (e | e); omega; have h := z3.out; have h' := z4.out; omega)).trans c2
  have hP2 : PAt (fun k => k = b2 ∨ W4.heap.size ≤ k) b2 ps0 W4 := PAt.new (fun k hk => Or.inr hk) (Or.inl rfl) c2'
  have hpor : Por W0 L bg b1 b2 vw [] (.slice none 0 0) W4 := by
    refine { fr := g3'.trans (hF4.below fun k hk hq => ?_), whole := hw4, p1 := ?_, p2 := ⟨_, hP2, ?_, ?_, ?_, ?_⟩, parts := World.ownsRow_nil _ _ _ _, dis := fun k hk => by cases hk }
    · have := g3'.size; rcases hq with e | e <;> omega
    · rw [← hbg]; exact hP1.lk
    · intro k hk hq
      have := g3'.size; have := hF4.size; rcases hq with e | e <;> omega
    · rintro (e | e)
      · omega
      · have := hP1.bound; omega
    · intro k hk hq
      rcases hq with e | e
      · exact ownsRow_neb hw4 c2' (by decide) (by rw [hk, e])
      · have := (hw4.lt k hk).2; omega
    · intro k hk; cases hk
  obtain ⟨D, hD⟩ : ∃ D, s.data.toList = D := ⟨_, rfl⟩
  rw [hD] at hL hbg
  have hp0 : Hid (([] : List UInt8) ++ s.data.toList = D) := hD
  have hDl : D.length ≤ 5000 := by rw [← hD, size_list]; omega
  have HL : Hid ((feedP ps0 D).found = L) := hL
  have HB : Hid ((feedP ps0 D).begun = bg) := hbg
  clear hF1 hw4 hF4 hP1 hS1 hv1 c2' hP2 c1 c1' c2 hP g1 g2 g3 g3' z1 z2 z3 z4 hL hbg hD
  go_wp2
  go_loopw [0, 8, 9] (fun tv pv iv wr => ∃ (t : ByteArray) (pre : List UInt8) (i : Nat) (pw : Value), tv = .string t ∧ iv = .int .i64 (i : Nat) ∧ pw = pv ∧ i ≤ n ∧ Hid (pre ++ t.data.toList = D) ∧ Por W0 L bg b1 b2 vw pre pw wr)
    (fun _ _ iv _ => n - iOf iv)
  case atStart => exact ⟨s, [], 0, _, rfl, rfl, rfl, Nat.zero_le _, hp0, hpor⟩
  case round =>
    obtain ⟨t, pre, i, pv, rfl, rfl, rfl, hi, hpt, hpor⟩ := hrel
    clear hp0
    have hlen : pre.length + t.size ≤ 5000 := by
      have := congrArg List.length hpt.out
      rw [List.length_append, size_list] at this
      omega
    have hfl : (feedP ps0 pre).found.length ≤ 5000 := by
      have := (ok_feed pre ok_ps0).found
      omega
    rcases Nat.lt_or_ge i n with hlt | hge
    · have hlt' : ((i : Nat) : Int) < ((n : Nat) : Int) := by omega
      obtain ⟨a, rfl, ha1, ha2⟩ := hcs i hlt
      have hca : wr.cell? (a.add i) = some (.int .i64 (zs.getD i 0)) := (World.cell?_of_block (hpor.fr.block _ ha2)).trans ha1
      obtain ⟨k, hk⟩ := nat_of (n := zs.getD i 0 % (((t.size : Nat) : Int) + 1)) (Int.emod_nonneg _ (by omega))
      have hkt : k ≤ t.size := by
        have := Int.emod_lt_of_pos (zs.getD i 0) (show (0 : Int) < ((t.size : Nat) : Int) + 1 by omega)
        omega
      have cP := pick_at hG hpor.fr (zs.getD i 0) (((t.size : Nat) : Int) + 1) (by omega) (by omega)
      rw [hk] at cP
      obtain ⟨z, hz⟩ : ∃ z, zs.getD i 0 = z := ⟨_, rfl⟩
      rw [hz] at cP hca
      obtain ⟨u, hu⟩ : ∃ u, t.extract 0 k = u := ⟨_, rfl⟩
      obtain ⟨r, hr⟩ : ∃ r, t.extract k t.size = r := ⟨_, rfl⟩
      have s1 := cut_h hu hkt
      have s2 := cut_l hr hkt
      have hur : u.data.toList ++ r.data.toList = t.data.toList := by rw [← hu, ← hr]; exact cut_both t k
      have hul : u.size + r.size = t.size := by
        have := congrArg List.length hur
        rw [List.length_append, size_list, size_list, size_list] at this
        exact this
      have hpt2 : Hid ((pre ++ u.data.toList) ++ r.data.toList = D) := by
        have := hpt.out
        rw [← hur] at this
        exact (List.append_assoc _ _ _).trans this
      have hr' : Hid (t.extract k t.size = r) := hr
      clear hu hr hk ha1 ha2 hz hpt hcs hur
      go_wp2_with (go_at_call 16; refine cP.mono ?_)
      rintro e W5 ⟨rfl, b5⟩
      have hpor := hpor.below b5
      obtain ⟨S2, hP2, hW, hb1, hvw, hpv⟩ := hpor.p2
      have hok : OkP (clr (feedP ps0 pre)) 0 := ok_clr (ok_feed pre ok_ps0)
      have hF := feed_walk hG u hP2 hok (by omega) hW (fun k hk => hpor.fr.block k hk)
      have hgl : (feedP (clr (feedP ps0 pre)) u.data.toList).found.length ≤ 5000 := by
        have := (ok_feed u.data.toList hok).found
        rw [size_list] at this
        omega
      clear s2
      go_wp2_with (go_at_call 19; refine hF.mono ?_)
      first | rintro e W6 v2 rfl hv2 hF6 S6 hP6 hS6 _ | rintro e W6 ⟨v2, rfl, hv2, hF6, S6, hP6, hS6, _⟩
      have hparts : W6.ownsRow W0.heap.size 9 1 pv (feedP ps0 pre).found.length ((feedP ps0 pre).found.map .string) := ownsRow_keep hpor.parts fun k hk => hF6.block k (hpv k hk)
      go_wp2_with (at_builtin; refine wpList_append_rows rfl _ _ 33 rfl W0.heap.size 0 9 j0 (.string ⟨#[]⟩) 16 Tryd.underlying33 hj hy0 hy1 hy2 rfl pv _ _ rfl hparts v2 _ _ rfl hv2 (strs_one _) (by unfold maxLen; omega) (by omega) (by have := hpor.fr.size; have := hF6.size; omega) ?_)
      intro v3 w7 hown7 hgrow7 hwh7
      have hnext := hpor.next hW hb1 hvw hpv hF6 hP6 hS6 hown7 hgrow7 hwh7
      have s2 := cut_l (t := t) (u := r) (k := k) hr'.out hkt
      clear hown7 hgrow7 hwh7 hparts hF6 hP6 hS6 hv2 hpor hF hP2 hW hb1 hvw hpv s1 hca
      go_wp2
      exact ⟨⟨r, _, i + 1, v3, rfl, by push_cast; rfl, rfl, hlt, hpt2, hnext⟩, by show n - (i + 1) < n - i; omega⟩
    · have hge' : ¬ ((i : Nat) : Int) < ((n : Nat) : Int) := by omega
      obtain ⟨S2, hP2, hW, hb1, hvw, hpv⟩ := hpor.p2
      have hok : OkP (clr (feedP ps0 pre)) 0 := ok_clr (ok_feed pre ok_ps0)
      have hF := feed_walk hG t hP2 hok (by omega) hW (fun k hk => hpor.fr.block k hk)
      have hgl : (feedP (clr (feedP ps0 pre)) t.data.toList).found.length ≤ 5000 := by
        have := (ok_feed t.data.toList hok).found
        rw [size_list] at this
        omega
      clear hcs
      go_wp2_with (go_at_call 19; refine hF.mono ?_)
      first | rintro e W6 v2 rfl hv2 hF6 S6 hP6 hS6 _ | rintro e W6 ⟨v2, rfl, hv2, hF6, S6, hP6, hS6, _⟩
      have hparts : W6.ownsRow W0.heap.size 9 1 pv (feedP ps0 pre).found.length ((feedP ps0 pre).found.map .string) := ownsRow_keep hpor.parts fun k hk => hF6.block k (hpv k hk)
      go_wp2_with (at_builtin; refine wpList_append_rows rfl _ _ 33 rfl W0.heap.size 0 9 j0 (.string ⟨#[]⟩) 16 Tryd.underlying33 hj hy0 hy1 hy2 rfl pv _ _ rfl hparts v2 _ _ rfl hv2 (strs_one _) (by unfold maxLen; omega) (by omega) (by have := hpor.fr.size; have := hF6.size; omega) ?_)
      intro v3 w7 hown7 hgrow7 hwh7
      have hnext := hpor.next hW hb1 hvw hpv hF6 hP6 hS6 hown7 hgrow7 hwh7
      have hD := hpt.out
      have hn2 : Por W0 L bg b1 b2 vw D v3 w7 := by rw [← hD]; exact hnext
      have hLo := HL.out
      have hBo := HB.out
      clear hown7 hgrow7 hwh7 hparts hF6 hP6 hS6 hv2 hpor hF hP2 hW hb1 hvw hpv hnext hD hgl hfl hok
      have hpa := hn2.parts
      rw [hLo] at hpa
      have hsm := same_walk hn2.whole (ownsRow_up hpa (Nat.zero_le _)) (by omega)
      obtain ⟨S3, hP3, _⟩ := hn2.p2
      have hlq := hP3.lk
      have hlq' : Lk b2 bg w7 := by rw [← hBo]; exact hlq
      have hlp := hn2.p1
      have hfr := hn2.fr
      clear hn2 hP3 hlq hpa hLo hBo
      go_wp2_with (go_at_call 21; refine hsm.mono ?_)
      first | rintro e W8 rfl hH | rintro e W8 ⟨rfl, hH⟩
      have hlp' : Lk b1 bg W8 := by
        obtain ⟨f, kn, la, u1, u2, u3, hc⟩ := hlp
        exact ⟨f, kn, la, u1, u2, u3, by rw [hH.heap]; exact hc⟩
      have hlq2 : Lk b2 bg W8 := by
        obtain ⟨f, kn, la, u1, u2, u3, hc⟩ := hlq'
        exact ⟨f, kn, la, u1, u2, u3, by rw [hH.heap]; exact hc⟩
      go_wp2_with (go_at_call 20; refine hlp'.calls.mono ?_)
      rintro e W9 ⟨rfl, rfl⟩
      go_wp2_with (go_at_call 20; refine hlq2.calls.mono ?_)
      rintro e W10 ⟨rfl, rfl⟩
      go_wp2
      go_ret
      exact ⟨by simp, hfr.trans (hH.below _)⟩
end Go.Am.Clt
