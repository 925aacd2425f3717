/-
  Cltu: the reference's Feed, walked. Own work.
-/
import Derived.Test.YtoeepogoogcbiaaDoorCltCC
import Derived.Test.YtoeepogoogcbiaaDoorCltBC
namespace Go.Am.Clt
open Go Go.Am Go.Am.Lib Go.Lib Go.Proofs Go.RowKit
set_option maxRecDepth 100000

theorem rcells {R : Nat} {bg has : Bool} {d bl : ByteArray} {la : UInt8} {w : World} (h : RAt R ⟨bg, d, bl, has, la⟩ w) : w.heap[R]? = some (.cells #[.bool bg, .string d, .string bl, .bool has, .int .u8 (la.toNat : Int)] 45 (0, 0)) := h
theorem cut_1 {U q : ByteArray} {k : Nat} (hq : U.extract k (k + 1) = q) (hk : k + 1 ≤ U.size) : ∀ wx : World, (Instr.slice 9 (.string U) (some (.int .i64 ((k : Nat) : Int))) (some (.int .i64 (((k : Nat) : Int) + 1))) none).run Tryd.prog wx = .ok (.string q) wx := by
  intro wx
  have ei : (((k : Nat) : Int) + 1).toNat = k + 1 := by omega
  have hi0 : (0 : Int) ≤ ((k : Nat) : Int) := by omega
  have hi7 : ((k : Nat) : Int) ≤ ((k : Nat) : Int) + 1 := by omega
  have hi8 : ((k : Nat) : Int) + 1 ≤ ((U.size : Nat) : Int) := by omega
  rw [← hq]
  simp [Instr.slice, run_underlying Tryd.underlying9, Instr.sliceBounds, run_sliceBound, ei, hi0, hi7, hi8, (by omega : (0 : Int) ≤ ((k : Nat) : Int) + 1)]
set_option maxHeartbeats 3200000 in
theorem rfeed_walk {W0 : World} (hG : GOk G0 W0) {w : World} (hold : Below W0.heap.size W0 w) {R : Nat} (hR : W0.heap.size ≤ R) {p : PS} {r : RS} (s : ByteArray) (hr : RAt R r w) (hsim : Sim13 p r) (hok : OkP p 0) (hf : p.found = []) (hs : s.size < 2 ^ 30) :
    Calls Tryd.prog 23 #[.pointer (some ⟨R, 0, none⟩), .string s] w fun e w' => ∃ v, e = .returned v ∧ ∃ r', RI w R r' v (feedP p s.data.toList).found w' ∧ Sim13 (feedP p s.data.toList) r' := by
  obtain ⟨j0, hj, hy0, hy1, hy2⟩ := info9
  go_enter Tryd.func23, Tryd.ntmps23
  go_wp2
  go_loopw [5, 6] (fun ov iv wr => ∃ (i : Nat) (ow : Value) (r1 : RS), iv = .int .i64 (i : Nat) ∧ ow = ov ∧ i ≤ s.size ∧ Hid (Sim13 (feedP p (s.data.toList.take i)) r1) ∧ RI w R r1 ow (feedP p (s.data.toList.take i)).found wr)
    (fun _ iv _ => s.size - iOf iv)
  case atStart => exact ⟨0, _, r, rfl, rfl, Nat.zero_le _, hsim, { fr := FrS.refl _ _, at' := hr, row := by show w.ownsRow _ _ _ _ p.found.length (p.found.map .string); rw [hf]; exact World.ownsRow_nil _ _ _ _ }⟩
  case round =>
    obtain ⟨i, ov, r1, rfl, rfl, hi, hS1, hI⟩ := hrel
    rcases Nat.lt_or_ge i s.size with hlt | hge
    · have hlt' : ((i : Nat) : Int) < ((s.size : Nat) : Int) := by omega
      obtain ⟨q, hq⟩ : ∃ q, feedP p (s.data.toList.take i) = q := ⟨_, rfl⟩
      have hq2 : Hid (feedP p (s.data.toList.take (i + 1)) = stepP q s[i]) := by rw [← hq]; exact feed_snoc p s hlt
      have hokq : OkP q i := by
        have := ok_feed (s.data.toList.take i) hok
        rw [hq, List.length_take, size_list] at this
        exact ⟨this.block, this.data, by have := this.found; omega⟩
      rw [hq] at hS1 hI
      clear hq
      have hfw := hI.old hold hR
      obtain ⟨bg, d, bl, has, la⟩ := r1
      have hR1 := rcells hI.at'
      have c0 : wr.cell? ⟨R, 0, none⟩ = some (.bool bg) := cell_of hR1
      have c1 : wr.cell? ⟨R, 1, none⟩ = some (.string d) := cell_of hR1
      have c2 : wr.cell? ⟨R, 2, none⟩ = some (.string bl) := cell_of hR1
      have c3 : wr.cell? ⟨R, 3, none⟩ = some (.bool has) := cell_of hR1
      have c4 : wr.cell? ⟨R, 4, none⟩ = some (.int .u8 (la.toNat : Int)) := cell_of hR1
      have fz := fz_of hR1
      cases bg with
      | false =>
        cases has with
        | false =>
          have hst := sim_no s[i] hS1.out rfl
          have hst' : Hid (Sim13 (stepP q s[i]) ⟨false, d, bl, true, s[i]⟩ ∧ (stepP q s[i]).found = q.found) := hst
          clear hst
          go_wp2
          go_region
          go_wp2
          go_region
          all_goals (
            go_wp2
            have ho : OnlyB R wr ((wr.setCell ⟨R, 3, none⟩ (.bool true)).setCell ⟨R, 4, none⟩ (.int .u8 (s[i].toNat : Int))) := ((OnlyB.refl R wr).setCell 3 _).setCell 4 _
            have hI2 := hI.only (r' := ⟨false, d, bl, true, s[i]⟩) ho (set_at (set_at hR1))
            have hst := hst'.out
            exact ⟨⟨i + 1, ov, _, by push_cast; rfl, rfl, hlt, by rw [hq2.out]; exact hst.1, by rw [hq2.out, hst.2]; exact hI2.drew.drew⟩, by show s.size - (i + 1) < s.size - i; omega⟩)
        | true =>
          have cN := near_walk hG (drewA hfw) la s[i]
          go_wp2
          go_region_with (go_at_call 36; refine cN.mono ?_; rintro e W3 ⟨rfl, b3⟩)
          all_goals (
            have hI3 := hI.drew.below b3
            have hR3 := rcells hI3.at'
            have k0 : W3.cell? ⟨R, 0, none⟩ = some (.bool false) := cell_of hR3
            have k1 : W3.cell? ⟨R, 1, none⟩ = some (.string d) := cell_of hR3
            have k2 : W3.cell? ⟨R, 2, none⟩ = some (.string bl) := cell_of hR3
            have k3 : W3.cell? ⟨R, 3, none⟩ = some (.bool true) := cell_of hR3
            have k4 : W3.cell? ⟨R, 4, none⟩ = some (.int .u8 (la.toNat : Int)) := cell_of hR3
            have kz := fz_of hR3
            by_cases hn : nearV la.toNat s[i].toNat = true
            · rw [hn]
              have hst' : Hid (_ ∧ _) := sim_begin s[i] hS1.out hn
              clear c0 c1 c2 c3 c4 fz cN b3 hI hR1
              go_wp2
              have hst := hst'.out
              have hI4 := hI3.only (r' := ⟨true, ⟨#[]⟩, ⟨#[]⟩, false, 0⟩) (((((((OnlyB.refl R W3).setCell 0 (.bool true)).setCell 1 (.string ⟨#[]⟩)).setCell 2 (.string ⟨#[]⟩)).setCell 3 (.bool false)).setCell 4 (.int .u8 0))) (set_at (set_at (set_at (set_at (set_at hR3)))))
              exact ⟨⟨i + 1, ov, _, by push_cast; rfl, rfl, hlt, by rw [hq2.out]; exact hst.1, by rw [hq2.out, hst.2]; exact hI4⟩, by show s.size - (i + 1) < s.size - i; omega⟩
            · have hn' : nearV la.toNat s[i].toNat = false := by simpa using hn
              rw [hn']
              have hst' : Hid (_ ∧ _) := sim_no s[i] hS1.out (by rw [hn']; rfl)
              clear c0 c1 c2 c3 c4 fz cN b3 hI hR1
              go_wp2
              go_region
              all_goals (
                go_wp2
                have hst := hst'.out
                have hI4 := hI3.only (r' := ⟨false, d, bl, true, s[i]⟩) (((OnlyB.refl R W3).setCell 3 (.bool true)).setCell 4 (.int .u8 (s[i].toNat : Int))) (set_at (set_at hR3))
                exact ⟨⟨i + 1, ov, _, by push_cast; rfl, rfl, hlt, by rw [hq2.out]; exact hst.1, by rw [hq2.out, hst.2]; exact hI4.drew⟩, by show s.size - (i + 1) < s.size - i; omega⟩)
            )
      | true =>
        obtain ⟨x, hx⟩ : ∃ x, s[i] = x := ⟨_, rfl⟩
        obtain ⟨one, hone⟩ : ∃ one, s.extract i (i + 1) = one := ⟨_, rfl⟩
        have h1s : one.size = 1 := by rw [← hone, ByteArray.size_extract]; omega
        have hsl := cut_1 hone (by omega)
        obtain ⟨b2, hb2⟩ : ∃ b2, bl ++ one = b2 := ⟨_, rfl⟩
        have hb2' : bl.push x = b2 := by
          rw [← hb2, ← hone, one_at hlt, hx]
          apply bytes_ext13
          rw [ByteArray.data_append, Array.toList_append, push_list]
        have hb2s : b2.size = bl.size + 1 := by rw [← hb2', ByteArray.size_push]
        have hq2' : Hid (feedP p (s.data.toList.take (i + 1)) = stepP q x) := by rw [← hx]; exact hq2
        have hblk : bl.size ≤ 7 ∧ d.size < 350 := by
          have ho := hS1.out.on hS1.out.begun.symm
          have h1 : d = q.data := ho.1
          have h2 : bl = q.block := ho.2
          rw [h1, h2]; exact ⟨hokq.block, hokq.data⟩
        have hsv : ¬ 9223372036854775807 < bl.size + one.size := by omega
        have hib : ((i : Nat) : Int) ≤ 1073741824 := by omega
        have HX : Hid (s[i] = x) := hx
        have HB : Hid (bl.push x = b2) := hb2'
        have HO : Hid (one.size = 1) := h1s
        have HS : Hid (b2.size = bl.size + 1) := hb2s
        clear hx hb2' hone h1s hb2s hq2
        go_wp2
        go_region
        have hI2 := (hI.only (r' := ⟨true, d, b2, has, la⟩) ((OnlyB.refl R wr).setCell 2 (.string b2)) (set_at hR1)).drew
        obtain ⟨Y, hY⟩ : ∃ Y, (wr.setCell ⟨R, 2, none⟩ (.string b2)).drew = Y := ⟨_, rfl⟩
        rw [hY] at hI2
        have hYR := rcells hI2.at'
        clear c0 c1 c2 c3 c4 fz hI hR1 hsl hfw
        have y0 : Y.cell? ⟨R, 0, none⟩ = some (.bool true) := cell_of hYR
        have y1 : Y.cell? ⟨R, 1, none⟩ = some (.string d) := cell_of hYR
        have y2 : Y.cell? ⟨R, 2, none⟩ = some (.string b2) := cell_of hYR
        have y3 : Y.cell? ⟨R, 3, none⟩ = some (.bool has) := cell_of hYR
        have y4 : Y.cell? ⟨R, 4, none⟩ = some (.int .u8 (la.toNat : Int)) := cell_of hYR
        have yz := fz_of hYR
        rw [hY]
        clear hY
        have hbs := HS.out
        rcases Nat.lt_or_ge bl.size 7 with h7 | h7
        · have hl8 : ((b2.size : Nat) : Int) < 8 := by omega
          have hst0 := sim_take x hS1.out h7
          rw [HB.out] at hst0
          have hst' : Hid (_ ∧ _) := hst0
          clear hst0 hbs
          go_wp2
          have hst := hst'.out
          exact ⟨⟨i + 1, _, _, by push_cast; rfl, rfl, hlt, by rw [hq2'.out]; exact hst.1, by rw [hq2'.out, hst.2]; exact hI2⟩, by show s.size - (i + 1) < s.size - i; omega⟩
        · have hb7 : bl.size = 7 := by omega
          have hl8 : ¬ ((b2.size : Nat) : Int) < 8 := by omega
          have cK := rchk_at hG (hI2.old hold hR) b2 (by omega)
          have hE := chkE_cases b2 (by omega)
          have hmore := sim_more x hS1.out hb7
          have hend := sim_end x hS1.out hb7
          rw [HB.out] at hmore hend
          obtain ⟨sv, hsv5⟩ : ∃ sv, chkS b2 = sv := ⟨_, rfl⟩
          obtain ⟨cw, hcw⟩ : ∃ cw, chkW b2 = cw := ⟨_, rfl⟩
          obtain ⟨ce, hce⟩ : ∃ ce, chkE b2 = ce := ⟨_, rfl⟩
          obtain ⟨dd, hdd⟩ : ∃ dd, d ++ sv = dd := ⟨_, rfl⟩
          have hdds : dd.size = d.size + sv.size := by rw [← hdd, ByteArray.size_append]
          rw [hsv5, hce] at hE
          rw [hsv5, hcw, hce] at cK
          rw [hsv5, hdd, hce] at hmore hend
          have hsvb : sv.size ≤ 7 := by rcases hE with h | h <;> omega
          have hsv6 : ¬ 9223372036854775807 < d.size + sv.size := by omega
          have HE : Hid (ce = 0 ∧ sv.size = 7 ∨ ce = 6 ∧ sv.size = 0) := hE
          have HD : Hid (dd.size = d.size + sv.size) := hdds
          have HM : Hid (ce = 0 ∧ dd.size < 350 → _) := hmore
          have HN : Hid (¬ (ce = 0 ∧ dd.size < 350) → _) := hend
          clear hsv5 hcw hce hdds hE hmore hend hbs hsvb hb7
          go_wp2_with (go_at_call 13; refine cK.mono ?_)
          first | rintro e W5 rfl b5 | rintro e W5 ⟨rfl, b5⟩
          have hI5 := hI2.below b5
          have hR5 := rcells hI5.at'
          clear y0 y1 y2 y3 y4 yz hI2 hYR cK b5
          have z0 : W5.cell? ⟨R, 0, none⟩ = some (.bool true) := cell_of hR5
          have z1 : W5.cell? ⟨R, 1, none⟩ = some (.string d) := cell_of hR5
          have z2 : W5.cell? ⟨R, 2, none⟩ = some (.string b2) := cell_of hR5
          have z3 : W5.cell? ⟨R, 3, none⟩ = some (.bool has) := cell_of hR5
          have z4 : W5.cell? ⟨R, 4, none⟩ = some (.int .u8 (la.toNat : Int)) := cell_of hR5
          have zz := fz_of hR5
          have hI6 := hI5.only (r' := ⟨true, dd, ⟨#[]⟩, has, la⟩) (((OnlyB.refl R W5).setCell 1 (.string dd)).setCell 2 (.string ⟨#[]⟩)) (set_at (set_at hR5))
          obtain ⟨W6, hW6⟩ : ∃ W6, (W5.setCell ⟨R, 1, none⟩ (.string dd)).setCell ⟨R, 2, none⟩ (.string ⟨#[]⟩) = W6 := ⟨_, rfl⟩
          rw [hW6] at hI6
          have hR6 := rcells hI6.at'
          have n0 : W6.cell? ⟨R, 0, none⟩ = some (.bool true) := cell_of hR6
          have n1 : W6.cell? ⟨R, 1, none⟩ = some (.string dd) := cell_of hR6
          have n2 : W6.cell? ⟨R, 2, none⟩ = some (.string ⟨#[]⟩) := cell_of hR6
          have n3 : W6.cell? ⟨R, 3, none⟩ = some (.bool has) := cell_of hR6
          have n4 : W6.cell? ⟨R, 4, none⟩ = some (.int .u8 (la.toNat : Int)) := cell_of hR6
          have nz := fz_of hR6
          rcases HE.out with ⟨he, hss⟩ | ⟨he, hss⟩
          · subst he
            by_cases h350 : dd.size < 350
            · have hd5 : ¬ 350 ≤ ((dd.size : Nat) : Int) := by omega
              have hst' : Hid (_ ∧ _) := HM.out ⟨rfl, h350⟩
              clear hss h350
              go_wp2
              have hst := hst'.out
              exact ⟨⟨i + 1, _, _, by push_cast; rfl, rfl, hlt, by rw [hq2'.out]; exact hst.1, by rw [hq2'.out, hst.2]; exact hI6⟩, by show s.size - (i + 1) < s.size - i; omega⟩
            · have hd5 : 350 ≤ ((dd.size : Nat) : Int) := by omega
              have hd0 : 0 < dd.size := by omega
              have hend := HN.out (fun h => h350 h.2)
              rw [if_neg (by omega)] at hend
              clear hss h350
              have hz := empty_f hd0
              have hst' : Hid (_ ∧ _) := hend
              have b7 : Below W6.heap.size W6 (W6.alloc (.cells #[.string dd] 9)) := (Below.refl _ _).alloc (Nat.le_refl _) _
              have hI7 := hI6.below b7
              have hR7 := rcells hI7.at'
              have hfl : q.found.length ≤ 1073741824 := by have := hokq.found; omega
              clear hend hd0 b7
              go_wp2_with (at_builtin; refine wpList_append_at rfl _ _ 33 rfl w.heap.size 9 j0 (.string ⟨#[]⟩) 1 16 Tryd.underlying33 hj hy0 hy1 hy2 rfl (by decide) _ _ _ rfl hI7.row ⟨W6.heap.size, 0, none⟩ 1 1 [.string dd] rfl rfl (cell_one W6 9 _) (by intro u hu; simp only [List.mem_cons, List.not_mem_nil, or_false] at hu; subst hu; rfl) (by decide) (by unfold maxLen; omega) (by omega) (by have := hI7.fr.size; exact this) ?_)
              intro v8 w8 hown8 hgrow8 _
              have hI8 := hI7.grow (L' := q.found ++ [dd]) (by rw [List.length_append, List.map_append]; exact hown8) hgrow8
              have hR8 := rcells hI8.at'
              have m0 : w8.cell? ⟨R, 0, none⟩ = some (.bool true) := cell_of hR8
              have m1 : w8.cell? ⟨R, 1, none⟩ = some (.string dd) := cell_of hR8
              have m2 : w8.cell? ⟨R, 2, none⟩ = some (.string ⟨#[]⟩) := cell_of hR8
              have m3 : w8.cell? ⟨R, 3, none⟩ = some (.bool has) := cell_of hR8
              have m4 : w8.cell? ⟨R, 4, none⟩ = some (.int .u8 (la.toNat : Int)) := cell_of hR8
              have mz := fz_of hR8
              clear hown8 hgrow8 hI7 hR7
              go_wp2
              have hst := hst'.out
              have hI9 := hI8.only (r' := rs0) (((((((OnlyB.refl R w8).setCell 0 (.bool false)).setCell 1 (.string ⟨#[]⟩)).setCell 2 (.string ⟨#[]⟩)).setCell 3 (.bool false)).setCell 4 (.int .u8 0))) (set_at (set_at (set_at (set_at (set_at hR8)))))
              exact ⟨⟨i + 1, _, _, by push_cast; rfl, rfl, hlt, by rw [hq2'.out]; exact hst.1, by rw [hq2'.out, hst.2]; exact hI9⟩, by show s.size - (i + 1) < s.size - i; omega⟩
          · subst he
            have hend := HN.out (fun h => absurd h.1 (by decide))
            clear hss
            rcases Nat.eq_zero_or_pos dd.size with hd0 | hd0
            · rw [if_pos hd0] at hend
              have hz : dd.toList.isEmpty = true := by
                rw [Lib.toList_data]
                have := size_list dd
                rw [hd0] at this
                rw [List.eq_nil_of_length_eq_zero this]; rfl
              have hst' : Hid (_ ∧ _) := hend
              clear hend hd0
              go_wp2
              have hst := hst'.out
              have hI9 := hI6.only (r' := rs0) (((((((OnlyB.refl R W6).setCell 0 (.bool false)).setCell 1 (.string ⟨#[]⟩)).setCell 2 (.string ⟨#[]⟩)).setCell 3 (.bool false)).setCell 4 (.int .u8 0))) (set_at (set_at (set_at (set_at (set_at hR6)))))
              exact ⟨⟨i + 1, _, _, by push_cast; rfl, rfl, hlt, by rw [hq2'.out]; exact hst.1, by rw [hq2'.out, hst.2]; exact hI9⟩, by show s.size - (i + 1) < s.size - i; omega⟩
            · rw [if_neg (by omega)] at hend
              have hz := empty_f hd0
              have hst' : Hid (_ ∧ _) := hend
              have b7 : Below W6.heap.size W6 (W6.alloc (.cells #[.string dd] 9)) := (Below.refl _ _).alloc (Nat.le_refl _) _
              have hI7 := hI6.below b7
              have hR7 := rcells hI7.at'
              have hfl : q.found.length ≤ 1073741824 := by have := hokq.found; omega
              clear hend hd0 b7
              go_wp2_with (at_builtin; refine wpList_append_at rfl _ _ 33 rfl w.heap.size 9 j0 (.string ⟨#[]⟩) 1 16 Tryd.underlying33 hj hy0 hy1 hy2 rfl (by decide) _ _ _ rfl hI7.row ⟨W6.heap.size, 0, none⟩ 1 1 [.string dd] rfl rfl (cell_one W6 9 _) (by intro u hu; simp only [List.mem_cons, List.not_mem_nil, or_false] at hu; subst hu; rfl) (by decide) (by unfold maxLen; omega) (by omega) (by have := hI7.fr.size; exact this) ?_)
              intro v8 w8 hown8 hgrow8 _
              have hI8 := hI7.grow (L' := q.found ++ [dd]) (by rw [List.length_append, List.map_append]; exact hown8) hgrow8
              have hR8 := rcells hI8.at'
              have m0 : w8.cell? ⟨R, 0, none⟩ = some (.bool true) := cell_of hR8
              have m1 : w8.cell? ⟨R, 1, none⟩ = some (.string dd) := cell_of hR8
              have m2 : w8.cell? ⟨R, 2, none⟩ = some (.string ⟨#[]⟩) := cell_of hR8
              have m3 : w8.cell? ⟨R, 3, none⟩ = some (.bool has) := cell_of hR8
              have m4 : w8.cell? ⟨R, 4, none⟩ = some (.int .u8 (la.toNat : Int)) := cell_of hR8
              have mz := fz_of hR8
              clear hown8 hgrow8 hI7 hR7
              go_wp2
              have hst := hst'.out
              have hI9 := hI8.only (r' := rs0) (((((((OnlyB.refl R w8).setCell 0 (.bool false)).setCell 1 (.string ⟨#[]⟩)).setCell 2 (.string ⟨#[]⟩)).setCell 3 (.bool false)).setCell 4 (.int .u8 0))) (set_at (set_at (set_at (set_at (set_at hR8)))))
              exact ⟨⟨i + 1, _, _, by push_cast; rfl, rfl, hlt, by rw [hq2'.out]; exact hst.1, by rw [hq2'.out, hst.2]; exact hI9⟩, by show s.size - (i + 1) < s.size - i; omega⟩
    · have hge' : ¬ ((i : Nat) : Int) < ((s.size : Nat) : Int) := by omega
      rw [take_size (show i = s.size by omega)] at hS1 hI
      go_wp2
      go_ret
      exact ⟨ov, rfl, r1, hI, hS1.out⟩
end Go.Am.Clt
