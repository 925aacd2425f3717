/-
  Channels: best, walked with choose's rule 3. Own work; printed by gen/mkb.py.
-/
import Derived.Test.YtlgpalokjckdcaaChaGA
namespace Go.Am.Cha
open Go Go.Am Go.Am.Lib Go.Lib Go.Proofs Go.RowKit
open Go.Am.Own
set_option maxRecDepth 100000
set_option maxHeartbeats 3200000 in
theorem best_3 {w:World} (Keep:World → Prop) (hK:∀ w w',Keep w → Below w.heap.size w w' → Keep w') (g:Nat) (val:Nat → Nat) (l:List Nat) (lv:Value)
    (hc:∀ i,i ∈ l → ∀ w',Keep w' → Calls Try.prog 72 #[ptrS g i] w' fun e w''=>e = .returned (.int .i64 ((val i:Nat):Int)) ∧ Below w'.heap.size w' w'')
    (h0:Keep w) (hl:w.ownsRow 0 111 1 lv l.length (cellP g l)) (hn:l.length ≤ 100) :
    Calls Try.prog 73 #[lv,.agg #[(.func (.func 72) #[] #[])]] w fun e w'=>∃ v,e = .returned v ∧ w'.ownsRow w.heap.size 111 1 v (best val l).length (cellP g (best val l)) ∧ Below w.heap.size w w':=by
  obtain ⟨iP,iP1,iP2,iP3,iP4⟩:=infoP
  obtain ⟨ao,cap,rfl⟩:=ownsRow_slice hl
  obtain ⟨n,hnn⟩:∃ n,l.length = n:=⟨_,rfl⟩
  obtain ⟨F,hF⟩:∃ F,w.heap.size = F:=⟨_,rfl⟩
  obtain ⟨W1,hW1⟩:∃ W,w.alloc (.cells #[(.func (.func 72) #[] #[])] 151) = W:=⟨_,rfl⟩
  have hB1:Below F w W1:=by rw [← hW1,← hF];exact (Below.refl _ w).alloc (Nat.le_refl _) _
  have k1:W1.heap[F]? = some (.cells #[(.func (.func 72) #[] #[])] 151 (0,0)):=by rw [← hW1,← hF];exact heap_alloc_new w _
  unfold ptrS at hc
  have HC:=Lib.hid hc
  have KEE:=Lib.hid (show ∀ (O:List Nat) (ov:Value) W,Rb w F (.func (.func 72) #[] #[]) g O ov W → Keep W from fun O ov W h=>hK w W h0 (by rw [hF];exact h.b))
  have HL:=Lib.hid hl
  have HN:=Lib.hid hnn
  have hR0:Rb w F (.func (.func 72) #[] #[]) g [] (.slice none 0 0) W1:=⟨World.ownsRow_nil _ _ _ _,hB1,k1⟩
  rw [hnn] at hn
  clear hc hK h0 hl
  rw [hnn,hF]
  clear hnn
  go_enter Try.func73,Try.ntmps73
  go_wp2
  go_loopw [5,10] (fun ov iv wr=>∃ (j:Nat) (xv:Value),xv = ov ∧ iv = .int .i64 (j:Nat) ∧ j ≤ n ∧ Rb w F (.func (.func 72) #[] #[]) g (best val (l.take j)) xv wr)
    (fun _ iv _=>n - iOf iv)
  case atStart=>exact ⟨0,_,rfl,rfl,Nat.zero_le _,hR0⟩
  case round =>
    clear hR0 k1 hB1
    obtain ⟨j,ov,rfl,rfl,hj,hR⟩:=hrel
    rcases Nat.lt_or_ge j n with hlt | hge
    · have hlt':((j:Nat):Int) < ((n:Nat):Int):=by omega
      obtain ⟨s,hs⟩:∃ s,l[j]? = some s:=⟨_,List.getElem?_eq_getElem (by rw [HN.out];exact hlt)⟩
      have hsl:s ∈ l:=List.mem_iff_getElem?.2 ⟨j,hs⟩
      obtain ⟨_,lg,rfl⟩:=ownsRow_base HL.out (by rw [HN.out];omega)
      have hlg:lg < F:=by rw [← hF];exact (HL.out.lt lg rfl).2
      have hx:wr.cell? ⟨lg,j,none⟩ = some (.pointer (some ⟨g,s * 5,none⟩)):=by
        have hrow:=HL.out
        rw [HN.out] at hrow
        exact ((World.cell?_of_block (hR.b.block lg hlg)).trans (hrow.cellAt j (by omega))).trans (cellP_get hs)
      have hst:best val (l.take (j + 1)) = bestStep val (best val (l.take j)) s:=by rw [List.take_add_one,hs];exact best_snoc val _ s
      have hOl:(best val (l.take j)).length ≤ 100:=Nat.le_trans (best_len val _) (by rw [List.length_take];omega)
      have hOm:∀ a,a ∈ best val (l.take j) → a ∈ l:=fun a ha=>List.mem_of_mem_take (best_mem ha)
      have hmeas:n - (j + 1) < n - j:=by omega
      obtain ⟨O,hO⟩:∃ O,best val (l.take j) = O:=⟨_,rfl⟩
      rw [hO] at hR hst hOl hOm
      clear hO
      cases O with
      | nil =>
        obtain ⟨oo,oc,rfl⟩:=ownsRow_slice hR.row
        have HS:=Lib.hid (show best val (l.take (j + 1)) = [] ++ [s] from hst)
        clear hst hOm
        go_wp2
        go_region
        go_wp2
        go_region
        have hrA:=(hR.drew.drew.below ((Below.refl _ wr.drew.drew).alloc (Nat.le_refl _) (.cells #[ptrS g s] 111))).row
        have hbase:F ≤ (wr.drew.drew.alloc (.cells #[ptrS g s] 111)).heap.size:=Nat.le_trans hR.drew.drew.lo (by rw [alloc_size];omega)
        unfold ptrS at hrA hbase
        go_wp2_with (at_builtin;refine wpList_append_at rfl _ _ 148 rfl F 111 iP (.pointer none) 1 8 Try.underlying148 iP1 iP2 iP3 iP4 rfl (by decide) _ 0 (cellP g []) rfl hrA ⟨wr.drew.drew.heap.size,0,none⟩ 1 1 [.pointer (some ⟨g,s * 5,none⟩)] rfl rfl (cell_one wr.drew.drew 111 _) (by intro u hu;exact one_mem hu rfl) (by decide) ?_ (by omega) hbase ?_)
        · unfold maxLen;omega
        intro v5 V5 hr5 hg5 _
        have hR5:=hR.drew.drew.push (i:=s) hr5 hg5
        obtain ⟨o5,c5,rfl⟩:=ownsRow_slice hR5.row
        go_wp2
        exact ⟨⟨j + 1,_,rfl,by push_cast;rfl,hlt,by rw [HS.out];exact hR5⟩,hmeas⟩
      | cons o r =>
        have hol:o ∈ l:=hOm o (List.mem_cons_self ..)
        obtain ⟨oo,oc,rfl⟩:=ownsRow_slice hR.row
        obtain ⟨_,og,rfl⟩:=ownsRow_base hR.row (by show 0 < r.length + 1;omega)
        have oo':=hR.first
        have hOl2:r.length + 1 ≤ 100:=hOl
        have hnz:(((r.length:Nat):Int) + 1 == 0) = false:=by simp;omega
        have hfn:=hR.fn
        have HST:=Lib.hid hst
        clear hst hOm
        rcases Nat.lt_trichotomy (val o) (val s) with hv | hv | hv
        · have hst:best val (l.take (j + 1)) = [] ++ [s]:=by rw [HST.out];exact if_pos hv
          have HS:=Lib.hid hst
          clear hst
          have hv1:((val o:Nat):Int) < ((val s:Nat):Int):=by omega
          go_wp2
          obtain ⟨C1,hCd⟩:∃ C:World → Prop,C = fun w'=>Rb w F (.func (.func 72) #[] #[]) g (o :: r) (.slice (some ⟨og,0,none⟩) (o :: r).length oc) w':=⟨_,rfl⟩
          have hC0:C1 wr.drew:=by rw [hCd];exact hR.drew
          have cs:∀ w',C1 w' → Calls Try.prog 72 #[.pointer (some ⟨g,s * 5,none⟩)] w' fun e w''=>e = .returned (.int .i64 ((val s:Nat):Int)) ∧ C1 w'':=by
            intro w' h;rw [hCd] at h ⊢;exact (HC.out s hsl w' (KEE.out _ _ _ h)).mono fun e w'' hh=>⟨hh.1,h.below hh.2⟩
          have co:∀ w',C1 w' → Calls Try.prog 72 #[.pointer (some ⟨g,o * 5,none⟩)] w' fun e w''=>e = .returned (.int .i64 ((val o:Nat):Int)) ∧ C1 w'':=by
            intro w' h;rw [hCd] at h ⊢;exact (HC.out o hol w' (KEE.out _ _ _ h)).mono fun e w'' hh=>⟨hh.1,h.below hh.2⟩
          have cf:∀ w',C1 w' → w'.cell? ⟨F,0,none⟩ = some (.func (.func 72) #[] #[]):=by intro w' h;rw [hCd] at h;exact h.fn
          have c1:∀ w',C1 w' → w'.cell? ⟨og,0,none⟩ = some (.pointer (some ⟨g,o * 5,none⟩)):=by intro w' h;rw [hCd] at h;exact h.first
          have cR:∀ w',C1 w' → Rb w F (.func (.func 72) #[] #[]) g (o :: r) (.slice (some ⟨og,0,none⟩) (o :: r).length oc) w':=by intro w' h;rw [hCd] at h;exact h
          clear hCd
          refine wp_region_class (C:=C1) (by kernel_rfl) (by kernel_rfl) hC0 ?_
          repeat (first
            | go_big_quiet_skip
            | (go_big_quiet_want;go_big_quiet_op;first
                | go_big_quiet_on
                | (with_reducible refine ⟨_,cs,?_⟩;go_big_quiet_on) | (with_reducible refine ⟨_,co,?_⟩;go_big_quiet_on)
                | (with_reducible refine ⟨_,fun _ _=>rfl,?_⟩;go_big_quiet_on)
                | (apply Exists.intro;refine ⟨fun w' hC=>?_,?_⟩;· (first | rw [cf w' hC] | rw [c1 w' hC]);exact ⟨rfl,rfl⟩
                   go_big_quiet_on)))
          refine wpQuiet_nil ?_
          intro V2 hCa
          have hV2:=cR _ hCa
          clear hC0 cs co cf c1 cR hCa
          go_wp2
          go_region
          have hrA:=(hV2.nil.drew.below ((Below.refl _ V2.drew).alloc (Nat.le_refl _) (.cells #[ptrS g s] 111))).row
          have hbase:F ≤ (V2.drew.alloc (.cells #[ptrS g s] 111)).heap.size:=Nat.le_trans hV2.nil.drew.lo (by rw [alloc_size];omega)
          unfold ptrS at hrA hbase
          go_wp2_with (at_builtin;refine wpList_append_at rfl _ _ 148 rfl F 111 iP (.pointer none) 1 8 Try.underlying148 iP1 iP2 iP3 iP4 rfl (by decide) _ 0 (cellP g []) rfl hrA ⟨V2.drew.heap.size,0,none⟩ 1 1 [.pointer (some ⟨g,s * 5,none⟩)] rfl rfl (cell_one V2.drew 111 _) (by intro u hu;exact one_mem hu rfl) (by decide) ?_ (by omega) hbase ?_)
          · unfold maxLen;omega
          intro v5 V5 hr5 hg5 _
          have hR5:=hV2.nil.drew.push (i:=s) hr5 hg5
          obtain ⟨o5,c5,rfl⟩:=ownsRow_slice hR5.row
          go_wp2
          exact ⟨⟨j + 1,_,rfl,by push_cast;rfl,hlt,by rw [HS.out];exact hR5⟩,hmeas⟩

        · have hst:best val (l.take (j + 1)) = o :: r ++ [s]:=by
            rw [HST.out]
            show (if val o < val s then _ else if val s = val o then _ else _) = _
            rw [if_neg (by omega),if_pos hv.symm]
          have HS:=Lib.hid hst
          clear hst
          have hv1:¬ ((val o:Nat):Int) < ((val s:Nat):Int):=by omega
          have hv2:(((val s:Nat):Int) == ((val o:Nat):Int)) = true:=by rw [hv];simp
          go_wp2
          obtain ⟨C1,hCd⟩:∃ C:World → Prop,C = fun w'=>Rb w F (.func (.func 72) #[] #[]) g (o :: r) (.slice (some ⟨og,0,none⟩) (o :: r).length oc) w':=⟨_,rfl⟩
          have hC0:C1 wr.drew:=by rw [hCd];exact hR.drew
          have cs:∀ w',C1 w' → Calls Try.prog 72 #[.pointer (some ⟨g,s * 5,none⟩)] w' fun e w''=>e = .returned (.int .i64 ((val s:Nat):Int)) ∧ C1 w'':=by
            intro w' h;rw [hCd] at h ⊢;exact (HC.out s hsl w' (KEE.out _ _ _ h)).mono fun e w'' hh=>⟨hh.1,h.below hh.2⟩
          have co:∀ w',C1 w' → Calls Try.prog 72 #[.pointer (some ⟨g,o * 5,none⟩)] w' fun e w''=>e = .returned (.int .i64 ((val o:Nat):Int)) ∧ C1 w'':=by
            intro w' h;rw [hCd] at h ⊢;exact (HC.out o hol w' (KEE.out _ _ _ h)).mono fun e w'' hh=>⟨hh.1,h.below hh.2⟩
          have cf:∀ w',C1 w' → w'.cell? ⟨F,0,none⟩ = some (.func (.func 72) #[] #[]):=by intro w' h;rw [hCd] at h;exact h.fn
          have c1:∀ w',C1 w' → w'.cell? ⟨og,0,none⟩ = some (.pointer (some ⟨g,o * 5,none⟩)):=by intro w' h;rw [hCd] at h;exact h.first
          have cR:∀ w',C1 w' → Rb w F (.func (.func 72) #[] #[]) g (o :: r) (.slice (some ⟨og,0,none⟩) (o :: r).length oc) w':=by intro w' h;rw [hCd] at h;exact h
          clear hCd
          refine wp_region_class (C:=C1) (by kernel_rfl) (by kernel_rfl) hC0 ?_
          repeat (first
            | go_big_quiet_skip
            | (go_big_quiet_want;go_big_quiet_op;first
                | go_big_quiet_on
                | (with_reducible refine ⟨_,cs,?_⟩;go_big_quiet_on) | (with_reducible refine ⟨_,co,?_⟩;go_big_quiet_on)
                | (with_reducible refine ⟨_,fun _ _=>rfl,?_⟩;go_big_quiet_on)
                | (apply Exists.intro;refine ⟨fun w' hC=>?_,?_⟩;· (first | rw [cf w' hC] | rw [c1 w' hC]);exact ⟨rfl,rfl⟩
                   go_big_quiet_on)))
          refine wpQuiet_nil ?_
          intro V2 hCa
          have hV2:=cR _ hCa
          clear hC0 cs co cf c1 cR hCa
          go_wp2
          obtain ⟨C2,hCd⟩:∃ C:World → Prop,C = fun w'=>Rb w F (.func (.func 72) #[] #[]) g (o :: r) (.slice (some ⟨og,0,none⟩) (o :: r).length oc) w':=⟨_,rfl⟩
          have hC0:C2 V2.drew:=by rw [hCd];exact hV2.drew
          have cs:∀ w',C2 w' → Calls Try.prog 72 #[.pointer (some ⟨g,s * 5,none⟩)] w' fun e w''=>e = .returned (.int .i64 ((val s:Nat):Int)) ∧ C2 w'':=by
            intro w' h;rw [hCd] at h ⊢;exact (HC.out s hsl w' (KEE.out _ _ _ h)).mono fun e w'' hh=>⟨hh.1,h.below hh.2⟩
          have co:∀ w',C2 w' → Calls Try.prog 72 #[.pointer (some ⟨g,o * 5,none⟩)] w' fun e w''=>e = .returned (.int .i64 ((val o:Nat):Int)) ∧ C2 w'':=by
            intro w' h;rw [hCd] at h ⊢;exact (HC.out o hol w' (KEE.out _ _ _ h)).mono fun e w'' hh=>⟨hh.1,h.below hh.2⟩
          have cf:∀ w',C2 w' → w'.cell? ⟨F,0,none⟩ = some (.func (.func 72) #[] #[]):=by intro w' h;rw [hCd] at h;exact h.fn
          have c1:∀ w',C2 w' → w'.cell? ⟨og,0,none⟩ = some (.pointer (some ⟨g,o * 5,none⟩)):=by intro w' h;rw [hCd] at h;exact h.first
          have cR:∀ w',C2 w' → Rb w F (.func (.func 72) #[] #[]) g (o :: r) (.slice (some ⟨og,0,none⟩) (o :: r).length oc) w':=by intro w' h;rw [hCd] at h;exact h
          clear hCd
          refine wp_region_class (C:=C2) (by kernel_rfl) (by kernel_rfl) hC0 ?_
          repeat (first
            | go_big_quiet_skip
            | (go_big_quiet_want;go_big_quiet_op;first
                | go_big_quiet_on
                | (with_reducible refine ⟨_,cs,?_⟩;go_big_quiet_on) | (with_reducible refine ⟨_,co,?_⟩;go_big_quiet_on)
                | (with_reducible refine ⟨_,fun _ _=>rfl,?_⟩;go_big_quiet_on)
                | (apply Exists.intro;refine ⟨fun w' hC=>?_,?_⟩;· (first | rw [cf w' hC] | rw [c1 w' hC]);exact ⟨rfl,rfl⟩
                   go_big_quiet_on)))
          refine wpQuiet_nil ?_
          intro V4 hCa
          have hV4:=cR _ hCa
          clear hC0 cs co cf c1 cR hCa
          have hrA:=(hV4.below ((Below.refl _ V4).alloc (Nat.le_refl _) (.cells #[ptrS g s] 111))).row
          have hbase:F ≤ (V4.alloc (.cells #[ptrS g s] 111)).heap.size:=Nat.le_trans hV4.lo (by rw [alloc_size];omega)
          unfold ptrS at hrA hbase
          go_wp2_with (at_builtin;refine wpList_append_at rfl _ _ 148 rfl F 111 iP (.pointer none) 1 8 Try.underlying148 iP1 iP2 iP3 iP4 rfl (by decide) _ (r.length + 1) (cellP g (o :: r)) rfl hrA ⟨V4.heap.size,0,none⟩ 1 1 [.pointer (some ⟨g,s * 5,none⟩)] rfl rfl (cell_one V4 111 _) (by intro u hu;exact one_mem hu rfl) (by decide) ?_ (by omega) hbase ?_)
          · unfold maxLen;omega
          intro v5 V5 hr5 hg5 _
          have hR5:=hV4.push (i:=s) hr5 hg5
          obtain ⟨o5,c5,rfl⟩:=ownsRow_slice hR5.row
          go_wp2
          exact ⟨⟨j + 1,_,rfl,by push_cast;rfl,hlt,by rw [HS.out];exact hR5⟩,hmeas⟩

        · have hst:best val (l.take (j + 1)) = o :: r:=by
            rw [HST.out]
            show (if val o < val s then _ else if val s = val o then _ else _) = _
            rw [if_neg (by omega),if_neg (by omega)]
          have HS:=Lib.hid hst
          clear hst
          have hv1:¬ ((val o:Nat):Int) < ((val s:Nat):Int):=by omega
          have hv2:(((val s:Nat):Int) == ((val o:Nat):Int)) = false:=by simp;omega
          go_wp2
          obtain ⟨C1,hCd⟩:∃ C:World → Prop,C = fun w'=>Rb w F (.func (.func 72) #[] #[]) g (o :: r) (.slice (some ⟨og,0,none⟩) (o :: r).length oc) w':=⟨_,rfl⟩
          have hC0:C1 wr.drew:=by rw [hCd];exact hR.drew
          have cs:∀ w',C1 w' → Calls Try.prog 72 #[.pointer (some ⟨g,s * 5,none⟩)] w' fun e w''=>e = .returned (.int .i64 ((val s:Nat):Int)) ∧ C1 w'':=by
            intro w' h;rw [hCd] at h ⊢;exact (HC.out s hsl w' (KEE.out _ _ _ h)).mono fun e w'' hh=>⟨hh.1,h.below hh.2⟩
          have co:∀ w',C1 w' → Calls Try.prog 72 #[.pointer (some ⟨g,o * 5,none⟩)] w' fun e w''=>e = .returned (.int .i64 ((val o:Nat):Int)) ∧ C1 w'':=by
            intro w' h;rw [hCd] at h ⊢;exact (HC.out o hol w' (KEE.out _ _ _ h)).mono fun e w'' hh=>⟨hh.1,h.below hh.2⟩
          have cf:∀ w',C1 w' → w'.cell? ⟨F,0,none⟩ = some (.func (.func 72) #[] #[]):=by intro w' h;rw [hCd] at h;exact h.fn
          have c1:∀ w',C1 w' → w'.cell? ⟨og,0,none⟩ = some (.pointer (some ⟨g,o * 5,none⟩)):=by intro w' h;rw [hCd] at h;exact h.first
          have cR:∀ w',C1 w' → Rb w F (.func (.func 72) #[] #[]) g (o :: r) (.slice (some ⟨og,0,none⟩) (o :: r).length oc) w':=by intro w' h;rw [hCd] at h;exact h
          clear hCd
          refine wp_region_class (C:=C1) (by kernel_rfl) (by kernel_rfl) hC0 ?_
          repeat (first
            | go_big_quiet_skip
            | (go_big_quiet_want;go_big_quiet_op;first
                | go_big_quiet_on
                | (with_reducible refine ⟨_,cs,?_⟩;go_big_quiet_on) | (with_reducible refine ⟨_,co,?_⟩;go_big_quiet_on)
                | (with_reducible refine ⟨_,fun _ _=>rfl,?_⟩;go_big_quiet_on)
                | (apply Exists.intro;refine ⟨fun w' hC=>?_,?_⟩;· (first | rw [cf w' hC] | rw [c1 w' hC]);exact ⟨rfl,rfl⟩
                   go_big_quiet_on)))
          refine wpQuiet_nil ?_
          intro V2 hCa
          have hV2:=cR _ hCa
          clear hC0 cs co cf c1 cR hCa
          go_wp2
          obtain ⟨C2,hCd⟩:∃ C:World → Prop,C = fun w'=>Rb w F (.func (.func 72) #[] #[]) g (o :: r) (.slice (some ⟨og,0,none⟩) (o :: r).length oc) w':=⟨_,rfl⟩
          have hC0:C2 V2.drew:=by rw [hCd];exact hV2.drew
          have cs:∀ w',C2 w' → Calls Try.prog 72 #[.pointer (some ⟨g,s * 5,none⟩)] w' fun e w''=>e = .returned (.int .i64 ((val s:Nat):Int)) ∧ C2 w'':=by
            intro w' h;rw [hCd] at h ⊢;exact (HC.out s hsl w' (KEE.out _ _ _ h)).mono fun e w'' hh=>⟨hh.1,h.below hh.2⟩
          have co:∀ w',C2 w' → Calls Try.prog 72 #[.pointer (some ⟨g,o * 5,none⟩)] w' fun e w''=>e = .returned (.int .i64 ((val o:Nat):Int)) ∧ C2 w'':=by
            intro w' h;rw [hCd] at h ⊢;exact (HC.out o hol w' (KEE.out _ _ _ h)).mono fun e w'' hh=>⟨hh.1,h.below hh.2⟩
          have cf:∀ w',C2 w' → w'.cell? ⟨F,0,none⟩ = some (.func (.func 72) #[] #[]):=by intro w' h;rw [hCd] at h;exact h.fn
          have c1:∀ w',C2 w' → w'.cell? ⟨og,0,none⟩ = some (.pointer (some ⟨g,o * 5,none⟩)):=by intro w' h;rw [hCd] at h;exact h.first
          have cR:∀ w',C2 w' → Rb w F (.func (.func 72) #[] #[]) g (o :: r) (.slice (some ⟨og,0,none⟩) (o :: r).length oc) w':=by intro w' h;rw [hCd] at h;exact h
          clear hCd
          refine wp_region_class (C:=C2) (by kernel_rfl) (by kernel_rfl) hC0 ?_
          repeat (first
            | go_big_quiet_skip
            | (go_big_quiet_want;go_big_quiet_op;first
                | go_big_quiet_on
                | (with_reducible refine ⟨_,cs,?_⟩;go_big_quiet_on) | (with_reducible refine ⟨_,co,?_⟩;go_big_quiet_on)
                | (with_reducible refine ⟨_,fun _ _=>rfl,?_⟩;go_big_quiet_on)
                | (apply Exists.intro;refine ⟨fun w' hC=>?_,?_⟩;· (first | rw [cf w' hC] | rw [c1 w' hC]);exact ⟨rfl,rfl⟩
                   go_big_quiet_on)))
          refine wpQuiet_nil ?_
          intro V4 hCa
          have hV4:=cR _ hCa
          clear hC0 cs co cf c1 cR hCa
          go_wp2
          exact ⟨⟨j + 1,_,rfl,by push_cast;rfl,hlt,by rw [HS.out];exact hV4⟩,hmeas⟩
    · have hge':¬ ((j:Nat):Int) < ((n:Nat):Int):=by omega
      have hje:j = n:=by omega
      subst hje
      have e:l.take j = l:=by rw [← HN.out];exact List.take_length ..
      rw [e] at hR
      go_wp2
      go_ret
      exact ⟨_,rfl,hR.row,hR.b⟩
end Go.Am.Cha
