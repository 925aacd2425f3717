/-
 Channels: choose, walked. Own work.
-/
import Derived.Test.YtlgpalokjckdcaaChaGB
namespace Go.Am.Cha
open Go Go.Am Go.Am.Lib Go.Lib Go.Proofs Go.RowKit
open Go.Am.Own
open Go.Am.Tmf (FS FAt FC OkF)
set_option maxRecDepth 100000

variable {S:Nat → Prop} {mb g cap N cb:Nat} {bk:Nat → Nat} {M:MS} {w wr w':World} {L:List Nat} {lv:Value}
theorem Cb.start (h:MC S mb g cap bk M w):Cb S w w.heap.size mb g cap bk M [] (.slice none 0 0) (w.alloc (.cells #[.pointer (some ⟨mb,0,none⟩)] 47)):=by
 have hb:=(Below.refl w.heap.size w).alloc (Nat.le_refl _) (.cells #[.pointer (some ⟨mb,0,none⟩)] 47)
 exact ⟨h.keep (fun k _ hk=>hb.block k hk) (fun k hk=>.inr hk) fun k hk e=>.inl ⟨e,hk⟩,fr_of hb h.hS,heap_alloc_new w _,World.ownsRow_nil _ _ _ _,h.hS,rfl⟩
theorem Cb.stop (h:Cb S w cb mb g cap bk M L lv wr):MC S mb g cap bk M wr ∧ FrS S w wr :=
 ⟨h.mc.keep (fun k _ _=>rfl) (fun k hk=>h.hS k (by have:=h.lt;omega)) fun k hk e=>(e.old hk).1,h.fr⟩
theorem Cb.best1 (h:Cb S w cb mb g cap bk M L lv wr) (ho:OkM N M) (hL:∀ k,k ∈ L → k < 8) (hl:L.length ≤ 8) :
 Calls Try.prog 73 #[lv,.agg #[.func (.func 70) #[] #[.pointer (some ⟨cb,0,none⟩)]]] wr fun e w'=>∃ v,e = .returned v ∧ Cb S w cb mb g cap bk M (best (fullM M) L) v w' ∧ Below wr.heap.size wr w':=by
 refine (best_1 (fun W=>Cb S w cb mb g cap bk M L lv W) (fun w1 w2 a b=>a.below b) g cb (fullM M) L lv (fun i hi W hW=>rule1_at hW.mc ho (hL i hi) cb hW.bx) h (ownsRow_up h.row (Nat.zero_le _)) (by omega)).mono ?_
 rintro e w' ⟨v,rfl,h1,h2⟩
 exact ⟨v,rfl,(h.below h2).list (ownsRow_up h1 (Nat.le_of_lt h.lt)),h2⟩
theorem Cb.best2 (h:Cb S w cb mb g cap bk M L lv wr) (hL:∀ k,k ∈ L → k < 8) (hl:L.length ≤ 8) :
 Calls Try.prog 73 #[lv,.agg #[.func (.func 71) #[] #[]]] wr fun e w'=>∃ v,e = .returned v ∧ Cb S w cb mb g cap bk M (best (fun k=>(M.f k).pr) L) v w' ∧ Below wr.heap.size wr w':=by
 refine (best_2 (fun W=>Cb S w cb mb g cap bk M L lv W) (fun w1 w2 a b=>a.below b) g (fun k=>(M.f k).pr) L lv (fun i hi W hW=>rule2_at hW.mc (hL i hi)) h (ownsRow_up h.row (Nat.zero_le _)) (by omega)).mono ?_
 rintro e w' ⟨v,rfl,h1,h2⟩
 exact ⟨v,rfl,(h.below h2).list (ownsRow_up h1 (Nat.le_of_lt h.lt)),h2⟩
/-- The channel with the most credit stands ahead; the list stays. -/
theorem Cb.best3 (h:Cb S w cb mb g cap bk M L lv wr) (hL:∀ k,k ∈ L → k < 8) (hl:L.length ≤ 8) (hne:L ≠ []) :
 Calls Try.prog 73 #[lv,.agg #[.func (.func 72) #[] #[]]] wr fun e w'=>∃ og n oc,e = .returned (.slice (some ⟨og,0,none⟩) (n + 1) oc) ∧ w'.cell? ⟨og,0,none⟩ = some (ptrS g (topS M L)) ∧ Cb S w cb mb g cap bk M L lv w' ∧ Below wr.heap.size wr w':=by
 refine (best_3 (fun W=>Cb S w cb mb g cap bk M L lv W) (fun w1 w2 a b=>a.below b) g (fun k=>(M.f k).cr) L lv (fun i hi W hW=>rule3_at hW.mc (hL i hi)) h (ownsRow_up h.row (Nat.zero_le _)) (by omega)).mono ?_
 rintro e w' ⟨v,rfl,h1,h2⟩
 have hn:=best_ne (val:=fun k=>(M.f k).cr) hne
 have ht:topS M L = (best (fun k=>(M.f k).cr) L).headD 0:=rfl
 rw [ht]
 obtain ⟨O,hO⟩:∃ O,best (fun k=>(M.f k).cr) L = O:=⟨_,rfl⟩
 rw [hO] at hn h1 ⊢
 cases O with
 | nil=>exact absurd rfl hn
 | cons o r =>
  obtain ⟨oo,oc,rfl⟩:=ownsRow_slice h1
  obtain ⟨_,og,rfl⟩:=ownsRow_base h1 (by show 0 < r.length + 1;omega)
  refine ⟨og,r.length,oc,rfl,?_,h.below h2,h2⟩
  rw [h1.cellAt 0 (by show 0 < (r.length + 1) * 1;omega)]
  rfl
/-- The first of the list. -/
theorem Cb.head (h:Cb S w cb mb g cap bk M L lv wr) (hne:L ≠ []):∃ og n oc,lv = .slice (some ⟨og,0,none⟩) (n + 1) oc ∧ n + 1 = L.length ∧ ∀ M' W,Cb S w cb mb g cap bk M' L lv W → W.cell? ⟨og,0,none⟩ = some (ptrS g (L.headD 0)):=by
 cases L with
 | nil=>exact absurd rfl hne
 | cons o r =>
  obtain ⟨oo,oc,rfl⟩:=ownsRow_slice h.row
  obtain ⟨_,og,rfl⟩:=ownsRow_base h.row (by show 0 < r.length + 1;omega)
  refine ⟨og,r.length,oc,rfl,rfl,fun M' W hW=>?_⟩
  rw [hW.row.cellAt 0 (by show 0 < (r.length + 1) * 1;omega)]
  rfl
theorem Cb.fwait (h:Cb S w cb mb g cap bk M L lv wr) (ho:OkM N M) {k:Nat} (hk:k < 8):Calls Try.prog 38 #[.pointer (some ⟨bk k,0,none⟩)] wr fun e w'=>e = .returned (.int .i64 (((M.f k).x.wait:Nat):Int)) ∧ Cb S w cb mb g cap bk M L lv w' :=
 (h.mc.fwait ho hk).mono fun _ _ hh=>⟨hh.1,h.below hh.2⟩
/-- With the third rule's block. -/
structure Cr (S:Nat → Prop) (w:World) (cb r3 mb g cap:Nat) (bk:Nat → Nat) (M:MS) (L:List Nat) (lv:Value) (wr:World):Prop where
 c:Cb S w cb mb g cap bk M L lv wr
 r:wr.heap[r3]? = some (.cells #[.func (.func 72) #[] #[]] 151 (0,0))
theorem Cr.fn {r3:Nat} (h:Cr S w cb r3 mb g cap bk M L lv wr):wr.cell? ⟨r3,0,none⟩ = some (.func (.func 72) #[] #[]):=cell_of h.r
theorem Cr.below {r3:Nat} (h:Cr S w cb r3 mb g cap bk M L lv wr) (hb:Below wr.heap.size wr w'):Cr S w cb r3 mb g cap bk M L lv w':=⟨h.c.below hb,(hb.block r3 (Array.getElem?_eq_some_iff.1 h.r).1).trans h.r⟩
theorem Cr.drew {r3:Nat} (h:Cr S w cb r3 mb g cap bk M L lv wr):Cr S w cb r3 mb g cap bk M L lv wr.drew:=h.below (Below.refl _ wr).drew
theorem Cr.put {r3:Nat} (h:Cr S w cb r3 mb g cap bk M L lv wr) {k c:Nat} (hk:k < 8):Cr S w cb r3 mb g cap bk { M with f:=upd M.f k { M.f k with cr:=c } } L lv (wr.setCell ⟨g,k * 5 + 3,none⟩ (intN c)):=by
 have ho:OnlyB g wr (wr.setCell ⟨g,k * 5 + 3,none⟩ (intN c)):=(OnlyB.refl g wr).setCell (k * 5 + 3) (intN c)
 refine ⟨h.c.put hk (by decide) rfl rfl,(ho.rest r3 fun e=>ownsRow_neb h.c.mc.row h.r (by decide) (by rw [e];rfl)).trans h.r⟩
set_option maxHeartbeats 6400000 in
/-- The list of those in which something waits, and what comes behind it. -/
theorem choose_at (h:MC S mb g cap bk M w) (ho:OkM N M) :
 Calls Try.prog 41 #[.pointer (some ⟨mb,0,none⟩)] w fun e w'=>(waitJ M 8 = [] → e = .returned (.pointer none) ∧ MC S mb g cap bk M w' ∧ FrS S w w') ∧ (waitJ M 8 ≠ [] → e = .returned (ptrS g (chosen M)) ∧ MC S mb g cap bk (chooseM M) w' ∧ FrS S w w'):=by
 obtain ⟨iP,iP1,iP2,iP3,iP4⟩:=infoP
 have h0:=Cb.start h
 obtain ⟨cb,hcb⟩:∃ c,w.heap.size = c:=⟨_,rfl⟩
 obtain ⟨W1,hW1⟩:∃ W,w.alloc (.cells #[.pointer (some ⟨mb,0,none⟩)] 47) = W:=⟨_,rfl⟩
 rw [hcb,hW1] at h0
 have k0:=h0.bx
 have k3:=h0.mc.c3
 clear h
 have HO:=Lib.hid ho
 clear ho
 go_enter Try.func41,Try.ntmps41
 go_wp2
 go_loopw [3,17] (fun lv iv wr=>∃ (j:Nat) (xv:Value),xv = lv ∧ iv = .int .i64 (j:Nat) ∧ j ≤ 8 ∧ Cb S w cb mb g cap bk M (waitJ M j) xv wr)
  (fun _ iv _=>8 - iOf iv)
 case atStart=>exact ⟨0,_,rfl,rfl,Nat.zero_le _,h0⟩
 case round =>
  clear h0 k0 k3
  obtain ⟨j,lv,rfl,rfl,hj,hC⟩:=hrel
  have k0:=hC.bx
  have k3:=hC.mc.c3
  rcases Nat.lt_or_ge j 8 with hlt | hge
  · have hlt':((j:Nat):Int) < 8:=by omega
    have k1:=hC.mc.at0 hlt
    have cW:=hC.fwait HO.out hlt
    have hWl:=waitJ_len M j
    obtain ⟨b,hb⟩:∃ b,bk j = b:=⟨_,rfl⟩
    obtain ⟨wt,hwt⟩:∃ b,(M.f j).x.wait = b:=⟨_,rfl⟩
    rw [hb] at k1 cW
    rw [hwt] at cW
    have hmeas:8 - (j + 1) < 8 - j:=by omega
    rcases Nat.eq_zero_or_pos wt with h0 | h0
    · have hw0:¬ (0:Int) < ((wt:Nat):Int):=by omega
      have hst:waitJ M (j + 1) = waitJ M j:=waitJ_no (by omega)
      have HS:=Lib.hid hst
      clear hst
      clear hC
      go_wp2_with (go_at_call 38;refine cW.mono ?_;clear cW;rintro e W2 ⟨rfl,h2⟩)
      exact ⟨⟨j + 1,_,rfl,by push_cast;rfl,hlt,by rw [HS.out];exact h2⟩,hmeas⟩
    · have hw0:(0:Int) < ((wt:Nat):Int):=by omega
      have hst:waitJ M (j + 1) = waitJ M j ++ [j]:=waitJ_yes (by omega)
      have HS:=Lib.hid hst
      clear hst
      obtain ⟨oo,oc,rfl⟩:=ownsRow_slice hC.row
      obtain ⟨L,hL⟩:∃ L,waitJ M j = L:=⟨_,rfl⟩
      rw [hL] at hWl HS cW
      rw [hL]
      clear hL hC
      go_wp2_with (first
       | (go_at_call 38;refine cW.mono ?_;clear cW;rintro e W2 ⟨rfl,h2⟩;have h3:=h2.alloc (.cells #[.pointer (some ⟨g,j * 5,none⟩)] 111);have hrA:=h3.row;have hbase:cb ≤ (W2.alloc (.cells #[.pointer (some ⟨g,j * 5,none⟩)] 111)).heap.size:=Nat.le_of_lt h3.lt)
       | (at_builtin;refine wpList_append_at rfl _ _ 148 rfl cb 111 iP (.pointer none) 1 8 Try.underlying148 iP1 iP2 iP3 iP4 rfl (by decide) _ L.length (cellP g L) rfl hrA ⟨W2.heap.size,0,none⟩ 1 1 [.pointer (some ⟨g,j * 5,none⟩)] rfl rfl (cell_one W2 111 _) (by intro u hu;exact one_mem hu rfl) (by decide) ?_ (by omega) hbase ?_))
      · unfold maxLen;omega
      intro v5 V5 hr5 hg5 _
      have hR5:=h2.push (i:=j) hr5 hg5
      obtain ⟨o5,c5,rfl⟩:=ownsRow_slice hR5.row
      go_wp2
      exact ⟨⟨j + 1,_,rfl,by push_cast;rfl,hlt,by rw [HS.out];exact hR5⟩,hmeas⟩
  · have hge':¬ ((j:Nat):Int) < 8:=by omega
    have hje:j = 8:=by omega
    subst hje
    obtain ⟨oo,oc,rfl⟩:=ownsRow_slice hC.row
    by_cases hne:waitJ M 8 = []
    · rw [hne] at hC
      have hst:=hC.stop
      clear k0 k3 hC
      rw [hne]
      go_wp2
      go_ret
      exact ⟨rfl,hst⟩
    · have hmf:∀ (fn:Fn) (first cap:Array Value) (w:World),(Instr.makeFunc fn first cap).run Try.prog w = .ok (.func fn first cap) w:=fun _ _ _ _=>rfl
      obtain ⟨n,hn⟩:∃ n,(waitJ M 8).length = n:=⟨_,rfl⟩
      have hn0:(((n:Nat):Int) == 0) = false:=by
       have:0 < (waitJ M 8).length:=List.length_pos_iff.2 hne
       simp;omega
      have hC1:=((hC.alloc (.cells #[.func (.func 70) #[] #[.pointer (some ⟨cb,0,none⟩)]] 151)).alloc (.cells #[.func (.func 71) #[] #[]] 151)).alloc (.cells #[.func (.func 72) #[] #[]] 151)
      obtain ⟨r1,hr1⟩:∃ r,wr.heap.size = r:=⟨_,rfl⟩
      obtain ⟨A1,hA1⟩:∃ W,wr.alloc (.cells #[.func (.func 70) #[] #[.pointer (some ⟨cb,0,none⟩)]] 151) = W:=⟨_,rfl⟩
      have e1:A1.heap[r1]? = some (.cells #[.func (.func 70) #[] #[.pointer (some ⟨cb,0,none⟩)]] 151 (0,0)):=by rw [← hA1,← hr1];exact heap_alloc_new wr _
      have z1:A1.heap.size = r1 + 1:=by rw [← hA1,alloc_size,hr1]
      rw [hA1] at hC1
      obtain ⟨A2,hA2⟩:∃ W,A1.alloc (.cells #[.func (.func 71) #[] #[]] 151) = W:=⟨_,rfl⟩
      have e2:A2.heap[r1 + 1]? = some (.cells #[.func (.func 71) #[] #[]] 151 (0,0)):=by rw [← hA2,← z1];exact heap_alloc_new A1 _
      have z2:A2.heap.size = r1 + 2:=by rw [← hA2,alloc_size,z1]
      have b2:Below A1.heap.size A1 A2:=by rw [← hA2];exact (Below.refl _ A1).alloc (Nat.le_refl _) _
      rw [hA2] at hC1
      obtain ⟨A3,hA3⟩:∃ W,A2.alloc (.cells #[.func (.func 72) #[] #[]] 151) = W:=⟨_,rfl⟩
      have e3:A3.heap[r1 + 2]? = some (.cells #[.func (.func 72) #[] #[]] 151 (0,0)):=by rw [← hA3,← z2];exact heap_alloc_new A2 _
      have b3:Below A2.heap.size A2 A3:=by rw [← hA3];exact (Below.refl _ A2).alloc (Nat.le_refl _) _
      rw [hA3] at hC1
      have d1:=(b3.block r1 (by omega)).trans ((b2.block r1 (by omega)).trans e1)
      have d2:=(b3.block (r1 + 1) (by omega)).trans e2
      have f1:A3.cell? ⟨r1,0,none⟩ = some (.func (.func 70) #[] #[.pointer (some ⟨cb,0,none⟩)]):=cell_of d1
      have f2:A3.cell? ⟨r1 + 1,0,none⟩ = some (.func (.func 71) #[] #[]):=cell_of d2
      have c1:=hC1.drew.best1 HO.out (fun k hk=>waitJ_lt hk) (waitJ_len M 8)
      have hR1:Cr S w cb (r1 + 2) mb g cap bk M (waitJ M 8) (.slice oo n oc) A3:=⟨by rw [← hn];exact hC1,e3⟩
      rw [hn] at c1
      rw [hn]
      have HR1:=Lib.hid hR1
      have HD2:=Lib.hid d2
      clear hC hC1 hR1 e1 e2 e3 d1 d2 k0 k3 b2 b3
      go_wp2
      go_region_with (first
       | (go_at_call 73;refine c1.mono ?_;clear c1;rintro e V1 ⟨v1,rfl,hD1,b1⟩;have g2:V1.cell? ⟨r1 + 1,0,none⟩ = some (.func (.func 71) #[] #[]):=cell_of ((b1.block (r1 + 1) (Array.getElem?_eq_some_iff.1 HD2.out).1).trans HD2.out);have c2:=hD1.best2 (fun k hk=>waitJ_lt (best_mem hk)) (Nat.le_trans (best_len _ _) (waitJ_len M 8));have HV1:=Lib.hid (HR1.out.drew.below b1).r)
       | (go_at_call 73;refine c2.mono ?_;clear c2;rintro e V2 ⟨v2,rfl,hD2,b2⟩;have hR2:Cr S w cb (r1 + 2) mb g cap bk M (bests M) v2 V2:=⟨hD2,(b2.block (r1 + 2) (Array.getElem?_eq_some_iff.1 HV1.out).1).trans HV1.out⟩;have g3:=hR2.fn;have c3:=hR2.c.best3 (fun k hk=>bests_lt hk) (bests_len M) (bests_ne hne)))
      all_goals
       obtain ⟨lg,ln,lc,rfl,hln,hhd⟩:=hR2.c.head (bests_ne hne)
       clear hln
       obtain ⟨k,hk⟩:∃ k,topS M (bests M) = k:=⟨_,rfl⟩
       have hk8:k < 8:=by rw [← hk];exact bests_lt (topS_mem (bests_ne hne))
       obtain ⟨cr,hcr⟩:∃ c,(M.f k).cr = c:=⟨_,rfl⟩
       rw [hk] at c3
       unfold ptrS at c3
       have HR2:=Lib.hid hR2
       have HHD:=Lib.hid hhd
       have HFL:filled M (bests M) = if cr = 0 then refillJ M (M.f ((bests M).headD 0)).pr 8 else M:=by rw [← hcr,← hk];rfl
       have HCR:=Lib.hid (chosen_credit HO.out hne)
       have HNE:=Lib.hid (bests_ne hne)
       have HK:=Lib.hid hk
       have HKC:=Lib.hid hcr
       clear hR2 hD2 hhd hk hcr HR1 HV1 HD2 f1 f2 hmf hA1 hA2 hA3 z1 z2
       rcases Nat.eq_zero_or_pos cr with h0 | h0
       · subst h0
         rw [if_pos rfl] at HFL
         obtain ⟨o,ho⟩:∃ o,(bests M).headD 0 = o:=⟨_,rfl⟩
         obtain ⟨p,hp⟩:∃ p,(M.f o).pr = p:=⟨_,rfl⟩
         rw [ho,hp] at HFL
         have ho8:o < 8:=by rw [← ho];exact bests_lt (head_mem HNE.out)
         have HFL:=Lib.hid HFL
         have HOO:=Lib.hid ho
         have HPP:=Lib.hid hp
         clear ho hp
         go_wp2_with (go_at_call 73;refine c3.mono ?_;clear c3;rintro e V3 ⟨og,n3,oc3,rfl,hc3,_,b3⟩;clear g3;have hR3:=HR2.out.below b3;have e3:V3.cell? ⟨g,k * 5 + 3,none⟩ = some (.int .i64 0):=(by have e:=hR3.c.mc.at (q:=3) hk8 (by decide) rfl;rw [HKC.out] at e;exact e);have k0:=hR3.c.bx;have k3:=hR3.c.mc.c3)
         have hL0:Cr S w cb (r1 + 2) mb g cap bk (refillJ M p 0) (bests M) (.slice (some ⟨lg,0,none⟩) (ln + 1) lc) V3:=by rw [refillJ_zero];exact hR3
         clear hR3 e3 k0 k3 hc3
         go_loopw [63] (fun iv wq=>∃ (j:Nat),iv = .int .i64 (j:Nat) ∧ j ≤ 8 ∧ Cr S w cb (r1 + 2) mb g cap bk (refillJ M p j) (bests M) (.slice (some ⟨lg,0,none⟩) (ln + 1) lc) wq)
          (fun iv _=>8 - iOf iv)
         case atStart=>exact ⟨0,rfl,Nat.zero_le _,hL0⟩
         case round =>
          clear hL0
          obtain ⟨j,rfl,hj8,hR⟩:=hrel
          have k0:=hR.c.bx
          have k3:=hR.c.mc.c3
          rcases Nat.lt_or_ge j 8 with hlt | hge2
          · have hlt':((j:Nat):Int) < 8:=by omega
            have q1:wr.cell? ⟨g,j * 5 + 1,none⟩ = some (.int .i64 (((M.f j).pr:Nat):Int)):=by rw [← refillJ_pr M p j j];exact hR.c.mc.at (q:=1) hlt (by decide) rfl
            have q2:wr.cell? ⟨g,j * 5 + 2,none⟩ = some (.int .i64 (((M.f j).sh:Nat):Int)):=by rw [← refillJ_sh M p j j];exact hR.c.mc.at (q:=2) hlt (by decide) rfl
            have q3:wr.cell? ⟨g,j * 5 + 3,none⟩ = some (.int .i64 ((((refillJ M p j).f j).cr:Nat):Int)):=hR.c.mc.at (q:=3) hlt (by decide) rfl
            have q4:wr.frozen? ⟨g,j * 5 + 3,none⟩ = false:=hR.c.mc.row.frozenAt _
            have q5:wr.cell? ⟨g,o * 5 + 1,none⟩ = some (.int .i64 ((p:Nat):Int)):=by rw [← HPP.out,← refillJ_pr M p j o];exact hR.c.mc.at (q:=1) ho8 (by decide) rfl
            have q6:wr.cell? ⟨lg,0,none⟩ = some (.pointer (some ⟨g,o * 5,none⟩)):=by have e:=HHD.out _ _ hR.c;rw [HOO.out] at e;exact e
            have hmeas:8 - (j + 1) < 8 - j:=by omega
            by_cases hpr:(M.f j).pr = p
            · have hP:=hR.put (c:=(M.f j).sh) hlt
              rw [← refillJ_yes hpr] at hP
              have HP:=Lib.hid hP
              rw [hpr] at q1
              obtain ⟨sh,hsh⟩:∃ s,(M.f j).sh = s:=⟨_,rfl⟩
              obtain ⟨c0,hc0⟩:∃ s,((refillJ M p j).f j).cr = s:=⟨_,rfl⟩
              rw [hsh] at q2 HP
              rw [hc0] at q3
              have hpe:(((p:Nat):Int) == ((p:Nat):Int)) = true:=by simp
              clear hR hP hpr hsh hc0
              go_wp2
              go_region
              go_wp2
              exact ⟨⟨j + 1,by push_cast;rfl,hlt,HP.out.drew⟩,hmeas⟩
            · have hst:refillJ M p (j + 1) = refillJ M p j:=refillJ_no hpr
              obtain ⟨pj,hpj⟩:∃ s,(M.f j).pr = s:=⟨_,rfl⟩
              rw [hpj] at hpr q1
              have hpe:(((pj:Nat):Int) == ((p:Nat):Int)) = false:=by simp;omega
              have HS:=Lib.hid hst
              have HR:=Lib.hid hR
              clear hR hst hpj q2 q3 q4
              go_wp2
              go_region
              go_wp2
              exact ⟨⟨j + 1,by push_cast;rfl,hlt,by rw [HS.out];exact HR.out.drew⟩,hmeas⟩
          · have hge2':¬ ((j:Nat):Int) < 8:=by omega
            have hje:j = 8:=by omega
            subst hje
            have g3:=hR.fn
            have c4:=hR.c.best3 (fun k hk=>bests_lt hk) (bests_len M) HNE.out
            have hfl:=HFL.out
            rw [← hfl] at c4 hR
            have hch:topS (filled M (bests M)) (bests M) = chosen M:=rfl
            rw [hch] at c4
            have hx8:chosen M < 8:=by rw [← hch];exact bests_lt (topS_mem HNE.out)
            obtain ⟨x,hx⟩:∃ x,chosen M = x:=⟨_,rfl⟩
            have hcr1:=HCR.out
            rw [hx] at c4 hx8 hcr1
            obtain ⟨c',hc'⟩:∃ c',((filled M (bests M)).f x).cr = c' + 1:=⟨_,(Nat.succ_pred_eq_of_pos hcr1).symm⟩
            have hc1:(((c' + 1:Nat):Nat):Int) - 1 = ((c':Nat):Int):=by omega
            have hcb:c' ≤ 100:=by
             have e:=(HO.out.refill p 8).cr x hx8
             rw [← hfl,hc'] at e
             omega
            have hcw:IntKind.i64.wrap ((c':Nat):Int) = ((c':Nat):Int):=by rw [IntKind.wrap_i64];omega
            have HR:=Lib.hid hR
            have HC':=Lib.hid hc'
            have HXX:=Lib.hid hx
            unfold ptrS at c4
            clear hR hfl hch hx hcr1 hc' k0 k3
            go_wp2_with (go_at_call 73;refine c4.mono ?_;clear c4;rintro e V4 ⟨og4,n4,oc4,rfl,hc4,_,b4⟩;have hR4:=HR.out.below b4;have e4:V4.cell? ⟨g,x * 5 + 3,none⟩ = some (.int .i64 (((c':Nat):Int) + 1)):=(by have e:=hR4.c.mc.at (q:=3) hx8 (by decide) rfl;rw [HC'.out] at e;exact e);have z4:V4.frozen? ⟨g,x * 5 + 3,none⟩ = false:=hR4.c.mc.row.frozenAt _;have HP:=Lib.hid (hR4.put (c:=c') hx8))
            go_ret
            have hcm:chooseM M = { filled M (bests M) with f:=upd (filled M (bests M)).f x { (filled M (bests M)).f x with cr:=c' } }:=by
             unfold chooseM payS
             rw [HXX.out,HC'.out];rfl
            exact ⟨fun h=>absurd h hne,fun _=>⟨by rw [HXX.out];rfl,by rw [hcm];exact HP.out.c.stop.1,HP.out.c.stop.2⟩⟩
       · have h0':(((cr:Nat):Int) == 0) = false:=by simp;omega
         rw [if_neg (by omega)] at HFL
         obtain ⟨c',hc'⟩:∃ c',cr = c' + 1:=⟨_,(Nat.succ_pred_eq_of_pos h0).symm⟩
         have hc1:((cr:Nat):Int) - 1 = ((c':Nat):Int):=by omega
         have hcb:cr ≤ 100:=by rw [← HKC.out];exact HO.out.cr k hk8
         have hcw:IntKind.i64.wrap ((c':Nat):Int) = ((c':Nat):Int):=by rw [IntKind.wrap_i64];omega
         have HFL:=Lib.hid HFL
         have HC':=Lib.hid hc'
         clear hc'
         go_wp2_with (first
          | (go_at_call 73;refine c3.mono ?_;clear c3;rintro e V3 ⟨og,n3,oc3,rfl,hc3,_,b3⟩;clear g3;have hR3:=HR2.out.below b3;have e3:V3.cell? ⟨g,k * 5 + 3,none⟩ = some (.int .i64 ((cr:Nat):Int)):=(by rw [← HKC.out];exact hR3.c.mc.at hk8 (by decide) rfl);have g3:=hR3.fn;have c4:=hR3.c.best3 (fun k hk=>bests_lt hk) (bests_len M) HNE.out;rw [HK.out] at c4;unfold ptrS at c4)
          | (go_at_call 73;refine c4.mono ?_;clear c4;rintro e V4 ⟨og4,n4,oc4,rfl,hc4,_,b4⟩;have hR4:=hR3.below b4;have e4:V4.cell? ⟨g,k * 5 + 3,none⟩ = some (.int .i64 ((cr:Nat):Int)):=(by rw [← HKC.out];exact hR4.c.mc.at hk8 (by decide) rfl);have z4:V4.frozen? ⟨g,k * 5 + 3,none⟩ = false:=hR4.c.mc.row.frozenAt _;have HP:=Lib.hid (hR4.put (c:=c') hk8)))
         go_ret
         have hch:chosen M = k:=by unfold chosen;rw [HFL.out];exact HK.out
         have hcm:chooseM M = { M with f:=upd M.f k { M.f k with cr:=c' } }:=by
          unfold chooseM payS
          rw [HFL.out,hch,HKC.out,HC'.out];rfl
         exact ⟨fun h=>absurd h hne,fun _=>⟨by rw [hch];rfl,by rw [hcm];exact HP.out.c.stop.1,HP.out.c.stop.2⟩⟩
end Go.Am.Cha
