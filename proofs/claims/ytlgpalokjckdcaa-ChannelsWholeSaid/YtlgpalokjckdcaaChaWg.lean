/-
 Channels: what the law sends: its next frame, walked. Own work.
-/
import Derived.Test.YtlgpalokjckdcaaChaWB
import Derived.Test.YtlgpalokjckdcaaChaWC
import Derived.IntWalk
import Derived.Laws.OwnMore
namespace Go.Am.Cha
open Go Go.Am Go.Am.Lib Go.Lib Go.Proofs Go.RowKit
open Go.Am.Own
open Go.Am.Tmf (cellI)
set_option maxRecDepth 100000

variable {H:Nat → Prop} {W W0 w wr w':World} {B sb mb g cap N:Nat} {bk:Nat → Nat} {M M':MS} {ok:Bool} {bs ss:Nat → Int} {V V':Nat → Value} {R R':Nat → RowM}
set_option maxHeartbeats 12800000 in
theorem snext_at {fr:List L8} {ch:List Nat} {pk:List L8} {co:List Nat} (hS:Se H W B sb mb g cap bk M ok fr ch pk co w) (hI:OkI N M) (hco:co.length = pk.length) (hN:N + 1 ≤ 2 ^ 20) (hfr:fr.length ≤ 1000) (hch:ch.length ≤ 1000) (hpk:pk.length ≤ 1000) (wd:Nat) (hwd:wd < 2 ^ 32) :
 Calls Try.prog 35 #[.pointer (some ⟨sb,0,none⟩),.int .i64 ((wd:Nat):Int)] w fun e w'=>e = .returned (.tuple #[]) ∧ Se H W B sb mb g cap bk (nextM M) (ok && decide (nextE M = 0)) (fr ++ [(nextS M wd).data.toList]) (ch ++ [nextK M]) pk co w':=by
 obtain ⟨bs,ss,v0,v1,v2,v3,v4,v5,v6,l4,l5,l6,hl4,hl5,hl6,hBd,hG⟩:=hS
 obtain ⟨o0,c0,rfl⟩:=ownsRow_slice hG.rw0
 obtain ⟨o1,c1,rfl⟩:=ownsRow_slice hG.rw1
 obtain ⟨o2,c2,rfl⟩:=ownsRow_slice hG.rw2
 obtain ⟨o3,c3,rfl⟩:=ownsRow_slice hG.rw3
 obtain ⟨o4,c4,rfl⟩:=ownsRow_slice hG.rw4
 obtain ⟨o5,c5,rfl⟩:=ownsRow_slice hG.rw5
 obtain ⟨o6,c6,rfl⟩:=ownsRow_slice hG.rw6
 simp only [hco,hl4,hl5,hl6] at hG
 obtain ⟨n,hn⟩:∃ n,pk.length = n:=⟨_,rfl⟩
 obtain ⟨nf,hnf⟩:∃ n,fr.length = n:=⟨_,rfl⟩
 obtain ⟨nc,hnc⟩:∃ n,ch.length = n:=⟨_,rfl⟩
 rw [hn,hnf,hnc] at hG
 rw [hn,hnf] at hBd
 rw [hn] at hco hl4 hl5 hl6 hpk
 rw [hnf] at hfr
 rw [hnc] at hch
 obtain ⟨R,hR⟩:∃ R,rowsT (.slice o0 nf c0) (.slice o1 nc c1) (.slice o2 n c2) (.slice o3 n c3) (.slice o4 n c4) (.slice o5 n c5) (.slice o6 n c6) fr ch pk co l4 l5 l6 = R:=⟨_,rfl⟩
 rw [hR] at hG
 obtain ⟨V,hV⟩:∃ V,V7 (.slice o0 nf c0) (.slice o1 nc c1) (.slice o2 n c2) (.slice o3 n c3) (.slice o4 n c4) (.slice o5 n c5) (.slice o6 n c6) = V:=⟨_,rfl⟩
 rw [hV] at hG
 have ho:=hI.ok
 have hG1:=hG.hold (.cells #[.int .i64 0,.int .i64 0,.int .i64 0,.int .i64 0,.int .i64 0,.int .i64 0,.int .i64 0,.int .i64 0] 38)
 have hk1:=heap_alloc_new w (.cells #[.int .i64 0,.int .i64 0,.int .i64 0,.int .i64 0,.int .i64 0,.int .i64 0,.int .i64 0,.int .i64 0] 38)
 have hab:¬ H w.heap.size:=fun e=>Nat.lt_irrefl _ (hG.lt _ e)
 have hAs:As H W (w.alloc (.cells #[.int .i64 0,.int .i64 0,.int .i64 0,.int .i64 0,.int .i64 0,.int .i64 0,.int .i64 0,.int .i64 0] 38)):=by
  have hb:=(Below.refl w.heap.size w).alloc (Nat.le_refl _) (.cells #[.int .i64 0,.int .i64 0,.int .i64 0,.int .i64 0,.int .i64 0,.int .i64 0,.int .i64 0,.int .i64 0] 38)
  exact ⟨hG.os,hG.tape,hG.output,Nat.le_trans hG.size hb.size,fun k hk=>(hb.block k (hG.lt k hk)).trans (hG.block k hk)⟩
 obtain ⟨w1,hw1⟩:∃ w1,w.alloc (.cells #[.int .i64 0,.int .i64 0,.int .i64 0,.int .i64 0,.int .i64 0,.int .i64 0,.int .i64 0,.int .i64 0] 38) = w1:=⟨_,rfl⟩
 rw [hw1] at hG1 hk1 hAs
 obtain ⟨ab,habq⟩:∃ a,w.heap.size = a:=⟨_,rfl⟩
 rw [habq] at hG1 hk1 hab
 obtain ⟨H1,hH1⟩:∃ H1:Nat → Prop,(fun k=>H k ∨ k = ab) = H1:=⟨_,rfl⟩
 have hm:H1 ab:=by rw [← hH1];exact .inr rfl
 have hHH:∀ k,H k → H1 k:=fun k hk=>by rw [← hH1];exact .inl hk
 rw [hH1] at hG1
 have HRV:=Lib.hid (And.intro hR hV)
 have hCN:∀ (Wq wr:World),Sg H1 Wq B sb mb g cap bk M ok bs ss V R wr → _:=fun Wq wr hG=>hG.nextC ho wd hwd
 have hwn:∀ k,k < 8 → _:=fun k hk=>wait_next hI hk
 have hK8:=nextK_lt M
 have ho2:=(okI_next hI hN).ok
 obtain ⟨M2,hM2⟩:∃ M2,nextM M = M2:=⟨_,rfl⟩
 obtain ⟨nk,hnk⟩:∃ k,nextK M = k:=⟨_,rfl⟩
 obtain ⟨ns,hns⟩:∃ s,nextS M wd = s:=⟨_,rfl⟩
 obtain ⟨ne,hne⟩:∃ s,nextE M = s:=⟨_,rfl⟩
 rw [hM2,hns,hne] at hCN
 rw [hM2,hnk] at hwn
 rw [hnk] at hK8
 rw [hM2] at ho2
 rw [hM2,hne,hns,hnk]
 have HCN:=Lib.hid hCN
 have HWN:=Lib.hid hwn
 have HO2:=Lib.hid ho2
 clear hG hH1 hR hV hCN hwn ho2 hM2 hnk hns hne
 go_enter Try.func35,Try.ntmps35
 go_wp2
 go_loopw [5] (fun iv wr=>∃ (j:Nat) (Wq:World),iv = .int .i64 (j:Nat) ∧ j ≤ 8 ∧ As H W Wq ∧ Sg H1 Wq B sb mb g cap bk M ok bs ss V R wr ∧ Wq.heap[ab]? = some (.cells (arr8 (befQ M j)) 38 (0,0))) (fun iv _=>8 - iOf iv)
 case atStart=>exact ⟨0,w1,rfl,Nat.zero_le _,hAs,hG1,hk1⟩
 case round =>
  clear hAs hG1 hk1 hw1
  obtain ⟨j,Wq,rfl,hj,hAs,hG,kq⟩:=hrel
  rcases Nat.lt_or_ge j 8 with hlt | hge
  · have hlt':((j:Nat):Int) < 8:=by omega
    have hmeas:8 - (j + 1) < 8 - j:=by omega
    have p0:=hG.pc
    have cW:=hG.wait ho hlt
    have hbs:=bef_set M hlt
    obtain ⟨wt,hwt⟩:∃ x,(M.f j).x.wait = x:=⟨_,rfl⟩
    rw [hwt] at cW hbs
    have HBS:=Lib.hid hbs
    have HK:=Lib.hid kq
    have HAS:=Lib.hid hAs
    clear hG hbs hwt kq hAs
    go_wp2_with (go_at_call 18;refine cW.mono ?_;clear cW;rintro e V1 ⟨rfl,hG2⟩;have kv:=(hG2.block ab hm).trans HK.out;have c1:V1.cell? ⟨ab,j,none⟩ = some (.int .i64 (befQ M j j)):=(cell_of kv).trans (arr8_at _ hlt);have f1:=fz_of kv j;have HG2:=Lib.hid hG2;clear hG2 kv)
    have hz:=set_at (o:=j) (v:=.int .i64 ((wt:Nat):Int)) HK.out
    rw [HBS.out] at hz
    exact ⟨⟨j + 1,_,by push_cast;rfl,hlt,HAS.out.setH hab j _,HG2.out.setH hm j _,hz⟩,hmeas⟩
  · have hge':¬ ((j:Nat):Int) < 8:=by omega
    obtain rfl:j = 8:=by omega
    have p0:=hG.pc
    have cN:=HCN.out _ _ hG
    have hcw:IntKind.u32.wrap ((wd:Nat):Int) = ((wd:Nat):Int):=by
     unfold IntKind.wrap
     simp [IntKind.signed,IntKind.bits]
     omega
    have HK:=Lib.hid kq
    have HAS:=Lib.hid hAs
    clear hG kq hAs
    go_wp2_with (go_at_call 21;refine cN.mono ?_;clear cN;rintro e V2 ⟨rfl,hG3⟩)
    clear p0
    go_loopw [8,9] (fun cv iv wr=>∃ (q:Nat),cv = .int .i64 (((if nk < q then nk else 7:Nat):Nat):Int) ∧ iv = .int .i64 (q:Nat) ∧ q ≤ 8 ∧ Sg H1 Wq B sb mb g cap bk M2 ok bs ss V R wr) (fun _ iv _=>8 - iOf iv)
    case atStart=>exact ⟨0,by rw [if_neg (by omega)];rfl,rfl,Nat.zero_le _,hG3⟩
    case round =>
     clear hG3
     obtain ⟨q,rfl,rfl,hq,hG⟩:=hrel
     have ho2:=HO2.out
     rcases Nat.lt_or_ge q 8 with hlt | hge
     · have hlt':((q:Nat):Int) < 8:=by omega
       have hmeas:8 - (q + 1) < 8 - q:=by omega
       have p0:=hG.pc
       have cW:=hG.drew.wait ho2 hlt
       have kv:=(hG.block ab hm).trans HK.out
       have c1h:=Lib.hid (show (arr8 (befQ M 8))[q]? = some (.int .i64 (((M.f q).x.wait:Nat):Int)) from (arr8_at _ hlt).trans (by unfold befQ;rw [if_pos hlt]))
       have c1:wr.cell? ⟨ab,q,none⟩ = some (.int .i64 (((M.f q).x.wait:Nat):Int)):=((cell_of kv).trans (arr8_at _ hlt)).trans (by unfold befQ;rw [if_pos hlt])
       have hw2:=HWN.out q hlt
       obtain ⟨wt,hwt⟩:∃ x,(M.f q).x.wait = x:=⟨_,rfl⟩
       obtain ⟨wt2,hwt2⟩:∃ x,(M2.f q).x.wait = x:=⟨_,rfl⟩
       rw [hwt] at c1 hw2 c1h
       rw [hwt2] at cW hw2
       have hst:(wt2 = wt ∧ (if nk < q + 1 then nk else 7) = (if nk < q then nk else 7)) ∨ (wt2 ≠ wt ∧ (if nk < q + 1 then nk else 7) = q):=by
        rcases hw2 with ⟨e1,e2⟩ | ⟨e1,e2⟩
        · left
          refine ⟨e1,?_⟩
          by_cases h1:nk < q
          · rw [if_pos h1,if_pos (by omega)]
          · by_cases h2:nk = q
            · have:=e2 h2.symm
              rw [if_neg h1,if_pos (by omega)];omega
            · rw [if_neg h1,if_neg (by omega)]
        · right
          exact ⟨e1,by rw [if_pos (by omega)];omega⟩
       obtain ⟨cv,hcv⟩:∃ c,(if nk < q then nk else 7) = c:=⟨_,rfl⟩
       rw [hcv] at hst
       rw [hcv]
       have HG:=Lib.hid hG
       clear hG hwt hwt2 hw2 hcv kv
       rcases hst with ⟨e1,hst⟩ | ⟨e1,hst⟩
       case' inl=>have hcmp:(((wt2:Nat):Int) != ((wt:Nat):Int)) = false:=by rw [e1];simp
       case' inr=>have hcmp:(((wt2:Nat):Int) != ((wt:Nat):Int)) = true:=by simp;omega
       all_goals
        have HS:=Lib.hid hst
        clear hst
        go_wp2
        go_region_held3 (fun w'=>w'.cell? ⟨ab,q,none⟩ = some (.int .i64 ((wt:Nat):Int)) ∧ w'.cell? ⟨sb,0,none⟩ = some (.pointer (some ⟨mb,0,none⟩))) (first | go_keep | assumption)
         ((go_at_call 18;refine cW.mono ?_;rintro e V5 ⟨rfl,h5⟩;have k5:=(cell_of ((h5.block ab hm).trans HK.out)).trans c1h.out;have k6:=h5.pc))
        all_goals
         go_wp2
         exact ⟨⟨q + 1,by rw [HS.out],by push_cast;rfl,hlt,h5⟩,hmeas⟩
     · have hge':¬ ((q:Nat):Int) < 8:=by omega
       obtain rfl:q = 8:=by omega
       rw [show (if nk < 8 then nk else 7) = nk from if_pos hK8]
       have hK8':((nk:Nat):Int) < 8:=by omega
       have p0:=hG.pc
       have p1:wr.cell? ⟨sb,16 + nk,none⟩ = some (.int .i64 (ss nk)):=(cell_of hG.cell).trans (sgC_ss _ _ _ _ _ hK8)
       have p2:wr.cell? ⟨ab,nk,none⟩ = some (.int .i64 (((M.f nk).x.wait:Nat):Int)):=((cell_of ((hG.block ab hm).trans HK.out)).trans (arr8_at _ hK8)).trans (by unfold befQ;rw [if_pos hK8])
       have cW:=hG.drew.wait ho2 hK8
       have HP1:=Lib.hid (fun w (h:Sg H1 Wq B sb mb g cap bk M2 ok bs ss V R w)=>(show w.cell? ⟨sb,16 + nk,none⟩ = some (.int .i64 (ss nk)) from (cell_of h.cell).trans (sgC_ss _ _ _ _ _ hK8)))
       have HP2:=Lib.hid (fun w (h:Sg H1 Wq B sb mb g cap bk M2 ok bs ss V R w)=>(show w.cell? ⟨ab,nk,none⟩ = some (.int .i64 (((M.f nk).x.wait:Nat):Int)) from ((cell_of ((h.block ab hm).trans HK.out)).trans (arr8_at _ hK8)).trans (by unfold befQ;rw [if_pos hK8])))
       have hb:=hBd.ss nk hK8
       obtain ⟨wt,hwt⟩:∃ x,(M.f nk).x.wait = x:=⟨_,rfl⟩
       obtain ⟨wt2,hwt2⟩:∃ x,(M2.f nk).x.wait = x:=⟨_,rfl⟩
       have w1:wt ≤ 66000:=by rw [← hwt];unfold Tmf.FS.wait;have:=(ho.x nk hK8).q;omega
       have w2:wt2 ≤ 66000:=by rw [← hwt2];unfold Tmf.FS.wait;have:=(ho2.x nk hK8).q;omega
       rw [hwt] at p2 HP2
       rw [hwt2] at cW
       obtain ⟨sn,hsn⟩:∃ x,ss nk = x:=⟨_,rfl⟩
       rw [hsn] at p1 hb HP1
       obtain ⟨s1,hs1⟩:∃ x,sn + ((wt:Nat):Int) = x:=⟨_,rfl⟩
       obtain ⟨nw,hnw⟩:∃ x,s1 - ((wt2:Nat):Int) = x:=⟨_,rfl⟩
       have hb1:-66000 * ((nf + 1:Nat):Int) ≤ nw ∧ nw ≤ 66000 * ((nf + 1:Nat):Int):=by
        push_cast;omega
       have hs2:IntKind.i64.wrap (sn + ((wt:Nat):Int)) = s1:=by rw [hs1];exact wrap_i64 (by omega) (by omega)
       have hs3:IntKind.i64.wrap (s1 - ((wt2:Nat):Int)) = nw:=by rw [hnw];exact wrap_i64 (by omega) (by omega)
       have HB:=Lib.hid hb1
       have HSN:=Lib.hid hsn
       clear hG hb hb1 w1 w2 hwt hwt2 hsn hs1 hnw
       go_wp2
       go_region_held3 (fun w'=>w'.cell? ⟨ab,nk,none⟩ = some (.int .i64 ((wt:Nat):Int)) ∧ w'.cell? ⟨sb,0,none⟩ = some (.pointer (some ⟨mb,0,none⟩)) ∧ w'.cell? ⟨sb,16 + nk,none⟩ = some (.int .i64 sn)) (first | go_keep | assumption)
        ((go_at_call 18;refine cW.mono ?_;rintro e V5 ⟨rfl,h5⟩;have k5:V5.cell? ⟨ab,nk,none⟩ = some (.int .i64 ((wt:Nat):Int)):=HP2.out _ h5;have k6:=h5.pc;have k7:V5.cell? ⟨sb,16 + nk,none⟩ = some (.int .i64 sn):=HP1.out _ h5))
       clear p0 p1 p2 cW k5 k6 k7 hs2 hs3 HCN HWN HK hcw
       obtain ⟨rfl,rfl⟩:=HRV.out
       clear HRV
       go_wp2
       go_loopw [12] (fun iv wr=>∃ (q:Nat) (l4 l5:List Int),iv = .int .i64 (q:Nat) ∧ q ≤ n ∧ l4.length = n ∧ l5.length = n ∧ Sg H1 Wq B sb mb g cap bk M2 ok bs ss (V7 (.slice o0 nf c0) (.slice o1 nc c1) (.slice o2 n c2) (.slice o3 n c3) (.slice o4 n c4) (.slice o5 n c5) (.slice o6 n c6)) (rowsT (.slice o0 nf c0) (.slice o1 nc c1) (.slice o2 n c2) (.slice o3 n c3) (.slice o4 n c4) (.slice o5 n c5) (.slice o6 n c6) fr ch pk co l4 l5 l6) wr) (fun iv _=>n - iOf iv)
       case atStart=>exact ⟨0,l4,l5,rfl,Nat.zero_le _,hl4,hl5,h5⟩
       case round =>
        clear h5
        obtain ⟨q,l4,l5,rfl,hq,hl4,hl5,hG⟩:=hrel
        rcases Nat.lt_or_ge q n with hlt | hge
        · have hlt':((q:Nat):Int) < ((n:Nat):Int):=by omega
          have hmeas:n - (q + 1) < n - q:=by omega
          obtain ⟨g2,rfl,z2⟩:=str_at (L:=pk) hG.rw2 hlt hn
          obtain ⟨g3,rfl,z3⟩:=num_at (L:=co) hG.rw3 hlt hco
          obtain ⟨g4,rfl,z4⟩:=lz_at hG.rw4 hlt hl4
          obtain ⟨g5,rfl,z5⟩:=lz_at hG.rw5 hlt hl5
          obtain ⟨g6,rfl,z6⟩:=lz_at hG.rw6 hlt hl6
          have HB6:0 ≤ l6.getD q 0 ∧ l6.getD q 0 ≤ 2000000:=hBd.l6 _ (by rw [List.getD_eq_getElem?_getD,List.getElem?_eq_getElem (by omega)];exact List.getElem_mem _)
          have HBp:(pk.getD q []).length ≤ 2000:=hBd.pk _ (by rw [List.getD_eq_getElem?_getD,List.getElem?_eq_getElem (by omega)];exact List.getElem_mem _)
          obtain ⟨zb,hzb⟩:∃ z,l6.getD q 0 = z:=⟨_,rfl⟩
          obtain ⟨cq,hcq⟩:∃ z,co.getD q 0 = z:=⟨_,rfl⟩
          obtain ⟨P,hP⟩:∃ z,strB (pk.getD q []) = z:=⟨_,rfl⟩
          obtain ⟨zf,hzf⟩:∃ z,l4.getD q 0 = z:=⟨_,rfl⟩
          have hps:P.size ≤ 2000:=by rw [← hP];exact HBp
          rw [hzb] at z6 HB6
          rw [hcq] at z3
          rw [hP] at z2
          rw [hzf] at z4
          have p0:=hG.pc
          have d2:wr.cell? ⟨sb,3,none⟩ = some (.slice (some ⟨g2,0,none⟩) n c2):=cell_of hG.cell
          have d3:wr.cell? ⟨sb,4,none⟩ = some (.slice (some ⟨g3,0,none⟩) n c3):=cell_of hG.cell
          have d6:wr.cell? ⟨sb,24,none⟩ = some (.slice (some ⟨g6,0,none⟩) n c6):=cell_of hG.cell
          have d7:wr.cell? ⟨sb,16 + nk,none⟩ = some (.int .i64 sn):=(cell_of hG.cell).trans ((sgC_ss _ _ _ _ _ hK8).trans (by rw [HSN.out]))
          have z3':wr.cell? ⟨g3,q,none⟩ = some (.int .i64 ((cq:Nat):Int)):=z3
          obtain ⟨sm,hsm⟩:∃ x,zb + ((P.size:Nat):Int) = x:=⟨_,rfl⟩
          have hsw:IntKind.i64.wrap (zb + ((P.size:Nat):Int)) = sm:=by rw [hsm];exact wrap_i64 (by omega) (by omega)
          have HG:=Lib.hid hG
          clear hG hzb hcq hP z3 z5 HB6 HBp hps hsm
          by_cases h1:cq = nk
          · have h1':((((cq:Nat):Int)) == ((nk:Nat):Int)) = true:=by simp;omega
            by_cases h2:zb < nw
            · by_cases h3:sn < sm
              · have HZF:=Lib.hid hzf
                clear h1 z4
                go_wp2
                go_quiet (fail)
                have hG2:=HG.out.drewN nq
                clear p0 d2 d3 d6 d7 z2 z3' z6
                obtain ⟨wz,hwz⟩:∃ x,wr.drewN nq = x:=⟨_,rfl⟩
                rw [hwz] at hG2 ⊢
                clear hwz
                obtain ⟨_,⟨⟩,y4⟩:=lz_at hG2.rw4 hlt hl4
                rw [HZF.out] at y4
                obtain ⟨_,⟨⟩,y5⟩:=lz_at hG2.rw5 hlt hl5
                obtain ⟨zt,hzt⟩:∃ z,l5.getD q 0 = z:=⟨_,rfl⟩
                rw [hzt] at y5
                clear hzt
                have d0:wz.cell? ⟨sb,1,none⟩ = some (.slice o0 nf c0):=cell_of hG2.cell
                have d4:wz.cell? ⟨sb,5,none⟩ = some (.slice (some ⟨g4,0,none⟩) n c4):=cell_of hG2.cell
                have d5:wz.cell? ⟨sb,6,none⟩ = some (.slice (some ⟨g5,0,none⟩) n c5):=cell_of hG2.cell
                have f4:wz.frozen? ⟨g4,q,none⟩ = false:=by have h:=hG2.rw4;rw [hl4] at h;exact h.frozenAt q
                have f5:wz.frozen? ⟨g5,q,none⟩ = false:=by have h:=hG2.rw5;rw [hl5] at h;exact h.frozenAt q
                have HG2:=Lib.hid hG2
                clear hG2
                by_cases h4:zf < 0
                · have hS1:=(HG2.out.set4 hl4 q ((nf:Nat):Int)).drew
                  have HS1:=Lib.hid hS1
                  clear hS1
                  go_wp2
                  go_region
                  go_wp2
                  clear y4 y5 d0 d4 d5 f4 f5
                  have hS1:=HS1.out
                  obtain ⟨wy,hwy⟩:∃ x,(wz.setCell ⟨g4,q,none⟩ (.int .i64 ((nf:Nat):Int))).drew = x:=⟨_,rfl⟩
                  rw [hwy] at hS1 ⊢
                  clear hwy HS1
                  have hl4':(l4.set q ((nf:Nat):Int)).length = n:=by rw [List.length_set];exact hl4
                  obtain ⟨_,⟨⟩,y5⟩:=lz_at hS1.rw5 hlt hl5
                  obtain ⟨zt,hzt⟩:∃ z,l5.getD q 0 = z:=⟨_,rfl⟩
                  rw [hzt] at y5
                  clear hzt
                  have d0:wy.cell? ⟨sb,1,none⟩ = some (.slice o0 nf c0):=cell_of hS1.cell
                  have d5:wy.cell? ⟨sb,6,none⟩ = some (.slice (some ⟨g5,0,none⟩) n c5):=cell_of hS1.cell
                  have f5:wy.frozen? ⟨g5,q,none⟩ = false:=by have h:=hS1.rw5;rw [hl5] at h;exact h.frozenAt q
                  have hS2:=hS1.drew.set5 hl5 q ((nf:Nat):Int)
                  have HS1:=Lib.hid hS2
                  clear hS2 hS1
                  go_region
                  go_wp2
                  exact ⟨⟨q + 1,_,l5.set q _,by push_cast;rfl,hlt,hl4',by rw [List.length_set];exact hl5,HS1.out⟩,hmeas⟩
                · have hS1:=HG2.out.drew.set5 hl5 q ((nf:Nat):Int)
                  have HS1:=Lib.hid hS1
                  clear hS1
                  go_wp2
                  go_region
                  go_wp2
                  exact ⟨⟨q + 1,l4,l5.set q _,by push_cast;rfl,hlt,hl4,by rw [List.length_set];exact hl5,HS1.out⟩,hmeas⟩
              · have h3':decide (sn < sm) = false:=by simp;omega
                clear h1 z4
                go_wp2
                go_quiet (fail)
                go_wp2
                exact ⟨⟨q + 1,l4,l5,by push_cast;rfl,hlt,hl4,hl5,HG.out.drewN _⟩,hmeas⟩
            · have h2':decide (zb < nw) = false:=by simp;omega
              clear h1 z4
              go_wp2
              go_quiet (fail)
              go_wp2
              exact ⟨⟨q + 1,l4,l5,by push_cast;rfl,hlt,hl4,hl5,HG.out.drewN _⟩,hmeas⟩
          · have h1':((((cq:Nat):Int)) == ((nk:Nat):Int)) = false:=by simp;omega
            clear z4
            go_wp2
            go_quiet (fail)
            go_wp2
            exact ⟨⟨q + 1,l4,l5,by push_cast;rfl,hlt,hl4,hl5,HG.out.drewN _⟩,hmeas⟩
        · have hge':¬ ((q:Nat):Int) < ((n:Nat):Int):=by omega
          obtain rfl:q = n:=by omega
          have d7:wr.cell? ⟨sb,16 + nk,none⟩ = some (.int .i64 (ss nk)):=(cell_of hG.cell).trans (sgC_ss _ _ _ _ _ hK8)
          have d8:=fz_of hG.cell (16 + nk)
          have d2:wr.cell? ⟨sb,3,none⟩ = some (.slice o2 q c2):=cell_of hG.cell
          have hG2:=hG.put (sgC_setss mb ok bs ss _ hK8 nw)
          obtain ⟨wz,hwz⟩:∃ x,wr.setCell ⟨sb,16 + nk,none⟩ (.int .i64 nw) = x:=⟨_,rfl⟩
          rw [hwz] at hG2
          have HG:=Lib.hid (And.intro hG2 hwz)
          clear hG hG2 hwz
          go_wp2
          have hG2:=HG.out.1
          rw [HG.out.2]
          clear HG d7 d8 d2
          refine wp_conv (c':=Code.region 22 rg_next_r22.toArray true) (by kernel_rfl) ?_
          refine next_r22 (ns:=ns) (nk:=nk) (n0:=nf) (n1:=nc) (k0:=c0) (k1:=c1) (o0:=o0) (o1:=o1) rfl rfl rfl rfl hG2 rfl rfl (by rw [← hnf];exact Tmf.cellS_len fr) (by unfold maxLen;omega) (by omega) rfl rfl (by rw [← hnc];exact Tmf.cellI_len ch) (by unfold maxLen;omega) (by omega) ?_
          rintro σ w8 hG8 ⟨g8,c8,s8⟩ ⟨g9,c9,s9⟩
          rw [jV_22,jR_22,s8,s9] at hG8
          rw [all_next_r22]
          have hBd2:Bd bs (updI ss nk nw) (fr ++ [ns.data.toList]).length pk.length pk l6:=by
           rw [List.length_append,hnf,hn]
           exact hBd.next HB.out
          have hend:∀ (b:Bool),Se H W B sb mb g cap bk M2 b (fr ++ [ns.data.toList]) (ch ++ [nk]) pk co (w8.setCell ⟨sb,7,none⟩ (.bool b)):=fun b =>
           ⟨bs,updI ss nk nw,_,_,_,_,_,_,_,l4,l5,l6,hl4.trans hn.symm,hl5.trans hn.symm,hl6.trans hn.symm,hBd2,(hG8.put (sgC_setok mb ok b bs _ _)).rest hHH HAS.out.os HAS.out.tape HAS.out.output HAS.out.size HAS.out.block⟩
          have d7:w8.cell? ⟨sb,7,none⟩ = some (.bool ok):=cell_of hG8.cell
          have f7:=fz_of hG8.cell 7
          have HE:=Lib.hid hend
          clear s8 s9 hG8 hG2 hBd hBd2 hend hl4 hl5 hl6 HAS HB hnf hnc hn hHH
          cases ok with
          | false =>
           go_wp2
           go_end0
           exact ⟨rfl,HE.out false⟩
          | true =>
           by_cases hz:ne = 0
           · have hz1:(ne == 0) = true:=by rw [hz];rfl
             have HZ2:=Lib.hid (show decide (ne = 0) = true from decide_eq_true hz)
             clear hz
             go_wp2
             go_end0
             refine ⟨rfl,?_⟩
             rw [HZ2.out]
             exact HE.out true
           · have hz1:(ne == 0) = false:=by simp;exact hz
             have HZ2:=Lib.hid (show decide (ne = 0) = false from decide_eq_false hz)
             clear hz
             go_wp2
             go_end0
             refine ⟨rfl,?_⟩
             rw [HZ2.out]
             exact HE.out false
end Go.Am.Cha
