/-
 Channels: the law's frames: transmit, walked. Own work; printed by gen/mkwt.py.
-/
import Derived.Test.YtlgpalokjckdcaaChaWC
import Derived.Test.YtlgpalokjckdcaaChaWB

import Derived.Test.YtlgpalokjckdcaaChaMm
import Derived.Test.YtlgpalokjckdcaaChaWg
namespace Go.Am.Cha
open Go Go.Am Go.Am.Lib Go.Lib Go.Proofs Go.RowKit
open Go.Am.Own
open Go.Am.Tmf (cellI)
set_option maxRecDepth 100000

variable {w0:World}
/-- What transmit returns. -/
def TrE (w0:World) (D0:Dm) (e:Ending) (w':World):Prop:=∃ (M:MS) (fr:List L8) (ch:List Nat) (pk:List L8) (co:List Nat) (v0 v1 v2 v3 v4 v5:Value),e = .returned (.agg #[v0,v1,v2,v3,v4,v5,.bool true]) ∧ Below w0.heap.size w0 w' ∧ w'.ownsRow w0.heap.size 9 1 v0 fr.length (cellS fr) ∧ w'.ownsRow w0.heap.size 3 1 v1 ch.length (cellI ch) ∧ w'.ownsRow w0.heap.size 9 1 v2 pk.length (cellS pk) ∧ w'.ownsRow w0.heap.size 3 1 v3 co.length (cellI co) ∧ Tx D0 M fr ch pk co ∧ (∀ k,k < 8 → (M.f k).x.wait = 0) ∧ fr.length ≤ 450 ∧ pk.length ≤ 40 ∧ (∀ p ∈ pk,p.length ≤ 2000) ∧ (∃ o n c,v4 = .slice o n c) ∧ ∃ o n c,v5 = .slice o n c
section
variable {H:Nat → Prop} {W w:World} {B sb mb g cap N:Nat} {bk:Nat → Nat} {M:MS} {ok:Bool} {fr pk:List L8} {ch co:List Nat}
theorem Se.waitC (h:Se H W B sb mb g cap bk M ok fr ch pk co w) (ho:OkM N M) {k:Nat} (hk:k < 8):Calls Try.prog 18 #[.pointer (some ⟨mb,0,none⟩),.int .i64 ((k:Nat):Int)] w fun e w'=>e = .returned (.int .i64 (((M.f k).x.wait:Nat):Int)) ∧ Se H W B sb mb g cap bk M ok fr ch pk co w':=by
 obtain ⟨bs,ss,v0,v1,v2,v3,v4,v5,v6,l4,l5,l6,hl4,hl5,hl6,hBd,hG⟩:=h
 exact (hG.wait ho hk).mono fun e w' hh=>⟨hh.1,bs,ss,v0,v1,v2,v3,v4,v5,v6,l4,l5,l6,hl4,hl5,hl6,hBd,hh.2⟩
theorem Se.ok7 (h:Se H W B sb mb g cap bk M ok fr ch pk co w):w.cell? ⟨sb,7,none⟩ = some (.bool ok) ∧ w.frozen? ⟨sb,7,none⟩ = false:=by
 obtain ⟨bs,ss,v0,v1,v2,v3,v4,v5,v6,l4,l5,l6,hl4,hl5,hl6,hBd,hG⟩:=h
 exact ⟨cell_of hG.cell,fz_of hG.cell 7⟩
theorem Se.put7 (h:Se H W B sb mb g cap bk M ok fr ch pk co w):Se H W B sb mb g cap bk M true fr ch pk co (w.setCell ⟨sb,7,none⟩ (.bool true)):=by
 obtain ⟨bs,ss,v0,v1,v2,v3,v4,v5,v6,l4,l5,l6,hl4,hl5,hl6,hBd,hG⟩:=h
 exact ⟨bs,ss,v0,v1,v2,v3,v4,v5,v6,l4,l5,l6,hl4,hl5,hl6,hBd,hG.put (sgC_setok mb ok true bs ss _)⟩
theorem TrE.fin {w0 W1 wr w':World} {D0:Dm} {bs ss:Nat → Int} {v0 v1 v2 v3 v4 v5 v6:Value} {l4 l5 l6:List Int} {L P:Nat} (hG:Sg H W1 B sb mb g cap bk M true bs ss (V7 v0 v1 v2 v3 v4 v5 v6) (rowsT v0 v1 v2 v3 v4 v5 v6 fr ch pk co l4 l5 l6) wr) (hBd:Bd bs ss L P pk l6) (ho:OnlyB (w0.heap.size + 1) wr w') (hH:∀ k,k < w0.heap.size + 2 → H k) (hb:Below w0.heap.size w0 W1) (hs:W1.heap.size = w0.heap.size + 2) (hB:W1.heap.size = B) (hT:Tx D0 M fr ch pk co) (hz:∀ k,k < 8 → (M.f k).x.wait = 0) (hf:fr.length ≤ 450) (hp:pk.length ≤ 40):TrE w0 D0 (.returned (.agg #[v0,v1,v2,v3,v4,v5,.bool true])) w':=by
 have up:∀ {e:TypeId} {v:Value} {n:Nat} {xs:List Value},wr.ownsRow B e 1 v n xs → w'.ownsRow w0.heap.size e 1 v n xs:=fun h=>ownsRow_up (ownsRow_keep h fun k hk=>ho.rest k fun e=>by have:=(h.lt k hk).1;omega) (by omega)
 refine ⟨M,fr,ch,pk,co,v0,v1,v2,v3,v4,v5,rfl,⟨?_,?_,?_,?_,fun k hk=>?_⟩,up hG.rw0,up hG.rw1,up hG.rw2,up hG.rw3,hT,hz,hf,hp,hBd.pk,?_,?_⟩
 · exact ho.os.trans (hG.os.trans hb.os)
 · exact ho.tape.trans (hG.tape.trans hb.tape)
 · exact ho.output.trans (hG.output.trans hb.output)
 · rw [ho.size];exact Nat.le_trans hb.size hG.size
 · exact (ho.rest k (by omega)).trans ((hG.block k (hH k (by omega))).trans (hb.block k hk))
 · obtain ⟨o,c,h⟩:=ownsRow_slice hG.rw4;exact ⟨_,_,_,h⟩
 · obtain ⟨o,c,h⟩:=ownsRow_slice hG.rw5;exact ⟨_,_,_,h⟩
end
abbrev NbP (m:Nat):Prop:=m + 1 ≤ maxLen ∧ (m + 1) * 16 ≤ 140737488355328 ∧ (m + 1) * 8 ≤ 140737488355328
theorem NB {ps:ByteArray} {s1 i n:Nat} {pk:List L8} {co:List Nat} {l4 l5 l6:List Int} {A1 A2 A3 A4 A5:Prop} (h:A1 ∧ A2 ∧ A3 ∧ A4 ∧ ps.size = 7 + s1 ∧ pk.length = i) (hl:l4.length = pk.length ∧ l5.length = pk.length ∧ l6.length = pk.length ∧ A5) (hc:co.length = pk.length) (hi:i < n) (hn:n ≤ 40) :
 NbP pk.length ∧ NbP co.length ∧ NbP l4.length ∧ NbP l5.length ∧ NbP l6.length:=by
 obtain ⟨-,-,-,-,-,hp⟩:=h
 obtain ⟨h4,h5,h6,-⟩:=hl
 have hm:maxLen = 9223372036854775807:=rfl
 unfold NbP
 rw [hm]
 omega
set_option maxHeartbeats 12800000 in
theorem tran_yes (c z:Nat) (P Q:Nat → Int) (ao:Option Addr) (n cap:Nat) (hn:n ≤ 40) (hc255:c ≤ 255) (hz32:32 ≤ z) (hz200:z ≤ 200) (hPQ:∀ k,k < 8 → okPQ P Q k) (hcs:LdM w0 ao n) :
 Calls Try.prog 14 #[.agg (setC ((c:Nat):Int) ((z:Nat):Int) P Q),.slice ao n cap] w0 (TrE w0 (dm0 c z)):=by
 have hb0:=(Below.refl _ w0).alloc (Nat.le_refl _) (.cells (setC ((c:Nat):Int) ((z:Nat):Int) P Q) 40)
 have hx0:=heap_alloc_new w0 (.cells (setC ((c:Nat):Int) ((z:Nat):Int) P Q) 40)
 obtain ⟨W0,hW0⟩:∃ W,w0.alloc (.cells (setC ((c:Nat):Int) ((z:Nat):Int) P Q) 40) = W:=⟨_,rfl⟩
 have hs0:W0.heap.size = w0.heap.size + 1:=by rw [← hW0];exact alloc_size w0 _
 rw [hW0] at hb0 hx0
 have hb1:=(Below.refl _ W0).alloc (Nat.le_refl _) (.cells #[.slice none 0 0,.slice none 0 0,.slice none 0 0,.slice none 0 0,.slice none 0 0,.slice none 0 0,.bool false] 45)
 have hx1:=(hb1.block _ (Array.getElem?_eq_some_iff.1 hx0).1).trans hx0
 have hk0:=heap_alloc_new W0 (.cells #[.slice none 0 0,.slice none 0 0,.slice none 0 0,.slice none 0 0,.slice none 0 0,.slice none 0 0,.bool false] 45)
 obtain ⟨W1,hW1⟩:∃ W,W0.alloc (.cells #[.slice none 0 0,.slice none 0 0,.slice none 0 0,.slice none 0 0,.slice none 0 0,.slice none 0 0,.bool false] 45) = W:=⟨_,rfl⟩
 have hs1:W1.heap.size = w0.heap.size + 2:=by rw [← hW1,alloc_size,hs0]
 rw [hW1] at hb1 hx1 hk0
 rw [hs0] at hk0
 have hB01:Below w0.heap.size w0 W1:=hb0.trans (hb1.mono hb0.size)
 have HB01:=Lib.hid (And.intro hB01 hs1)
 have cM:=(newmux_at ((c:Nat):Int) ((z:Nat):Int) P Q W1).mono fun e w' hh=>hh.1 ⟨by omega,by omega,by omega,by omega,hPQ⟩
 simp only [Int.toNat_natCast] at cM
 unfold arr8 at cM
 have hI0:=okI_made hc255 hz32 hz200 hPQ
 have hT0:Tx (dm0 c z) ⟨c,z,0,sr0 z P Q⟩ [] [] [] []:=Tx.start hz32 hz200 rfl rfl fun k hk=>rfl
 have HI0:=Lib.hid (And.intro hI0 hT0)
 have x0:W1.cell? ⟨w0.heap.size,0,none⟩ = some (.int .i64 ((c:Nat):Int)):=cell_of hx1
 have x1:W1.cell? ⟨w0.heap.size,1,none⟩ = some (.int .i64 ((z:Nat):Int)):=cell_of hx1
 have x2:W1.cell? ⟨w0.heap.size,2,none⟩ = some (.int .i64 (P 0)):=cell_of hx1
 have x3:W1.cell? ⟨w0.heap.size,3,none⟩ = some (.int .i64 (P 1)):=cell_of hx1
 have x4:W1.cell? ⟨w0.heap.size,4,none⟩ = some (.int .i64 (P 2)):=cell_of hx1
 have x5:W1.cell? ⟨w0.heap.size,5,none⟩ = some (.int .i64 (P 3)):=cell_of hx1
 have x6:W1.cell? ⟨w0.heap.size,6,none⟩ = some (.int .i64 (P 4)):=cell_of hx1
 have x7:W1.cell? ⟨w0.heap.size,7,none⟩ = some (.int .i64 (P 5)):=cell_of hx1
 have x8:W1.cell? ⟨w0.heap.size,8,none⟩ = some (.int .i64 (P 6)):=cell_of hx1
 have x9:W1.cell? ⟨w0.heap.size,9,none⟩ = some (.int .i64 (P 7)):=cell_of hx1
 have x10:W1.cell? ⟨w0.heap.size,10,none⟩ = some (.int .i64 (Q 0)):=cell_of hx1
 have x11:W1.cell? ⟨w0.heap.size,11,none⟩ = some (.int .i64 (Q 1)):=cell_of hx1
 have x12:W1.cell? ⟨w0.heap.size,12,none⟩ = some (.int .i64 (Q 2)):=cell_of hx1
 have x13:W1.cell? ⟨w0.heap.size,13,none⟩ = some (.int .i64 (Q 3)):=cell_of hx1
 have x14:W1.cell? ⟨w0.heap.size,14,none⟩ = some (.int .i64 (Q 4)):=cell_of hx1
 have x15:W1.cell? ⟨w0.heap.size,15,none⟩ = some (.int .i64 (Q 5)):=cell_of hx1
 have x16:W1.cell? ⟨w0.heap.size,16,none⟩ = some (.int .i64 (Q 6)):=cell_of hx1
 have x17:W1.cell? ⟨w0.heap.size,17,none⟩ = some (.int .i64 (Q 7)):=cell_of hx1
 have HK0:=Lib.hid (And.intro hk0 hx1)
 clear hI0 hT0 hPQ hc255 hz32 hz200 hb0 hb1 hx0 hx1 hB01 hk0 hs1
 go_enter Try.func14,Try.ntmps14
 go_wp2_with (go_at_call 15;refine cM.mono ?_;clear cM;rintro e W2 ⟨mb,g,gc,bk,rfl,hm,b2⟩;obtain ⟨sb,hsb⟩:∃ x,W2.heap.size = x:=⟨_,rfl⟩;clear x0 x1 x2 x3 x4 x5 x6 x7 x8 x9 x10 x11 x12 x13 x14 x15 x16 x17)
 have hG0:=Sg.start (ok:=true) b2 hm
 rw [hsb] at hG0
 have hS0:=Se.of hG0 rfl rfl rfl Bd.zero
 obtain ⟨H,hH⟩:∃ H:Nat → Prop,(fun k=>k < W1.heap.size) = H:=⟨_,rfl⟩
 obtain ⟨B,hB⟩:∃ B,W1.heap.size = B:=⟨_,rfl⟩
 have hHm:∀ k,k < w0.heap.size + 2 → H k:=by
  rw [← hH,HB01.out.2]
  exact fun k hk=>hk
 rw [hH,hB] at hS0
 clear hG0 hm hH hsb b2
 go_loopw [8] (fun iv wr=>∃ (i N:Nat) (M:MS) (fr:List L8) (ch:List Nat) (pk:List L8) (co:List Nat),iv = .int .i64 (i:Nat) ∧ i ≤ n ∧ Se H W1 B sb mb g gc bk M true fr ch pk co wr ∧ OkI N M ∧ N ≤ 4 * i ∧ Tx (dm0 c z) M fr ch pk co ∧ pk.length = i ∧ fr.length ≤ 3 * i ∧ waits8 M ≤ 206 * i) (fun iv _=>n - iOf iv)
 case atStart=>exact ⟨0,0,_,[],[],[],[],rfl,Nat.zero_le _,hS0,HI0.out.1,Nat.zero_le _,HI0.out.2,rfl,Nat.zero_le _,Nat.le_of_eq rfl⟩
 case round =>
  clear hS0
  obtain ⟨i,N,M,fr,ch,pk,co,rfl,hi,hS,hI,hN,hT,hpk,hfr,hwt⟩:=hrel
  rcases Nat.lt_or_ge i n with hlt | hge
  · have hlt':((i:Nat):Int) < ((n:Nat):Int):=by omega
    have hmeas:n - (i + 1) < n - i:=by omega
    obtain ⟨a,x,y,q,rfl,k1,k2,k3,kb⟩:=hcs i hlt
    obtain ⟨ai,hai⟩:∃ ai,a.add (i * 3) = ai:=⟨_,rfl⟩
    rw [hai] at k1 k2 k3 kb
    have hBL:∀ W:World,(∀ k,H k → W.heap[k]? = W1.heap[k]?) → (W.cell? ai = some (.int .i64 x) ∧ W.cell? ⟨ai.block,ai.off + 1,none⟩ = some (.int .i64 y) ∧ W.cell? ⟨ai.block,ai.off + 2,none⟩ = some (.int .i64 q)):=fun W hW=>by
     have hbk:W.heap[ai.block]? = w0.heap[ai.block]?:=(hW ai.block (hHm _ (by omega))).trans (HB01.out.1.block ai.block kb)
     exact ⟨(World.cell?_of_block hbk).trans k1,(World.cell?_of_block (a:=⟨ai.block,ai.off + 1,none⟩) hbk).trans k2,(World.cell?_of_block (a:=⟨ai.block,ai.off + 2,none⟩) hbk).trans k3⟩
    have HBL:=Lib.hid hBL
    clear k1 k2 k3 hBL kb
    obtain ⟨c1,hc1⟩:∃ k:Nat,x % 8 = (k:Int):=⟨(x % 8).toNat,by omega⟩
    have hc8:c1 < 8:=by omega
    obtain ⟨s1,hs1⟩:∃ k:Nat,y % 200 = (k:Int):=⟨(y % 200).toNat,by omega⟩
    have hs200:s1 < 200:=by omega
    obtain ⟨q1,hq1⟩:∃ k:Nat,q % 4 = (k:Int):=⟨(q % 4).toNat,by omega⟩
    have hq4:q1 < 4:=by omega
    have cP1:∀ w,Calls Try.prog 17 #[.int .i64 x,.int .i64 8] w fun e w'=>e = .returned (.int .i64 ((c1:Nat):Int)) ∧ Below w.heap.size w w':=fun w=>by
     have h:=pickM_calls x 8 (by decide) (by decide) w
     rw [hc1] at h;exact h
    have cP2:∀ w,Calls Try.prog 17 #[.int .i64 y,.int .i64 200] w fun e w'=>e = .returned (.int .i64 ((s1:Nat):Int)) ∧ Below w.heap.size w w':=fun w=>by
     have h:=pickM_calls y 200 (by decide) (by decide) w
     rw [hs1] at h;exact h
    have cP3:∀ w,Calls Try.prog 17 #[.int .i64 q,.int .i64 4] w fun e w'=>e = .returned (.int .i64 ((q1:Nat):Int)) ∧ Below w.heap.size w w':=fun w=>by
     have h:=pickM_calls q 4 (by decide) (by decide) w
     rw [hq1] at h;exact h
    obtain ⟨hE,hwt2⟩:=add_wait (i:=i) hI hc8 (show 7 ≤ 7 + s1 by omega) (show 7 + s1 ≤ 206 by omega) (by omega)
    have hT2:=hT.add hc8 (show 7 ≤ 7 + s1 by omega) (show 7 + s1 ≤ 206 by omega) hE
    have hI2:=hI.add (show N + 1 ≤ 2 ^ 20 by omega) hc8 (madeN (7 + s1) i)
    have hpz:(madeN (7 + s1) i).size = 7 + s1:=madeN_size (by omega)
    have cD:∀ w,Calls Try.prog 20 #[.int .i64 (7 + ((s1:Nat):Int)),.int .i64 ((i:Nat):Int)] w fun e w'=>e = .returned (.string (madeN (7 + s1) i)) ∧ Below w.heap.size w w':=fun w=>by
     have h:=madeN_calls (n:=7 + s1) (k:=i) (by omega) (by omega) (by omega) w
     push_cast at h;exact h
    have hpl:madeL (7 + s1) i = (madeN (7 + s1) i).data.toList:=rfl
    rw [hpl] at hT2
    obtain ⟨ps,hps⟩:∃ p,madeN (7 + s1) i = p:=⟨_,rfl⟩
    rw [hps] at hE hwt2 hT2 hI2 hpz cD
    have ho:=hI.ok
    have CP1:=Lib.hid cP1
    have CP2:=Lib.hid cP2
    have CP3:=Lib.hid cP3
    have CD:=Lib.hid cD
    have HTI:=Lib.hid (And.intro hT2 (And.intro hI2 (And.intro hwt2 (And.intro hE (And.intro hpz hpk)))))
    clear cP1 cP2 cP3 cD hT2 hI2 hwt2 hE hpl hps hc1 hs1 hq1 hpz hpk
    obtain ⟨k1,-,-⟩:=HBL.out wr fun k hk=>(hS.block hk).1
    have cP:=CP1.out wr
    go_wp2_with (go_at_call 17;refine cP.mono ?_;clear cP;rintro e V1 ⟨rfl,b1⟩;have hS1:=hS.below b1;obtain ⟨-,k2,-⟩:=HBL.out V1 fun k hk=>(hS1.block hk).1)
    have cP:=CP2.out V1
    clear hS b1 k1
    go_wp2_with (go_at_call 17;refine cP.mono ?_;clear cP;rintro e V2 ⟨rfl,b2⟩;have hS2:=hS1.below b2)
    have cD:=CD.out V2
    clear hS1 b2 k2
    go_wp2_with (go_at_call 20;refine cD.mono ?_;clear cD;rintro e V3 ⟨rfl,b3⟩;have hS3:=hS2.below b3;obtain ⟨bs,ss,o0,o1,o2,o3,o4,o5,o6,e0,e1,e2,e3,e4,e5,e6,l4,l5,l6,hl4,hl5,hl6,hBd,hG⟩:=hS3.slices;have p7:V3.cell? ⟨sb,7,none⟩ = some (.bool true):=cell_of hG.cell;have HL:=Lib.hid (And.intro hl4 (And.intro hl5 (And.intro hl6 hBd)));clear hl4 hl5 hl6 hBd)
    have cA:=hG.call (E:=fun e=>e = .returned (.int .i64 0)) (M':=addM M c1 ps) (fun S hS=>by
     have h:=madd_at hS ho hc8 ps (by rw [HTI.out.2.2.2.2.1];omega)
     rw [HTI.out.2.2.2.1] at h;exact h)
    clear hS2 hS3 b3
    go_wp2_with (go_at_call 19;refine cA.mono ?_;clear cA;rintro e V4 ⟨rfl,hG4⟩;have r7:V4.cell? ⟨sb,7,none⟩ = some (.bool true):=cell_of hG4.cell;have f7:=fz_of hG4.cell 7)
    have hNB:=NB HTI.out HL.out hT.co hlt hn
    have hG5:=hG4.put (sgC_setok mb true true bs ss _)
    refine wp_conv (c':=Code.region 12 rg_tran_r12.toArray true) (by kernel_rfl) ?_
    refine tran_r12 (ps:=ps) (c:=c1) (n2:=pk.length) (n3:=co.length) (n4:=l4.length) (n5:=l5.length) (k2:=e2) (k3:=e3) (k4:=e4) (k5:=e5) (o2:=o2) (o3:=o3) (o4:=o4) (o5:=o5) rfl rfl rfl rfl hG5 rfl rfl (Tmf.cellS_len pk) hNB.1.1 hNB.1.2.1 rfl rfl (Tmf.cellI_len co) hNB.2.1.1 hNB.2.1.2.2 rfl rfl (Lz_len l4) hNB.2.2.1.1 hNB.2.2.1.2.2 rfl rfl (Lz_len l5) hNB.2.2.2.1.1 hNB.2.2.2.1.2.2 ?_
    rintro σ V5 hG6 ⟨g2,d2,s2⟩ ⟨g3,d3,s3⟩ ⟨g4,d4,s4⟩ ⟨g5,d5,s5⟩
    have hG7:=hG6.congr (jV_12 _ _ _ _ σ) (jR_12 ps c1 σ)
    rw [s2,s3,s4,s5] at hG7
    rw [lit_tran_r12]
    clear hG hG4 hG5 hG6 s2 s3 s4 s5 r7 f7 p7
    go_wp2
    refine wp_conv (c':=Code.region 13 rg_tran_r13.toArray true) (by kernel_rfl) ?_
    refine tran_r13 (c:=c1) (n6:=l6.length) (k6:=e6) (o6:=o6) hc8 (by omega) rfl rfl rfl hG7 rfl rfl (Lz_len l6) hNB.2.2.2.2.1 hNB.2.2.2.2.2.2 ?_
    rintro σ2 V6 hG8 ⟨g6,d6,s6⟩
    have hG9:=hG8.congr (jV_13 _ σ2) (jR_13 (bs c1) σ2)
    rw [s6] at hG9
    rw [lit_tran_r13]
    clear hG7 hG8 s6
    have hb0:=(HL.out.2.2.2.bs c1 hc8)
    have hpz:=HTI.out.2.2.2.2.1
    have hpl:=HTI.out.2.2.2.2.2
    have t1:V6.cell? ⟨sb,8 + c1,none⟩ = some (.int .i64 (bs c1)):=(cell_of hG9.cell).trans (sgC_bs _ _ _ _ _ hc8)
    have t2:=fz_of hG9.cell (8 + c1)
    obtain ⟨nb,hnb⟩:∃ x,bs c1 + ((ps.size:Nat):Int) = x:=⟨_,rfl⟩
    have hw:IntKind.i64.wrap (bs c1 + ((ps.size:Nat):Int)) = nb:=by rw [hnb];exact wrap_i64 (by omega) (by omega)
    have hG10:=(hG9.put (sgC_setbs mb true bs ss _ hc8 nb)).drew
    have hc8':((c1:Nat):Int) < 8:=by omega
    have HG:=Lib.hid (And.intro hG10 hnb)
    clear hG9 hG10 hpz hpl hb0 hnb
    obtain ⟨bz,hbz⟩:∃ x,bs c1 = x:=⟨_,rfl⟩
    obtain ⟨pz,hpz⟩:∃ x,ps.size = x:=⟨_,rfl⟩
    rw [hbz] at t1 hw
    rw [hpz] at hw
    have HZ:=Lib.hid hbz
    clear hbz
    go_wp2
    go_region
    have hS4:Se H W1 B sb mb g gc bk (addM M c1 ps) true fr ch (pk ++ [ps.data.toList]) (co ++ [c1]) ((V6.setCell ⟨sb,8 + c1,none⟩ (.int .i64 nb)).drew):=by
     have hBd:=HL.out.2.2.2.add (show pk.length ≤ 1000 by have:=HTI.out.2.2.2.2.2;omega) (p:=ps.data.toList) (c:=c1) (by show ps.size ≤ 2000;rw [HTI.out.2.2.2.2.1];omega) hc8
     rw [show bs c1 + ((ps.data.toList.length:Nat):Int) = nb from HG.out.2] at hBd
     refine Se.of HG.out.1 ?_ ?_ ?_ ?_
     · rw [List.length_append,List.length_append,HL.out.1];rfl
     · rw [List.length_append,List.length_append,HL.out.2.1];rfl
     · rw [List.length_append,List.length_append,HL.out.2.2.1];rfl
     · rw [show (pk ++ [ps.data.toList]).length = pk.length + 1 from by rw [List.length_append];rfl];exact hBd
    obtain ⟨hT2,hI2,hwt2,hE2,hpz2,hpk⟩:=HTI.out
    have hpk2:(pk ++ [ps.data.toList]).length = i + 1:=by rw [List.length_append,hpk];rfl
    clear HTI HL HG HZ CP1 CP2 CD hpz hw t1 t2 hE2 hpz2 hpk hT ho
    obtain ⟨pk2,hpk3⟩:∃ l,pk ++ [ps.data.toList] = l:=⟨_,rfl⟩
    obtain ⟨co2,hco3⟩:∃ l,co ++ [c1] = l:=⟨_,rfl⟩
    rw [hpk3,hco3] at hS4 hT2
    rw [hpk3] at hpk2
    clear hpk3 hco3
    obtain ⟨M3,hM3⟩:∃ m,addM M c1 ps = m:=⟨_,rfl⟩
    rw [hM3] at hS4 hT2 hI2 hwt2
    clear hM3
    go_wp2
    go_loopw [11] (fun jv wr=>∃ (j N2:Nat) (M2:MS) (fr2:List L8) (ch2:List Nat),jv = .int .i64 (j:Nat) ∧ j ≤ q1 ∧ Se H W1 B sb mb g gc bk M2 true fr2 ch2 pk2 co2 wr ∧ OkI N2 M2 ∧ N2 ≤ 4 * i + 1 + j ∧ Tx (dm0 c z) M2 fr2 ch2 pk2 co2 ∧ fr2.length ≤ 3 * i + j ∧ waits8 M2 ≤ 206 * (i + 1)) (fun jv _=>q1 - iOf jv)
    case atStart=>exact ⟨0,N + 1,M3,fr,ch,rfl,Nat.zero_le _,hS4,hI2,(by omega),hT2,(by omega),(by omega)⟩
    case round =>
     clear hS4 hI2 hT2 hwt2 hwt hfr hN hI
     obtain ⟨j,N2,M2,fr2,ch2,rfl,hj,hS,hI,hN,hT,hfr,hwt⟩:=hrel
     obtain ⟨-,-,k3⟩:=HBL.out wr fun k hk=>(hS.block hk).1
     have cP:=CP3.out wr
     rcases Nat.lt_or_ge j q1 with hlt2 | hge2
     · have hlt2':((j:Nat):Int) < ((q1:Nat):Int):=by omega
       have hmeas2:q1 - (j + 1) < q1 - j:=by omega
       go_wp2_with (go_at_call 17;refine cP.mono ?_;clear cP;rintro e U1 ⟨rfl,b1⟩;have hS1:=hS.below b1;clear b1 k3)
       have cN:=snext_at hS1 hI hT.co (by omega) (by omega) (by rw [hT.len];omega) (by omega) i (by omega)
       obtain ⟨hE,hT3⟩:=hT.next hI (wd:=i) (by omega)
       have hI3:=okI_next hI (show N2 + 1 ≤ 2 ^ 20 by omega)
       have hw3:=(next_waits8 hI).1
       rw [hE] at cN
       have HE:=Lib.hid (And.intro hT3 (And.intro hI3 hw3))
       clear hS hS1 hE hT3 hI3 hw3
       go_wp2_with (go_at_call 35;refine cN.mono ?_;clear cN;rintro e U2 ⟨rfl,hS2⟩)
       exact ⟨⟨j + 1,N2 + 1,_,_,_,by push_cast;rfl,hlt2,hS2,HE.out.2.1,(by omega),HE.out.1,(by rw [List.length_append];exact Nat.succ_le_succ hfr),Nat.le_trans HE.out.2.2 hwt⟩,hmeas2⟩
     · have hge2':¬ ((j:Nat):Int) < ((q1:Nat):Int):=by omega
       go_wp2_with (go_at_call 17;refine cP.mono ?_;clear cP;rintro e U1 ⟨rfl,b1⟩;have hS1:=hS.below b1;clear b1 k3)
       exact ⟨⟨i + 1,N2,M2,fr2,ch2,pk2,co2,by push_cast;rfl,hlt,hS1,hI,(by omega),hT,hpk2,(by omega),hwt⟩,hmeas⟩
  · have hge':¬ ((i:Nat):Int) < ((n:Nat):Int):=by omega
    obtain rfl:i = n:=by omega
    have ht0:turns8 M ≤ 324:=by have:=turns_waits M;omega
    go_wp2
    go_loopw [12] (fun kv wr=>∃ (k N2:Nat) (M2:MS) (fr2:List L8) (ch2:List Nat),kv = .int .i64 (k:Nat) ∧ k ≤ 8 ∧ Se H W1 B sb mb g gc bk M2 true fr2 ch2 pk co wr ∧ OkI N2 M2 ∧ Tx (dm0 c z) M2 fr2 ch2 pk co ∧ (∀ j,j < k → (M2.f j).x.wait = 0) ∧ turns8 M2 ≤ 324 ∧ fr2.length + turns8 M2 ≤ 450 ∧ N2 + turns8 M2 ≤ 600) (fun kv _=>8 - iOf kv)
    case atStart=>exact ⟨0,N,M,fr,ch,rfl,Nat.zero_le _,hS,hI,hT,fun j hj=>absurd hj (Nat.not_lt_zero _),ht0,(by omega),(by omega)⟩
    case round =>
     clear hS hI hT hwt hfr hN ht0
     obtain ⟨k,N2,M2,fr2,ch2,rfl,hk,hS,hI,hT,hz,ht,hfr,hN⟩:=hrel
     rcases Nat.lt_or_ge k 8 with hk8 | hk8
     · have hk8':((k:Nat):Int) < 8:=by omega
       have hmeas3:8 - (k + 1) < 8 - k:=by omega
       go_wp2
       go_loopw [13] (fun tv wr=>∃ (t N3:Nat) (M3:MS) (fr3:List L8) (ch3:List Nat),tv = .int .i64 (t:Nat) ∧ t + turns8 M3 ≤ 324 ∧ Se H W1 B sb mb g gc bk M3 true fr3 ch3 pk co wr ∧ OkI N3 M3 ∧ Tx (dm0 c z) M3 fr3 ch3 pk co ∧ (∀ j,j < k → (M3.f j).x.wait = 0) ∧ fr3.length + turns8 M3 ≤ 450 ∧ N3 + turns8 M3 ≤ 600) (fun tv _=>400 - iOf tv)
       case atStart=>exact ⟨0,N2,M2,fr2,ch2,rfl,(by omega),hS,hI,hT,hz,hfr,hN⟩
       case round =>
        clear hS hI hT hz ht hfr hN
        obtain ⟨t,N3,M3,fr3,ch3,rfl,ht,hS,hI,hT,hz,hfr,hN⟩:=hrel
        have ht400:((t:Nat):Int) < 400:=by omega
        have cW:=hS.waitC hI.ok hk8
        rcases Nat.eq_zero_or_pos (M3.f k).x.wait with hw0 | hw0
        · rw [hw0] at cW
          have HW0:=Lib.hid hw0
          clear hw0
          go_wp2_with (go_at_call 18;refine cW.mono ?_;clear cW;rintro e U1 ⟨rfl,hS1⟩;obtain ⟨p7,f7⟩:=hS1.ok7)
          have cW:=hS1.waitC hI.ok hk8
          rw [HW0.out] at cW
          clear hS
          go_wp2_with (go_at_call 18;refine cW.mono ?_;clear cW;rintro e U2 ⟨rfl,hS2⟩;obtain ⟨r7,g7⟩:=hS2.ok7)
          exact ⟨⟨k + 1,N3,M3,fr3,ch3,by push_cast;rfl,hk8,hS2.put7,hI,hT,fun j hj=>(by
           rcases Nat.lt_or_ge j k with h | h
           · exact hz j h
           · obtain rfl:j = k:=by omega
             exact HW0.out),(by omega),hfr,hN⟩,hmeas3⟩
        · have hmeas4:400 - (t + 1) < 400 - t:=by omega
          have htn:=next_turns hI hk8 hw0
          have hwn:=(next_waits8 hI).2
          obtain ⟨hE,hT3⟩:=hT.next hI (wd:=t) (by omega)
          have hI3:=okI_next hI (show N3 + 1 ≤ 2 ^ 20 by omega)
          have HE:=Lib.hid (And.intro hT3 (And.intro hI3 (And.intro hwn hE)))
          clear hT3 hI3 hwn hE
          obtain ⟨wk,hwk⟩:∃ x,(M3.f k).x.wait = x:=⟨_,rfl⟩
          rw [hwk] at cW hw0
          have hw0':(0:Int) < ((wk:Nat):Int):=by omega
          clear hwk
          go_wp2_with (go_at_call 18;refine cW.mono ?_;clear cW;rintro e U1 ⟨rfl,hS1⟩)
          have cN:=snext_at hS1 hI hT.co (by omega) (by omega) (by rw [hT.len];omega) (by omega) t (by omega)
          rw [HE.out.2.2.2] at cN
          clear hS hS1
          go_wp2_with (go_at_call 35;refine cN.mono ?_;clear cN;rintro e U2 ⟨rfl,hS2⟩)
          exact ⟨⟨t + 1,N3 + 1,_,_,_,by push_cast;rfl,(by omega),hS2,HE.out.2.1,HE.out.1,fun j hj=>(by have:=HE.out.2.2.1 j (by omega);have:=hz j hj;omega),(by rw [List.length_append];show fr3.length + 1 + _ ≤ 450;omega),(by omega)⟩,hmeas4⟩
     · have hk8':¬ ((k:Nat):Int) < 8:=by omega
       obtain rfl:k = 8:=by omega
       obtain ⟨bs,ss,o0,o1,o2,o3,o4,o5,o6,e0,e1,e2,e3,e4,e5,e6,l4,l5,l6,hl4,hl5,hl6,hBd,hG⟩:=hS.slices
       obtain ⟨rb,hrb⟩:∃ x,w0.heap.size + 1 = x:=⟨_,rfl⟩
       have hr:=(hG.block _ (hHm (w0.heap.size + 1) (by omega))).trans HK0.out.1
       rw [hrb] at hr
       have p1:wr.cell? ⟨sb,1,none⟩ = some (.slice o0 fr2.length e0):=cell_of hG.cell
       have p2:wr.cell? ⟨sb,2,none⟩ = some (.slice o1 ch2.length e1):=cell_of hG.cell
       have p3:wr.cell? ⟨sb,3,none⟩ = some (.slice o2 pk.length e2):=cell_of hG.cell
       have p4:wr.cell? ⟨sb,4,none⟩ = some (.slice o3 co.length e3):=cell_of hG.cell
       have p5:wr.cell? ⟨sb,5,none⟩ = some (.slice o4 l4.length e4):=cell_of hG.cell
       have p6:wr.cell? ⟨sb,6,none⟩ = some (.slice o5 l5.length e5):=cell_of hG.cell
       have p7:wr.cell? ⟨sb,7,none⟩ = some (.bool true):=cell_of hG.cell
       have r0:wr.cell? ⟨rb,0,none⟩ = some (.slice none 0 0):=cell_of hr
       have r1:wr.cell? ⟨rb,1,none⟩ = some (.slice none 0 0):=cell_of hr
       have r2:wr.cell? ⟨rb,2,none⟩ = some (.slice none 0 0):=cell_of hr
       have r3:wr.cell? ⟨rb,3,none⟩ = some (.slice none 0 0):=cell_of hr
       have r4:wr.cell? ⟨rb,4,none⟩ = some (.slice none 0 0):=cell_of hr
       have r5:wr.cell? ⟨rb,5,none⟩ = some (.slice none 0 0):=cell_of hr
       have r6:wr.cell? ⟨rb,6,none⟩ = some (.bool false):=cell_of hr
       have f0:=fz_of hr 0
       have f1:=fz_of hr 1
       have f2:=fz_of hr 2
       have f3:=fz_of hr 3
       have f4:=fz_of hr 4
       have f5:=fz_of hr 5
       have f6:=fz_of hr 6
       have FIN:∀ w',OnlyB rb wr w' → TrE w0 (dm0 c z) _ w':=fun w' ho=>TrE.fin hG hBd (by rw [hrb];exact ho) hHm HB01.out.1 HB01.out.2 hB hT (fun j hj=>hz j hj) (by omega) (by omega)
       have HF:=Lib.hid FIN
       clear FIN hS hG hBd hr hT hz hl4 hl5 hl6 hpk
       go_wp2
       refine bodyPost_ret (v:=.agg #[.slice o0 fr2.length e0,.slice o1 ch2.length e1,.slice o2 pk.length e2,.slice o3 co.length e3,.slice o4 l4.length e4,.slice o5 l5.length e5,.bool true]) ?_ rfl ?_
       · simp [results,Try.results14,go_sem,r0,r1,r2,r3,r4,r5,r6]
       exact HF.out _ ((((((((OnlyB.refl rb wr).setCell 0 _).setCell 1 _).setCell 2 _).setCell 3 _).setCell 4 _).setCell 5 _).setCell 6 _)
end Go.Am.Cha
