/-
 Channels: ChannelsWhole answers true. Own work; printed by gen/mkwx.py.
-/
import Derived.Test.YtlgpalokjckdcaaChaWw
import Derived.Test.YtlgpalokjckdcaaChaWv
import Derived.Test.YtlgpalokjckdcaaChaGL
namespace Go.Am.Cha
open Go Go.Am Go.Am.Lib Go.Lib Go.Proofs Go.RowKit
open Go.Am.Own
open Go.Am.Tmf (cellI gWd getTE)
set_option maxRecDepth 100000

variable {w0:World}
theorem LdM.below {w w':World} {ao:Option Addr} {n:Nat} (h:LdM w ao n) (hb:Below w.heap.size w w'):LdM w' ao n:=fun i hi=>by
 obtain ⟨a,x,y,z,rfl,k1,k2,k3,kb⟩:=h i hi
 have hk:=hb.block _ kb
 exact ⟨a,x,y,z,rfl,(World.cell?_of_block hk).trans k1,(World.cell?_of_block (a:=⟨(a.add (i * 3)).block,(a.add (i * 3)).off + 1,none⟩) hk).trans k2,(World.cell?_of_block (a:=⟨(a.add (i * 3)).block,(a.add (i * 3)).off + 2,none⟩) hk).trans k3,Nat.lt_of_lt_of_le kb hb.size⟩
/-- The bools, as the law is handed them. -/
def TwM (w:World) (bo:Option Addr) (m:Nat):Prop:=∀ i,i < m → ∃ (a:Addr) (b:Bool),bo = some a ∧ w.cell? (a.add i) = some (.bool b) ∧ (a.add i).block < w.heap.size
section
variable {H H0:Nat → Prop} {W W0 w w':World} {B gb db:Nat} {D D':Dm} {g:Nat → List L8} {V v:Nat → Value}
/-- The blocks that stay. -/
def Stay (W:World) (gb db:Nat) (k:Nat):Prop:=k < W.heap.size ∧ k ≠ db ∧ k ≠ gb
theorem Lw.start (hd:W.heap[db]? = some (.cells (dmC D) 74 (0,0))) (hg:W.heap[gb]? = some (.cells (gotC fun _=>nil7) 50 (0,0))) (hne:db ≠ gb):Lw (Stay W gb db) W W.heap.size gb db D (fun _=>[]) (fun _=>nil7) (fun _=>nil7) W :=
 ⟨hd,hg,fun c hc=>World.ownsRow_nil _ _ _ _,fun c c' _ _ _=>.inl rfl,hne,(Array.getElem?_eq_some_iff.1 hd).1,(Array.getElem?_eq_some_iff.1 hg).1,fun c hc k hk=>(by cases hk),fun e=>e.2.1 rfl,fun e=>e.2.2 rfl,rfl,rfl,rfl,Nat.le_refl _,fun _ _=>rfl,fun k hk=>hk.1,Nat.le_refl _⟩
/-- A store into another block. -/
theorem Lw.other {b:Nat} (h:Lw H W B gb db D g V v w) (ho:OnlyB b w w') (h1:¬ H b) (h2:b ≠ db) (h3:b ≠ gb) (h4:∀ c,c < 8 → (v c).ownBlock ≠ some b):Lw H W B gb db D g V v w' :=
 ⟨(ho.rest db (Ne.symm h2)).trans h.dm,(ho.rest gb (Ne.symm h3)).trans h.gc,fun c hc=>ownsRow_keep (h.own c hc) fun k hk=>ho.rest k fun e=>h4 c hc (by rw [hk,e]),h.dis,h.ne,h.Bd,h.Bg,h.rH,h.nd,h.ng,ho.os.trans h.os,ho.tape.trans h.tape,ho.output.trans h.output,by rw [ho.size];exact h.size,fun k hk=>(ho.rest k fun e=>h1 (e ▸ hk)).trans (h.block k hk),fun k hk=>by rw [ho.size];exact h.lt k hk,by rw [ho.size];exact h.hB⟩
end
theorem wantOf_take {pk:List L8} {co:List Nat} (h:co.length = pk.length) {p:Nat} (hp:p < pk.length) (c:Nat):wantOf (pk.take (p + 1)) (co.take (p + 1)) c = if co.getD p 0 = c then wantOf (pk.take p) (co.take p) c ++ [pk.getD p []] else wantOf (pk.take p) (co.take p) c:=by
 have e1:pk.take (p + 1) = pk.take p ++ [pk.getD p []]:=by rw [List.take_add_one,List.getD_eq_getElem?_getD,List.getElem?_eq_getElem hp];rfl
 have e2:co.take (p + 1) = co.take p ++ [co.getD p 0]:=by rw [List.take_add_one,List.getD_eq_getElem?_getD,List.getElem?_eq_getElem (by omega)];rfl
 rw [e1,e2,wantOf_snoc (by rw [List.length_take,List.length_take];omega)]
 unfold updL
 by_cases e:co.getD p 0 = c
 · rw [if_pos e,if_pos e.symm,e]
 · rw [if_neg e,if_neg fun h=>e h.symm]
set_option maxHeartbeats 25600000 in
theorem whole_yes (c z:Nat) (P Q:Nat → Int) (ao bo:Option Addr) (n cap m cap2:Nat) (hn:n ≤ 40) (hc255:c ≤ 255) (hz32:32 ≤ z) (hz200:z ≤ 200) (hPQ:∀ k,k < 8 → okPQ P Q k) (hcs:LdM w0 ao n) (htw:TwM w0 bo m) :
 Calls Try.prog 4 #[.agg (setC ((c:Nat):Int) ((z:Nat):Int) P Q),.slice ao n cap,.slice bo m cap2] w0 fun e w'=>e = .returned (.bool true) ∧ Below w0.heap.size w0 w':=by
 have hn':¬ (40:Int) < ((n:Nat):Int):=by omega
 have hb0:=(Below.refl _ w0).alloc (Nat.le_refl _) (.cells (setC ((c:Nat):Int) ((z:Nat):Int) P Q) 40)
 have hx0:=heap_alloc_new w0 (.cells (setC ((c:Nat):Int) ((z:Nat):Int) P Q) 40)
 obtain ⟨W0,hW0⟩:∃ W,w0.alloc (.cells (setC ((c:Nat):Int) ((z:Nat):Int) P Q) 40) = W:=⟨_,rfl⟩
 rw [hW0] at hb0 hx0
 have hs:=shown_calls W0
 have CT:=Lib.hid (fun (W:World) (hb:Below w0.heap.size w0 W)=>tran_yes (w0:=W) c z P Q ao n cap hn hc255 hz32 hz200 hPQ (hcs.below hb))
 have CD:=Lib.hid (fun W=>newdemux_ok (craft:=c) (size:=z) hc255 hz32 hz200 W)
 have HD0:=Lib.hid (show OkD 1 (dm0 c z) from ⟨hc255,hz32,hz200,Nat.zero_le _,fun k hk=>⟨Nat.zero_le _,Nat.zero_le _⟩⟩)
 clear hPQ hc255 hz32 hz200 hcs
 go_enter Try.func4,Try.ntmps4
 go_wp2_with (first | (go_at_call 8;refine hs.mono ?_;clear hs;rintro e W1 ⟨rfl,b1⟩;have hx1:=(b1.block _ (Array.getElem?_eq_some_iff.1 hx0).1).trans hx0) | (refine wpList_load_row rfl 40 _ rfl w0.heap.size rfl 40 _ _ _ hx1 Try.underlying40 rfl (by kernel_rfl) ?_))
 have b01:=hb0.trans (b1.mono hb0.size)
 refine (CT.out W1 b01).mono ?_
 rintro e W2 ⟨M,fr,ch,pk,co,v0,v1,v2,v3,v4,v5,rfl,b2,hr0,hr1,hr2,hr3,hT,hz,hfr,hpk,hp2,⟨o4,n4,c4,rfl⟩,⟨o5,n5,c5,rfl⟩⟩
 obtain ⟨o0,c0,rfl⟩:=ownsRow_slice hr0
 obtain ⟨o1,c1,rfl⟩:=ownsRow_slice hr1
 obtain ⟨o2,c2,rfl⟩:=ownsRow_slice hr2
 obtain ⟨o3,c3,rfl⟩:=ownsRow_slice hr3
 have hx2:=(b2.block _ (Array.getElem?_eq_some_iff.1 hx1).1).trans hx1
 have b3:=(Below.refl _ W2).alloc (Nat.le_refl _) (.cells #[.slice o0 fr.length c0,.slice o1 ch.length c1,.slice o2 pk.length c2,.slice o3 co.length c3,.slice o4 n4 c4,.slice o5 n5 c5,.bool true] 45)
 have hx3:=(b3.block _ (Array.getElem?_eq_some_iff.1 hx2).1).trans hx2
 have ht3:=heap_alloc_new W2 (.cells #[.slice o0 fr.length c0,.slice o1 ch.length c1,.slice o2 pk.length c2,.slice o3 co.length c3,.slice o4 n4 c4,.slice o5 n5 c5,.bool true] 45)
 obtain ⟨W3,hW3⟩:∃ W,W2.alloc (.cells #[.slice o0 fr.length c0,.slice o1 ch.length c1,.slice o2 pk.length c2,.slice o3 co.length c3,.slice o4 n4 c4,.slice o5 n5 c5,.bool true] 45) = W:=⟨_,rfl⟩
 rw [hW3] at b3 hx3 ht3
 have s3:W3.heap.size = W2.heap.size + 1:=by rw [← hW3];exact alloc_size _ _
 obtain ⟨tb,htb⟩:∃ x,W2.heap.size = x:=⟨_,rfl⟩
 rw [htb] at ht3 s3
 have b02:=b01.trans (b2.mono b01.size)
 have b03:=b02.trans (b3.mono b02.size)
 have hl1:w0.heap.size ≤ W1.heap.size:=b01.size
 have hl2:W1.heap.size ≤ W2.heap.size:=b2.size
 have q0:W3.cell? ⟨w0.heap.size,0,none⟩ = some (.int .i64 ((c:Nat):Int)):=cell_of hx3
 have q1:W3.cell? ⟨w0.heap.size,1,none⟩ = some (.int .i64 ((z:Nat):Int)):=cell_of hx3
 have t0:W3.cell? ⟨tb,0,none⟩ = some (.slice o0 fr.length c0):=cell_of ht3
 have t6:W3.cell? ⟨tb,6,none⟩ = some (.bool true):=cell_of ht3
 obtain ⟨DE,gE,hRun,hgE⟩:=hT.all hz
 have hTl:=hT.len
 have hTc:=hT.co
 have ROWS:=Lib.hid (And.intro hr0 (And.intro hr1 (And.intro hr2 hr3)))
 have BB:=Lib.hid (And.intro b03 (And.intro b3 (And.intro b02 (And.intro hTl (And.intro hTc (And.intro hgE (And.intro hp2 ht3)))))))
 clear hr0 hr1 hr2 hr3 hT hz hTl hTc hgE hp2 b01 b02 b03 b1 b2 b3 hb0 hx0 hx1 hx2 hx3 ht3
 rcases Nat.eq_zero_or_pos fr.length with hf0 | hf0
 case' inl=>have hfb:(((fr.length:Nat):Int) == 0) = true:=by rw [hf0];rfl
 case' inr=>have hfb:(((fr.length:Nat):Int) == 0) = false:=by rw [beq_eq_false_iff_ne];omega
 all_goals
  clear hf0
  have cD:=CD.out W3
  go_wp2_with (go_at_call 9;refine cD.mono ?_;clear cD;rintro e W4 ⟨rfl,hd4,b4⟩;obtain ⟨W5,hW5⟩:∃ W,W4.alloc (.cells #[.slice none 0 0,.slice none 0 0,.slice none 0 0,.slice none 0 0,.slice none 0 0,.slice none 0 0,.slice none 0 0,.slice none 0 0] 50) = W:=⟨_,rfl⟩;obtain ⟨gb,hgb⟩:∃ x,W4.heap.size = x:=⟨_,rfl⟩;have t64:W4.cell? ⟨tb,6,none⟩ = some (.bool true):=cell_of ((b4.block _ (Array.getElem?_eq_some_iff.1 BB.out.2.2.2.2.2.2.2).1).trans BB.out.2.2.2.2.2.2.2))
  obtain ⟨q03,q3,q02,hTl,hTc,hgE,hp2,ht3⟩:=BB.out
  have b5:=(Below.refl _ W4).alloc (Nat.le_refl _) (.cells #[.slice none 0 0,.slice none 0 0,.slice none 0 0,.slice none 0 0,.slice none 0 0,.slice none 0 0,.slice none 0 0,.slice none 0 0] 50)
  have hg5:W5.heap[gb]? = some (.cells (gotC fun _=>nil7) 50 (0,0)):=by rw [← hW5,← hgb];exact heap_alloc_new W4 _
  rw [hW5] at b5
  have s5:W5.heap.size = gb + 1:=by rw [← hW5,← hgb];exact alloc_size _ _
  have b35:Below W3.heap.size W3 W5:=b4.trans (b5.mono b4.size)
  have b25:Below W2.heap.size W2 W5:=q3.trans (b35.mono q3.size)
  have s34:=b4.size
  rw [s3,hgb] at s34
  rw [s3] at hd4
  have hd5:W5.heap[tb + 1]? = some (.cells (dmC (dm0 c z)) 74 (0,0)):=(b5.block _ (Array.getElem?_eq_some_iff.1 hd4).1).trans hd4
  have ht5:=(b35.block tb (by rw [s3];omega)).trans ht3
  have b05:Below w0.heap.size w0 W5:=q03.trans (b35.mono q03.size)
  have hdg:tb + 1 ≠ gb:=by
   have:=(Array.getElem?_eq_some_iff.1 hd4).1
   rw [hgb] at this;omega
  have s01:W1.heap.size ≤ tb:=by
   have h1:=ROWS.out
   rw [← htb];exact hl2
  have hL0:=Lw.start hd5 hg5 hdg
  have RW:∀ (e:TypeId) (v:Value) (n:Nat) (xs:List Value),W2.ownsRow W1.heap.size e 1 v n xs → ∀ w:World,(∀ k,Stay W5 gb (tb + 1) k → w.heap[k]? = W5.heap[k]?) → w.ownsRow W1.heap.size e 1 v n xs:=fun e v n xs h w hw=>ownsRow_keep h fun k hk=>(hw k (by
   have h1:=(h.lt k hk).2
   rw [htb] at h1
   exact ⟨by rw [s5];omega,by omega,by omega⟩)).trans (b25.block k (h.lt k hk).2)
  have hst:Stay W5 gb (tb + 1) tb:=⟨by rw [s5];omega,by omega,by omega⟩
  have hs0:∀ k,k < w0.heap.size → Stay W5 gb (tb + 1) k:=fun k hk=>⟨by rw [s5];omega,by omega,by omega⟩
  obtain ⟨B5,hB5⟩:∃ x,W5.heap.size = x:=⟨_,rfl⟩
  have hBs:gb + 1 = B5:=s5.symm.trans hB5
  rw [hB5] at hL0
  have HQ:=Lib.hid (And.intro hTl (And.intro hTc (And.intro hgE (And.intro hp2 (And.intro ht5 (And.intro b05 (And.intro hst (And.intro hs0 (And.intro hBs hB5)))))))))
  have HRW:=Lib.hid RW
  have HSZ:=Lib.hid (And.intro s34 (And.intro s5 hdg))
  clear q03 q3 q02 hTl hTc hgE hp2 ht3 b5 hg5 s5 b35 b25 s34 hd4 hd5 ht5 b05 hdg RW hst hs0 hBs hB5 b4 t64 q0 q1 t0 t6 hfb hW5 hgb s01 BB
  go_loopw [13] (fun iv wr=>∃ (i:Nat) (D:Dm) (g:Nat → List L8) (V:Nat → Value),iv = .int .i64 (i:Nat) ∧ i ≤ fr.length ∧ Lw (Stay W5 gb (tb + 1)) W5 B5 gb (tb + 1) D g V V wr ∧ Run D g (fr.drop i) (ch.drop i) DE gE ∧ OkD (i + 1) D) (fun iv _=>fr.length - iOf iv)
  case atStart=>exact ⟨0,_,_,_,rfl,Nat.zero_le _,hL0,hRun,HD0.out⟩
  case round =>
   clear hL0 hRun
   obtain ⟨i,D,g,V,rfl,hi,hS,hR,hD⟩:=hrel
   have tbk:=(hS.block tb HQ.out.2.2.2.2.2.2.1).trans HQ.out.2.2.2.2.1
   have t0:wr.cell? ⟨tb,0,none⟩ = some (.slice o0 fr.length c0):=cell_of tbk
   rcases Nat.lt_or_ge i fr.length with hlt | hge
   · have hlt':((i:Nat):Int) < ((fr.length:Nat):Int):=by omega
     have hmeas:fr.length - (i + 1) < fr.length - i:=by omega
     have hltc:i < ch.length:=by rw [HQ.out.1];exact hlt
     have hltc':((i:Nat):Int) < ((ch.length:Nat):Int):=by omega
     obtain ⟨ga,rfl,z0⟩:=str_at (HRW.out _ _ _ _ ROWS.out.1 wr hS.block) hlt rfl
     have e1:fr.drop i = fr.getD i [] :: fr.drop (i + 1):=by rw [List.drop_eq_getElem_cons hlt,List.getD_eq_getElem?_getD,List.getElem?_eq_getElem hlt];rfl
     have e2:ch.drop i = ch.getD i 0 :: ch.drop (i + 1):=by rw [List.drop_eq_getElem_cons hltc,List.getD_eq_getElem?_getD,List.getElem?_eq_getElem hltc];rfl
     rw [e1,e2] at hR
     obtain ⟨k,ch',D1,pk1,hch,hk8,f1,f2,f3,f4,hR1⟩:=hR
     injection hch with hk hch'
     subst hch'
     have z1:∀ w:World,(∀ k,Stay W5 gb (tb + 1) k → w.heap[k]? = W5.heap[k]?) → ∃ g1,o1 = some ⟨g1,0,none⟩ ∧ w.cell? ⟨g1,i,none⟩ = some (.int .i64 ((k:Nat):Int)):=fun w hw=>by
      obtain ⟨g1,h1,h2⟩:=num_at (HRW.out _ _ _ _ ROWS.out.2.1 w hw) hltc rfl
      rw [hk] at h2
      exact ⟨g1,h1,h2⟩
     obtain ⟨g1,rfl,-⟩:=z1 wr hS.block
     have Z1:=Lib.hid (fun (w:World) hw=>(z1 w hw))
     have Z0:=Lib.hid (fun (w:World) (hw:∀ k,Stay W5 gb (tb + 1) k → w.heap[k]? = W5.heap[k]?)=>str_at (HRW.out _ _ _ _ ROWS.out.1 w hw) hlt rfl)
     obtain ⟨s,hs⟩:∃ x,strB (fr.getD i []) = x:=⟨_,rfl⟩
     rw [hs] at f1 f2 f3 f4 z0 Z0
     have hte:getTE s = 0:=by
      unfold feedE at f1
      split at f1
      · rename_i h;exact absurd f1 h
      · rename_i h;simpa using h
     have hss:=(get_ok hte).1
     have cF:=dfeed_at (N:=i + 1) (by omega) hS.dm hD s (by omega)
     have hD1:=hD.feed s
     rw [f1,f2] at cF
     rw [f2] at hD1
     have hgl:(g k).length + pk1.length ≤ 1000:=by
      have h1:=hR1.len.2 k
      rw [updL_same,List.length_append,HQ.out.2.2.1 k hk8] at h1
      have h2:=wantOf_len pk co k
      omega
     obtain ⟨wd,hwd⟩:∃ x,gWd s = x:=⟨_,rfl⟩
     rw [hwd] at cF f4
     have hkk:(((k:Nat):Int) != ((k:Nat):Int)) = false:=by simp
     have HF:=Lib.hid (And.intro f3 (And.intro f4 (And.intro hR1 (And.intro hD1 hgl))))
     have HS:=Lib.hid hS
     clear f1 f2 f3 f4 hR1 hD1 hgl hte hwd hs hD e1 e2 hk z1 hS tbk
     go_wp2_with (go_at_call 11;refine cF.mono ?_;clear cF;rintro e W6 hF;obtain ⟨av,he,hav,hS6⟩:=HS.out.feed hF;have he:e = .returned (.tuple #[.agg #[.int .i64 ((k:Nat):Int),.bool false,.int .i64 0,.int .i64 0,av,.int .i64 0,.int .u32 ((wd:Nat):Int)],.int .i64 0]):=he;subst he;obtain ⟨oa,ca,rfl⟩:=ownsRow_slice hav;obtain ⟨W7,hW7⟩:∃ W,W6.alloc (.cells #[.int .i64 ((k:Nat):Int),.bool false,.int .i64 0,.int .i64 0,.slice oa pk1.length ca,.int .i64 0,.int .u32 ((wd:Nat):Int)] 33) = W:=⟨_,rfl⟩;obtain ⟨ab,hab⟩:∃ x,W6.heap.size = x:=⟨_,rfl⟩;have HS6:=Lib.hid (And.intro hS6 (And.intro hav hF));clear hS6 hav hF)
     have hz:W6.heap.size = ab:=hab
     have ha7:W7.heap[ab]? = some (.cells (arrC ⟨k,false,0,0,pk1,0,wd⟩ (.slice oa pk1.length ca)) 33 (0,0)):=by rw [← hW7,← hab];exact heap_alloc_new W6 _
     have hb7:Below W6.heap.size W6 W7:=by rw [← hW7];exact (Below.refl _ W6).alloc (Nat.le_refl _) _
     have s7:W7.heap.size = ab + 1:=by rw [← hW7,← hab];exact alloc_size _ _
     have hS7:=HS6.out.1.below hb7
     have hav:=HS6.out.2.1
     have hB5w:=HS.out.hB
     have hav7:W7.ownsRow wr.heap.size 9 1 (.slice oa pk1.length ca) pk1.length (cellS pk1):=ownsRow_keep hav fun j hj=>hb7.block j (hav.lt j hj).2
     have hf6:wr.heap.size ≤ ab:=by
      have:=(HS6.out.2.2).choose_spec.2.2.2.size
      rw [hz] at this;exact this
     have hdb:=HS.out.Bd
     have hgb:=HS.out.Bg
     have hS8:Lw (fun j=>Stay W5 gb (tb + 1) j ∨ j = ab ∨ (Value.slice oa pk1.length ca).ownBlock = some j) W7 B5 gb (tb + 1) D1 g V V W7:=hS7.more fun j hj=>by
      rcases hj with hj | hj | hj
      · exact hS7.held hj
      · subst hj
        refine ⟨by rw [s7];exact Nat.lt_succ_self _,by omega,by omega,fun c2 hc2 e=>?_⟩
        have:=(HS6.out.1.row_ne hc2 e).2.2
        rw [hz] at this;omega
      · have h1:=hav.lt j hj
        rw [hz] at h1
        refine ⟨by rw [s7];omega,by omega,by omega,fun c2 hc2 e=>?_⟩
        have:=(HS.out.row_ne hc2 e).2.2
        omega
     obtain ⟨gy,g1e,z1⟩:=Z1.out W7 hS7.block
     have tbk:=(hS7.block tb HQ.out.2.2.2.2.2.2.1).trans HQ.out.2.2.2.2.1
     have t1:W7.cell? ⟨tb,1,none⟩ = some (.slice (some ⟨g1,0,none⟩) ch.length c1):=cell_of tbk
     injection g1e with g1e
     injection g1e with g1e
     subst g1e
     have y0:W7.cell? ⟨ab,0,none⟩ = some (.int .i64 ((k:Nat):Int)):=cell_of ha7
     have y1:W7.cell? ⟨ab,1,none⟩ = some (.bool false):=cell_of ha7
     have y2:W7.cell? ⟨ab,2,none⟩ = some (.int .i64 0):=cell_of ha7
     have y3:W7.cell? ⟨ab,3,none⟩ = some (.int .i64 0):=cell_of ha7
     have y5:W7.cell? ⟨ab,5,none⟩ = some (.int .i64 0):=cell_of ha7
     have HX:=Lib.hid (And.intro hS7 (And.intro hS8 (And.intro ha7 (And.intro hav7 (And.intro s7 hf6)))))
     clear hS7 hS8 ha7 hav7 s7 hf6 hb7 hz hav hB5w hdb hgb tbk t0 z0 hW7
     go_wp2
     go_quiet (fail)
     go_wp2
     refine wp_conv (c':=Code.region 19 rg_whole_r19.toArray true) (by kernel_rfl) ?_
     refine whole_r19 (A:=⟨k,false,0,0,pk1,0,wd⟩) (av:=.slice oa pk1.length ca) (ab:=ab) (k:=k) rfl rfl rfl (HX.out.2.1.below ⟨rfl,rfl,rfl,Nat.le_refl _,fun _ _=>rfl⟩) HX.out.2.2.1 (.inr (.inl rfl)) HX.out.2.2.2.1 (fun j hj=>.inr (.inr hj)) rfl hk8 HF.out.2.2.2.2 ?_
     rintro σ W8 hS9
     rw [lit_whole_r19]
     have hS7:=HX.out.1
     have hS10:=hS9.rest (H0:=Stay W5 gb (tb + 1)) (W0:=W5) (fun j h=>.inl h) hS7.os hS7.tape hS7.output hS7.size hS7.block
     have tbk:=(hS10.block tb HQ.out.2.2.2.2.2.2.1).trans HQ.out.2.2.2.2.1
     have t0:W8.cell? ⟨tb,0,none⟩ = some (.slice (some ⟨ga,0,none⟩) fr.length c0):=cell_of tbk
     obtain ⟨gx,gxe,z0⟩:=Z0.out W8 hS10.block
     injection gxe with gxe
     injection gxe with gxe
     subst gxe
     rcases Nat.lt_or_ge i m with hm | hm
     · have hm':((i:Nat):Int) < ((m:Nat):Int):=by omega
       obtain ⟨a,b,rfl,kb1,kb2⟩:=htw i hm
       have kb3:W8.cell? (a.add i) = some (.bool b):=(World.cell?_of_block ((hS10.block _ (HQ.out.2.2.2.2.2.2.2.1 _ kb2)).trans (HQ.out.2.2.2.2.2.1.block _ kb2))).trans kb1
       cases b with
       | false =>
        have H10:=Lib.hid hS10
        clear hS10 hS9 hS7 tbk
        go_wp2
        exact ⟨⟨i + 1,D1,_,_,by push_cast;rfl,hlt,H10.out,HF.out.2.2.1,HF.out.2.2.2.1⟩,hmeas⟩
       | true =>
        have cF:=dfeed_at (N:=i + 2) (by omega) hS10.dm HF.out.2.2.2.1 s (by omega)
        rw [HF.out.1,HF.out.2.1] at cF
        have H9:=Lib.hid hS9
        have HXR:=Lib.hid hS7
        clear hS10 hS9 hS7 tbk
        go_wp2_with (go_at_call 11;refine cF.mono ?_;clear cF;rintro e W9 hF;obtain ⟨av,he,hav,hS11⟩:=H9.out.feed hF;have he:e = .returned (.tuple #[.agg #[.int .i64 ((k:Nat):Int),.bool true,.int .i64 0,.int .i64 0,av,.int .i64 0,.int .u32 ((wd:Nat):Int)],.int .i64 0]):=he;subst he;obtain ⟨oa2,ca2,rfl⟩:=ownsRow_slice hav;have ha9:=(hS11.block ab (.inr (.inl rfl))).trans HX.out.2.2.1;have y0:W9.cell? ⟨ab,0,none⟩ = some (.int .i64 ((k:Nat):Int)):=cell_of ha9;have y1:W9.cell? ⟨ab,1,none⟩ = some (.bool false):=cell_of ha9;have y2:W9.cell? ⟨ab,2,none⟩ = some (.int .i64 0):=cell_of ha9;have y3:W9.cell? ⟨ab,3,none⟩ = some (.int .i64 0):=cell_of ha9;have y4:W9.cell? ⟨ab,4,none⟩ = some (.slice oa pk1.length ca):=cell_of ha9;have y5:W9.cell? ⟨ab,5,none⟩ = some (.int .i64 0):=cell_of ha9;have y6:W9.cell? ⟨ab,6,none⟩ = some (.int .u32 ((wd:Nat):Int)):=cell_of ha9;have x0:=fz_of ha9 0;have x1:=fz_of ha9 1;have x2:=fz_of ha9 2;have x3:=fz_of ha9 3;have x4:=fz_of ha9 4;have x5:=fz_of ha9 5;have x6:=fz_of ha9 6;have H11:=Lib.hid hS11;clear hS11 hav hF ha9)
        have hS7:=HXR.out
        have hS12:=(H11.out.rest (H0:=Stay W5 gb (tb + 1)) (W0:=W5) (fun j h=>.inl h) hS7.os hS7.tape hS7.output hS7.size hS7.block).other ((((((((OnlyB.refl ab W9).setCell 0 (.int .i64 ((k:Nat):Int))).setCell 1 (.bool true)).setCell 2 (.int .i64 0)).setCell 3 (.int .i64 0)).setCell 4 (.slice oa2 0 ca2)).setCell 5 (.int .i64 0)).setCell 6 (.int .u32 ((wd:Nat):Int))) (fun e=>by have h1:=e.1;have h2:=HX.out.2.2.2.2.2;have h3:=HS.out.hB;have h4:=HQ.out.2.2.2.2.2.2.2.2.2;omega) (by have h2:=HX.out.2.2.2.2.2;have h3:=HS.out.hB;have h4:=HS.out.Bd;omega) (by have h2:=HX.out.2.2.2.2.2;have h3:=HS.out.hB;have h4:=HS.out.Bg;omega) (fun c2 hc2 e=>H11.out.rH c2 hc2 ab e (.inr (.inl rfl)))
        exact ⟨⟨i + 1,D1,_,_,by push_cast;rfl,hlt,hS12,HF.out.2.2.1,HF.out.2.2.2.1⟩,hmeas⟩
     · have hm':¬ ((i:Nat):Int) < ((m:Nat):Int):=by omega
       have H10:=Lib.hid hS10
       clear hS10 hS9 hS7 tbk
       go_wp2
       exact ⟨⟨i + 1,D1,_,_,by push_cast;rfl,hlt,H10.out,HF.out.2.2.1,HF.out.2.2.2.1⟩,hmeas⟩
   · have hge':¬ ((i:Nat):Int) < ((fr.length:Nat):Int):=by omega
     obtain rfl:i = fr.length:=by omega
     rw [List.drop_length] at hR
     obtain ⟨-,rfl,rfl⟩:=hR
     have HS:=Lib.hid hS
     obtain ⟨iS,iS1,iS2,iS3,iS4⟩:=infoS
     clear hS tbk
     go_wp2
     clear t0
     go_loopw [16] (fun cv wq=>∃ (q:Nat),cv = .int .i64 (q:Nat) ∧ q ≤ 8 ∧ Lw (Stay W5 gb (tb + 1)) W5 B5 gb (tb + 1) DE gE V V wq) (fun cv _=>8 - iOf cv)
     case atStart=>exact ⟨0,rfl,Nat.zero_le _,HS.out⟩
     case round =>
      clear HS
      obtain ⟨q,rfl,hq,hS⟩:=hrel
      obtain ⟨wc,hwc⟩:∃ x,x = wr:=⟨wr,rfl⟩
      rw [← hwc] at hS ⊢
      clear hwc
      rcases Nat.lt_or_ge q 8 with hq8 | hq8
      · have hq8':((q:Nat):Int) < 8:=by omega
        have hmeasq:8 - (q + 1) < 8 - q:=by omega
        have HS:=Lib.hid hS
        clear hS
        go_wp2
        go_loopw [17,18] (fun wv pv wq=>∃ (p:Nat) (vw:Value) (L:List L8),pv = .int .i64 (p:Nat) ∧ vw = wv ∧ p ≤ pk.length ∧ Below wc.heap.size wc wq ∧ L = wantOf (pk.take p) (co.take p) q ∧ wq.ownsRow wc.heap.size 9 1 vw L.length (cellS L)) (fun _ pv _=>pk.length - iOf pv)
        case atStart=>exact ⟨0,_,[],rfl,rfl,Nat.zero_le _,Below.refl _ _,by rw [List.take_zero];rfl,World.ownsRow_nil _ _ _ _⟩
        case round =>
         obtain ⟨p,vw,L,rfl,rfl,hp,hbw,hL,hrow⟩:=hrel
         have hkeep:∀ k,Stay W5 gb (tb + 1) k → wr.heap[k]? = W5.heap[k]?:=fun k hk=>(hbw.block k (HS.out.lt k hk)).trans (HS.out.block k hk)
         have tbk:=(hkeep tb HQ.out.2.2.2.2.2.2.1).trans HQ.out.2.2.2.2.1
         have t2:wr.cell? ⟨tb,2,none⟩ = some (.slice o2 pk.length c2):=cell_of tbk
         have t3:wr.cell? ⟨tb,3,none⟩ = some (.slice o3 co.length c3):=cell_of tbk
         obtain ⟨ow,cw,rfl⟩:=ownsRow_slice hrow
         clear tbk
         rcases Nat.lt_or_ge p pk.length with hlt | hge
         · have hlt':((p:Nat):Int) < ((pk.length:Nat):Int):=by omega
           have hltc:p < co.length:=by rw [HQ.out.2.1];exact hlt
           have hltc':((p:Nat):Int) < ((co.length:Nat):Int):=by omega
           have hmeasp:pk.length - (p + 1) < pk.length - p:=by omega
           obtain ⟨g2,rfl,z2⟩:=str_at (HRW.out _ _ _ _ ROWS.out.2.2.1 wr hkeep) hlt rfl
           obtain ⟨g3,rfl,z3⟩:=num_at (HRW.out _ _ _ _ ROWS.out.2.2.2 wr hkeep) hltc rfl
           have hnext:=wantOf_take HQ.out.2.1 hlt q
           rw [← hL] at hnext
           have hLl:L.length ≤ 40:=by
            rw [hL]
            have h1:=wantOf_len (pk.take p) (co.take p) q
            rw [List.length_take] at h1
            omega
           obtain ⟨cp,hcp⟩:∃ x,co.getD p 0 = x:=⟨_,rfl⟩
           obtain ⟨pp,hpp⟩:∃ x,strB (pk.getD p []) = x:=⟨_,rfl⟩
           have hpl:pk.getD p [] = pp.data.toList:=by rw [← hpp];rfl
           rw [hcp] at hnext z3
           rw [hpp] at z2
           rw [hpl] at hnext
           have HN:=Lib.hid hnext
           have HR:=Lib.hid (And.intro hrow (And.intro hbw (And.intro hL hLl)))
           clear hcp hpp hpl hnext hkeep hL hLl
           by_cases hcq:cp = q
           · have hcmp:(((cp:Nat):Int) == ((q:Nat):Int)) = true:=by rw [hcq];simp
             have HNe:=Lib.hid (HN.out.trans (if_pos hcq))
             have hrow2:(wr.alloc (.cells #[.string pp] 9)).ownsRow wc.heap.size 9 1 (.slice ow L.length cw) L.length (cellS L):=hrow.alloc _
             have hbase:wc.heap.size ≤ (wr.alloc (.cells #[.string pp] 9)).heap.size:=by rw [alloc_size];have:=hbw.size;omega
             clear hcq hrow hbw HN
             go_wp2_with (at_builtin;refine wpList_append_at rfl _ _ 22 rfl wc.heap.size 9 iS (.string ⟨#[]⟩) 1 16 Try.underlying22 iS1 iS2 iS3 iS4 rfl (by decide) _ L.length (cellS L) rfl hrow2 ⟨wr.heap.size,0,none⟩ 1 1 [.string pp] rfl rfl (cell_one wr 9 _) (by intro u hu;exact one_mem hu rfl) (by decide) ?_ (by have:=HR.out.2.2.2;omega) hbase ?_)
             · have:=HR.out.2.2.2;unfold maxLen;omega
             intro v5 V5 hr5 hg5 hw5
             have hB5:Below wc.heap.size wc V5:=by
              have h1:=HR.out.2.1.alloc (Nat.le_trans HR.out.2.1.size (Nat.le_refl _)) (.cells #[.string pp] 9)
              refine ⟨hg5.os.trans h1.os,hg5.tape.trans h1.tape,hg5.output.trans h1.output,Nat.le_trans h1.size hg5.size,fun k hk=>(hg5.block k (Nat.lt_of_lt_of_le hk h1.size) fun e=>?_).trans (h1.block k hk)⟩
              have:=(hrow2.lt k e.symm).1
              omega
             have hr6:V5.ownsRow wc.heap.size 9 1 v5 (L ++ [pp.data.toList]).length (cellS (L ++ [pp.data.toList])):=by
              rw [← snocS,List.length_append];exact hr5
             have H6:=Lib.hid (And.intro hB5 hr6)
             clear hrow2 hbase hr5 hg5 hw5 hB5 hr6
             go_wp2
             exact ⟨⟨p + 1,v5,_,by push_cast;rfl,rfl,hlt,H6.out.1,HNe.out.symm,H6.out.2⟩,hmeasp⟩
           · have hcmp:(((cp:Nat):Int) == ((q:Nat):Int)) = false:=by rw [beq_eq_false_iff_ne];omega
             have HNe:=Lib.hid (HN.out.trans (if_neg hcq))
             clear hcq hrow hbw HN
             go_wp2
             exact ⟨⟨p + 1,_,L,by push_cast;rfl,rfl,hlt,HR.out.2.1,HNe.out.symm,HR.out.1⟩,hmeasp⟩
         · have hge':¬ ((p:Nat):Int) < ((pk.length:Nat):Int):=by omega
           obtain rfl:p = pk.length:=by omega
           have hLq:L = gE q:=by rw [hL,List.take_length,List.take_of_length_le (Nat.le_of_eq HQ.out.2.1),HQ.out.2.2.1 q hq8]
           have hLl:L.length < 2 ^ 40:=by
            rw [hLq,HQ.out.2.2.1 q hq8]
            have h1:=wantOf_len pk co q
            omega
           have hS2:=HS.out.below hbw
           have hgr:=ownsRow_up (hS2.own q hq8) (Nat.zero_le _)
           rw [← hLq] at hgr
           have hwr:=ownsRow_up hrow (Nat.zero_le _)
           have hgc:wr.cell? ⟨gb,q,none⟩ = some (V q):=(cell_of hS2.gc).trans (gotC_at _ hq8)
           obtain ⟨og,cg,hVq⟩:=ownsRow_slice hgr
           rw [hVq] at hgr hgc
           have cS:=sames_calls hgr hwr hLl
           have H2:=Lib.hid hS2
           clear hLq hLl hS2 hgr hwr hrow hL hbw hVq hkeep t3
           go_wp2_with (go_at_call 16;refine cS.mono ?_;clear cS;rintro e W ⟨rfl,b⟩)
           exact ⟨⟨q + 1,by push_cast;rfl,hq8,H2.out.below b⟩,hmeasq⟩
      · have hq8':¬ ((q:Nat):Int) < 8:=by omega
        have HS:=Lib.hid hS
        clear hS
        go_wp2
        go_ret
        have hS:=HS.out
        have h5:=HQ.out.2.2.2.2.2.1
        exact ⟨rfl,hS.os.trans h5.os,hS.tape.trans h5.tape,hS.output.trans h5.output,Nat.le_trans h5.size hS.size,fun k hk=>(hS.block k (HQ.out.2.2.2.2.2.2.2.1 k hk)).trans (h5.block k hk)⟩
end Go.Am.Cha
