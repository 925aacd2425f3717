/-
 Tmframe: Next, where an idle packet is put in and 7 bytes or more are missing. Own work. Printed by mkX.py.
-/
import Derived.Test.YtlgpalokjckdcaaTmfAV
namespace Go.Am.Tmf
open Go Go.Am Go.Am.Lib Go.Lib Go.Proofs Go.RowKit Go.Shelf
open Go.Am.Own
set_option maxRecDepth 100000
attribute [local go_sem] Oper.semAt_some

theorem post_padM {S:Nat → Prop} {b sz id f F D M R:Nat} {q0 q:L8} {ip:ByteArray} {st0 st:List Nat} {u1 u2:Value} {w w':World} (hM:q0.length + M = sz) (_hM0:0 < M) (h7:7 ≤ M) (hi:idleS ((M:Nat):Int) = ip) (hq:q0 ++ ip.data.toList = q) (hs:st0 ++ [q0.length] = st) (hR:M - M = R) (hf:firstOf sz st = f) (h:FC (fun k=>(S k ∧ k ≠ F) ∧ k ≠ D) b u1 u2 ⟨sz,q.drop sz,cutS sz st,R⟩ w') (hb:FrS S w w') :
 NextPost S b ⟨sz,q0,st0,id⟩ w (.returned (.tuple #[.string ⟨⟨List.take sz q⟩⟩,.int .i64 ((f:Nat):Int),.bool true])) w':=by
 have hmx:max (sz - q0.length) 7 = M:=by omega
 have hp:(FS.mk sz q0 st0 id).pad idleL = ⟨sz,q,st,R⟩:=by
  unfold FS.pad
  rw [if_pos (by show q0.length < sz;omega)]
  show FS.mk sz (q0 ++ idleL (max (sz - q0.length) 7)) (st0 ++ [q0.length]) (max (sz - q0.length) 7 - (sz - q0.length)) = _
  rw [hmx,← hq,hs]
  have e1:idleL M = ip.data.toList:=by unfold idleL;rw [← hi]
  rw [e1,show M - (sz - q0.length) = R by omega]
 refine ⟨?_,?_,hb⟩
 · unfold FS.data FS.first
   rw [hp,← hf];rfl
 · unfold FS.next
   rw [hp]
   exact ⟨_,_,h.mono fun k hk=>hk.1.1⟩
set_option maxHeartbeats 3200000 in
theorem next_padM {S:Nat → Prop} {b:Nat} {v10 v20:Value} {sz id M:Nat} {q0:L8} {st0:List Nat} {w:World} (h:FC S b v10 v20 ⟨sz,q0,st0,id⟩ w) (z0:32 ≤ sz) (z1:sz ≤ 200) (hid:id < q0.length) (hM:q0.length + M = sz) (hM0:0 < M) (h7:7 ≤ M) (hst0:st0.length ≤ 2 ^ 29) (hsv0:∀ a ∈ st0,a ≤ 2 ^ 30) :
 Calls Try.prog 43 #[.pointer (some ⟨b,0,none⟩)] w (NextPost S b ⟨sz,q0,st0,id⟩ w):=by
 refine (callsIn_wide (n:=9)).1 ?_
 have HM:=Lib.hid hM
 have hsub:((sz:Nat):Int) - ((q0.length:Nat):Int) = ((M:Nat):Int):=by omega
 have hMb:((M:Nat):Int) ≤ 200:=by omega
 have hpos:(0:Int) < ((M:Nat):Int):=by omega
 have hge7:(7:Int) ≤ ((M:Nat):Int):=by omega
 obtain ⟨F,hF⟩:∃ F,w.heap.size = F:=⟨_,rfl⟩
 have h1:=h.fresh (.cells #[.int .i64 0] 3)
 rw [hF] at h1
 have hFl:F < (w.alloc (.cells #[.int .i64 0] 3)).heap.size:=by rw [alloc_size];omega
 have b1:FrS S w (w.alloc (.cells #[.int .i64 0] 3)):=(FrS.refl S w).alloc h.hS _
 have cF:(w.alloc (.cells #[.int .i64 0] 3)).heap[F]? = some (.cells #[.int .i64 0] 3 (0,0)):=by rw [← hF];exact heap_alloc_new w _
 have hSF:S F:=h.hS F (by omega)
 have hbF:b ≠ F:=fun e=>h1.hb.2 e
 have hwt:((((FS.mk sz q0 st0 id).wait:Nat):Int) == 0) = false:=by
  unfold FS.wait;simp;omega
 obtain ⟨wt,hwtq⟩:∃ n,(FS.mk sz q0 st0 id).wait = n:=⟨_,rfl⟩
 have hwc:=wait_calls h1 (by show 0 < sz;omega) (by show id ≤ q0.length;omega) (by show q0.length ≤ 2 ^ 40;omega)
 rw [hwtq] at hwt hwc
 unfold intV at hwc
 refine callsIn_of_wp_marks Try.func43 rfl trivial ?_ rfl
 simp only [Try.ntmps43,List.size_toArray,List.length_cons,List.length_nil,Nat.reduceAdd,Nat.reduceSub,Array.replicate_succ,Array.replicate_zero,List.push_toArray,List.append_toArray,List.nil_append,List.cons_append]
 gi_wp2_with (refine ⟨trivial,?_⟩;gi_at_call 38;refine (callsIn_wide.2 hwc).mono ?_)
 rintro e W2 ⟨rfl,b2,e2⟩
 have h2:=h1.below b2
 have b3:FrS S w W2:=b1.trans ((fr_of b2 h1.hS).mono fun k hk=>hk.1)
 have cF2:W2.heap[F]? = some (.cells #[.int .i64 0] 3 (0,0)):=by rw [e2];exact cF
 have hFl2:F < W2.heap.size:=Nat.lt_of_lt_of_le hFl b2.size
 have c0:=h2.c0
 have c2:=h2.c2
 obtain ⟨ao1,cap1,rfl⟩:=h2.r1.slice
 dsimp only at c0
 unfold intV at c2
 clear h1 b1 b2 hwc e2 cF hFl h hM
 gi_wp2
 gi_region
 have h3':=h2.drew
 have b4':=b3.drew
 gi_wp2_with (refine ⟨trivial,?_⟩;gi_at_call 80;refine (callsIn_wide.2 (show Calls Try.prog 80 #[.int .i64 ((M:Nat):Int)] _ _ from idle_calls (n:=M) (by omega) (by omega) _)).mono ?_)
 rintro e W3 ⟨rfl,b5'⟩
 have h4':=h3'.below b5'
 have cF3:W3.heap[F]? = some (.cells #[.int .i64 0] 3 (0,0)):=(b5'.block F hFl2).trans cF2
 have b6':FrS S w W3:=b4'.trans (fr_of b5' fun k hk=>(h3'.hS k hk).1)
 have hFl3:F < W3.heap.size:=Nat.lt_of_lt_of_le hFl2 b5'.size
 obtain ⟨ip,hip⟩:∃ s,idleS ((M:Nat):Int) = s:=⟨_,rfl⟩
 have hipl:ip.size = M:=by
  have:=idleL_len (n:=M) (by omega) (by omega)
  unfold idleL at this
  rw [size_list] at this
  rw [← hip];exact this
 rw [hip]
 clear h2 h3' b3 b4' b5' cF2 hFl2 c0 c2
 gi_wp2_with (refine ⟨trivial,?_⟩;gi_at_call 67;refine (callsIn_wide.2 (add_calls h4' ip (by show q0.length + ip.size ≤ 2 ^ 40;omega) (by show st0.length ≤ 2 ^ 40;omega))).mono ?_)
 rintro e W5 ⟨rfl,⟨v1,v2,h5⟩,b7'⟩
 obtain ⟨q,hqq⟩:∃ q,q0 ++ ip.data.toList = q:=⟨_,rfl⟩
 obtain ⟨st,hss⟩:∃ s,st0 ++ [q0.length] = s:=⟨_,rfl⟩
 have h3:FC (fun k=>S k ∧ k ≠ F) b v1 v2 ⟨sz,q,st,id⟩ W5:=by rw [← hqq,← hss];exact h5
 have hql:q.length = q0.length + ip.size:=by rw [← hqq,List.length_append,size_list]
 have hge:sz ≤ q.length:=by have:=HM.out;omega
 have hq:q.length ≤ 2 ^ 30:=by have:=HM.out;omega
 have hst:st.length ≤ 2 ^ 30:=by rw [← hss,List.length_append];show st0.length + 1 ≤ _;omega
 have hsv:∀ a ∈ st,a ≤ 2 ^ 30:=by
  intro a ha
  rw [← hss] at ha
  rcases List.mem_append.1 ha with ha | ha
  · exact hsv0 a ha
  · have:=List.mem_singleton.1 ha;have:=HM.out;omega
 have cF5:W5.heap[F]? = some (.cells #[.int .i64 0] 3 (0,0)):=(b7'.block F (fun e=>e.2 rfl)).trans cF3
 have b4:FrS S w W5:=b6'.trans (b7'.mono fun k hk=>hk.1)
 have hFl5:F < W5.heap.size:=Nat.lt_of_lt_of_le hFl3 b7'.size
 have HQ:=Lib.hid hqq
 have HS:=Lib.hid hss
 have HI:=Lib.hid hip
 obtain ⟨ao1,cap1,rfl⟩:=h3.r1.slice
 have eF:W5.cell? ⟨F,0,none⟩ = some (.int .i64 0):=cell_of cF5
 have fF:W5.frozen? ⟨F,0,none⟩ = false:=fz_of cF5 0
 clear h5 b7' b6' h4' cF3 hFl3 hqq hss hip hql
 gi_wp2
 have ho4:OnlyB F W5 (W5.setCell ⟨F,0,none⟩ (.int .i64 2047)):=(OnlyB.refl F _).setCell 0 _
 have cF4:((W5.setCell ⟨F,0,none⟩ (.int .i64 2047))).heap[F]? = some (.cells #[.int .i64 2047] 3 (0,0)):=set_at (o:=0) (v:=.int .i64 2047) cF5
 have h4:=h3.keep (w':=(W5.setCell ⟨F,0,none⟩ (.int .i64 2047))) (Nat.le_of_eq ho4.size.symm) fun k hk _=>ho4.rest k hk.2
 have b5:FrS S w (W5.setCell ⟨F,0,none⟩ (.int .i64 2047)):=b4.trans (ho4.fr hSF)
 have hFl4:F < (W5.setCell ⟨F,0,none⟩ (.int .i64 2047)).heap.size:=by rw [ho4.size];exact hFl5
 obtain ⟨W4,hW4⟩:∃ W,(W5.setCell ⟨F,0,none⟩ (.int .i64 2047)) = W:=⟨_,rfl⟩
 rw [hW4] at cF4 h4 b5 hFl4 ⊢
 have d2:=h4.c2
 unfold intV at d2
 clear hW4 ho4 h3 b4 cF5 hFl5 eF fF
 refine wpIn_wide.2 (wp_calm ?_)
 go_region_with (go_at_call 81;refine (callsIn_wide.1 (within_in Fence.wide 0 trivial rfl b sz _)).mono ?_;rintro e w' ⟨rfl,rfl⟩)
 simp only [OnN]
 have h6:=(h4.below (((Below.refl _ W4).alloc (Nat.le_refl _) (.cells #[.pointer (some ⟨b,0,none⟩)] 179)).alloc (by rw [alloc_size];omega) (.cells #[.int .i64 ((sz:Nat):Int)] 3))).drew
 have b6:FrS S w (((W4.alloc (.cells #[.pointer (some ⟨b,0,none⟩)] 179)).alloc (.cells #[.int .i64 ((sz:Nat):Int)] 3)).drew):=((b5.alloc (fun k hk=>(h4.hS k hk).1) _).alloc (fun k hk=>(h4.hS k (by rw [alloc_size] at hk;omega)).1) _).drew
 have k1:(((W4.alloc (.cells #[.pointer (some ⟨b,0,none⟩)] 179)).alloc (.cells #[.int .i64 ((sz:Nat):Int)] 3)).drew).heap[W4.heap.size]? = some (.cells #[.pointer (some ⟨b,0,none⟩)] 179 (0,0)) :=
  ((World.grownBy_alloc (W4.alloc (.cells #[.pointer (some ⟨b,0,none⟩)] 179)) (.cells #[.int .i64 ((sz:Nat):Int)] 3) none).block _ (by rw [alloc_size];omega) (by simp)).trans (heap_alloc_new W4 _)
 have k2:(((W4.alloc (.cells #[.pointer (some ⟨b,0,none⟩)] 179)).alloc (.cells #[.int .i64 ((sz:Nat):Int)] 3)).drew).heap[W4.heap.size + 1]? = some (.cells #[.int .i64 ((sz:Nat):Int)] 3 (0,0)):=by
  have:=heap_alloc_new (W4.alloc (.cells #[.pointer (some ⟨b,0,none⟩)] 179)) (.cells #[.int .i64 ((sz:Nat):Int)] 3)
  rw [alloc_size] at this
  exact this
 have kF:(((W4.alloc (.cells #[.pointer (some ⟨b,0,none⟩)] 179)).alloc (.cells #[.int .i64 ((sz:Nat):Int)] 3)).drew).heap[F]? = some (.cells #[.int .i64 2047] 3 (0,0)) :=
  ((World.grownBy_alloc (W4.alloc (.cells #[.pointer (some ⟨b,0,none⟩)] 179)) (.cells #[.int .i64 ((sz:Nat):Int)] 3) none).block _ (by rw [alloc_size];omega) (by simp)).trans
   (((World.grownBy_alloc W4 (.cells #[.pointer (some ⟨b,0,none⟩)] 179) none).block _ hFl4 (by simp)).trans cF4)
 have z6:(((W4.alloc (.cells #[.pointer (some ⟨b,0,none⟩)] 179)).alloc (.cells #[.int .i64 ((sz:Nat):Int)] 3)).drew).heap.size = W4.heap.size + 2:=by
  show ((W4.alloc _).alloc _).heap.size = _
  rw [alloc_size,alloc_size]
 obtain ⟨W6,hW6⟩:∃ W,((W4.alloc (.cells #[.pointer (some ⟨b,0,none⟩)] 179)).alloc (.cells #[.int .i64 ((sz:Nat):Int)] 3)).drew = W:=⟨_,rfl⟩
 obtain ⟨B1,hB1⟩:∃ B,W4.heap.size = B:=⟨_,rfl⟩
 rw [hW6] at h6 b6 k1 k2 kF z6 ⊢
 rw [hB1] at k1 k2 z6 hFl4 ⊢
 have hseq:=within_stops Fence.wide 8 trivial rfl (by decide) B1 (B1 + 1) W6.heap.size b sz v2 st (by omega) (by omega) (by omega) h6.lt W6 (Nat.le_refl _) (cell_of k1) (cell_of k2) h6.c1 (stI_of h6.r2 (Nat.le_refl _))
 clear hW6 cF4 h4 b5 d2 k1 k2
 gi_wp2
 refine wpIn_rangeFunc_ownF (F:=Fence.wide) (n:=9) rfl (by decide) (gf:=100) (lb:=#[.pointer (some ⟨B1,0,none⟩),.pointer (some ⟨B1 + 1,0,none⟩)]) rfl trivial (enters_of Try.func100 (by kernel_rfl) rfl) hseq belowK_t (belowK_b (Nat.le_refl _)) (Below.refl _ _) (fun _=>rfl)
  (fun pre W=>pre = [] ∧ Below W6.heap.size W6 W) (fun c pre W=>c = .exit 0 ∧ ∃ y:Nat,pre = [y] ∧ Below W6.heap.size (W6.setCell ⟨F,0,none⟩ (.int .i64 ((y:Nat):Int))) W)
  ((ownFrom_pure _ (fun pre=>pre = [])).and (ownFrom_below (Nat.le_refl _) (Nat.le_refl _))) ?_ ⟨rfl,Below.refl _ _⟩ ?a1 ?assign ?body ?done ?stop
 case assign =>
  intro l y W K hK
  gi_wp2
  exact hK
 case body =>
  rintro l pre y W ⟨rfl,hB⟩ _
  have eF:W.cell? ⟨F,0,none⟩ = some (.int .i64 2047):=cell_of ((hB.block F (by omega)).trans kF)
  have fF:W.frozen? ⟨F,0,none⟩ = false:=fz_of ((hB.block F (by omega)).trans kF) 0
  gi_wp2
  exact ⟨KeepsOthers.setCell _ _ _,rfl,y,rfl,below_setCell hB⟩
 case done =>
  rintro D xs W hD hS ⟨rfl,hB⟩ hK
  obtain ⟨f,hf⟩:∃ f,f = 2047:=⟨_,rfl⟩
  have hfirst:firstOf sz st = f:=by
   rw [hf]
   exact came_nil hS
  obtain ⟨W7,hW7⟩:∃ W7,W6 = W7:=⟨_,rfl⟩
  have hB2:Below W6.heap.size W7 W:=by rw [← hW7];exact hB
  clear hB
  have hof:OnlyB F W6 W7:=by rw [← hW7];exact OnlyB.refl F W6
  have c7:W7.heap[F]? = some (.cells #[.int .i64 ((f:Nat):Int)] 3 (0,0)):=by rw [← hW7];exact by rw [hf];exact kF
  clear hf
  have hSD:S D:=(h6.hS D hD).1
  have h7:=h6.keep (w':=W7) (Nat.le_of_eq hof.size.symm) fun k hk _=>hof.rest k hk.2
  have h8:=h7.below (w':=W) (by rw [hof.size];exact hB2)
  have c8:W.heap[F]? = some (.cells #[.int .i64 ((f:Nat):Int)] 3 (0,0)):=(hB2.block F (by omega)).trans c7
  have hDl:D < W.heap.size:=(Array.getElem?_eq_some_iff.1 hK).1
  have h9:=h8.less hDl (by have:=h6.lt;omega) (fun e=>by have:=h6.r1.lt _ e;omega) (fun e=>by have:=(h6.r2.lt _ e).2;omega)
  have b7:FrS S w W:=(b6.trans (hof.fr hSF)).trans (fr_of (w1:=W7) (by rw [hof.size];exact hB2) fun k hk=>(h7.hS k hk).1)
  have hFD:F ≠ D:=by omega
  have hbD:b ≠ D:=by have:=h6.lt;omega
  have hFl8:F < W.heap.size:=by have:=hB2.size;rw [hof.size] at this;omega
  have d2:=h9.c2
  unfold intV at d2
  clear hW7 h7 h8 h6 c7 kF b6 hB2 hseq hof
  gi_wp2
  refine wpIn_wide.2 (wp_calm ?_)
  go_region_with (go_at_call 82;refine (cut_calls (by first | exact h9 | exact h9.drew) (n:=sz) hge (by omega) (by omega) (by omega) (fun a ha=>by have:=hsv a ha;omega)).mono ?_;rintro e W8 ⟨vh,rfl,hvh,⟨u1,u2,h10⟩,b8⟩;have hcv:=hvh.text)
  simp only [OnN]
  have c9:W8.heap[F]? = some (.cells #[.int .i64 ((f:Nat):Int)] 3 (0,0)):=(b8.block F (fun e=>e.1.2 rfl)).trans c8
  have hK8:W8.heap[D]? = some (.deferred (some [])):=(b8.block D (fun e=>e.2 rfl)).trans hK
  have h11:=h10.setI 0
  have f3:=h10.fz 3
  have ho8:OnlyB b W8 (W8.setCell ⟨b,3,none⟩ (intV 0)):=(OnlyB.refl b W8).setCell 3 _
  have c10:(W8.setCell ⟨b,3,none⟩ (intV 0)).heap[F]? = some (.cells #[.int .i64 ((f:Nat):Int)] 3 (0,0)):=(ho8.rest F (fun e=>hbF e.symm)).trans c9
  have hK9:(W8.setCell ⟨b,3,none⟩ (intV 0)).heap[D]? = some (.deferred (some [])):=(ho8.rest D (fun e=>hbD e.symm)).trans hK8
  have b9:FrS S w (W8.setCell ⟨b,3,none⟩ (intV 0)):=(FrS.trans b7.drew (FrS.mono b8 fun k hk=>hk.1.1)).trans (ho8.fr h10.hb.1.1)
  have d3:=h10.c3
  have hR:intV 0 = .int .i64 0:=rfl
  rw [hR] at h11 c10 hK9 b9
  clear b8 b7 h9 c8 hK hK8 c9 ho8 h10 d2
  gi_wp2
  obtain ⟨W9,hW9⟩:∃ W,W8.setCell ⟨b,3,none⟩ (.int .i64 0) = W:=⟨_,rfl⟩
  rw [hW9] at h11 c10 hK9 b9 ⊢
  have eF:W9.cell? ⟨F,0,none⟩ = some (.int .i64 ((f:Nat):Int)):=cell_of c10
  have fF:W9.frozen? ⟨F,0,none⟩ = false:=fz_of c10 0
  clear hW9 f3 d3 hcv hvh
  refine wpIn_wide.2 (wp_calm ?_)
  go_region
  simp only [OnN]
  gi_wp2
  have ho9:OnlyB F W9 ((W9.setCell ⟨F,0,none⟩ (.int .i64 ((f:Nat):Int))).drew):=((OnlyB.refl F W9).setCell 0 _).drew
  have c11:((W9.setCell ⟨F,0,none⟩ (.int .i64 ((f:Nat):Int))).drew).heap[F]? = some (.cells #[.int .i64 ((f:Nat):Int)] 3 (0,0)):=set_at (o:=0) (v:=.int .i64 ((f:Nat):Int)) c10
  have hK10:((W9.setCell ⟨F,0,none⟩ (.int .i64 ((f:Nat):Int))).drew).heap[D]? = some (.deferred (some [])):=(ho9.rest D (fun e=>hFD e.symm)).trans hK9
  have h12:=h11.keep (w':=(W9.setCell ⟨F,0,none⟩ (.int .i64 ((f:Nat):Int))).drew) (Nat.le_of_eq ho9.size.symm) fun k hk _=>ho9.rest k hk.1.2
  have b10:=b9.trans (ho9.fr hSF)
  obtain ⟨W10,hW10⟩:∃ W,(W9.setCell ⟨F,0,none⟩ (.int .i64 ((f:Nat):Int))).drew = W:=⟨_,rfl⟩
  rw [hW10] at c11 hK10 h12 b10 ⊢
  have hg:=grownBy_putObj' W10 D (.deferred none)
  have h13:=h12.keep (w':=W10.putObj D (.deferred none)) hg.size fun k hk hlt=>hg.block k hlt (fun e=>hk.2 (by injection e))
  have hFl10:F < W10.heap.size:=(Array.getElem?_eq_some_iff.1 c11).1
  have c12:(W10.putObj D (.deferred none)).cell? ⟨F,0,none⟩ = some (.int .i64 ((f:Nat):Int)):=cell_of ((hg.block F hFl10 (fun e=>hFD (by injection e))).trans c11)
  have b11:FrS S w (W10.putObj D (.deferred none)):=b10.grown hg (fun k hk=>(h12.hS k hk).1.1) (fun k e=>by injection e with e;rw [← e];exact hSD)
  refine ⟨by simp,.inl ⟨_,_,rfl,run_takeDeferred hK10,?_⟩⟩
  refine ⟨.tuple #[.string ⟨⟨List.take sz q⟩⟩,.int .i64 ((f:Nat):Int),.bool true],by simp [results,Try.results43,go_sem,c12],?_⟩
  exact post_padM HM.out hM0 h7 HI.out HQ.out HS.out (Nat.sub_self M) hfirst h13 b11
 case stop =>
  rintro D c pre W hD hS ⟨rfl,f,rfl,hB⟩ hK
  have hfirst:firstOf sz st = f:=left_one hS
  obtain ⟨W7,hW7⟩:∃ W7,W6.setCell ⟨F,0,none⟩ (.int .i64 ((f:Nat):Int)) = W7:=⟨_,rfl⟩
  have hB2:Below W6.heap.size W7 W:=by rw [← hW7];exact hB
  clear hB
  have hof:OnlyB F W6 W7:=by rw [← hW7];exact (OnlyB.refl F W6).setCell 0 _
  have c7:W7.heap[F]? = some (.cells #[.int .i64 ((f:Nat):Int)] 3 (0,0)):=by rw [← hW7];exact set_at (o:=0) (v:=.int .i64 ((f:Nat):Int)) kF
  have hSD:S D:=(h6.hS D hD).1
  have h7:=h6.keep (w':=W7) (Nat.le_of_eq hof.size.symm) fun k hk _=>hof.rest k hk.2
  have h8:=h7.below (w':=W) (by rw [hof.size];exact hB2)
  have c8:W.heap[F]? = some (.cells #[.int .i64 ((f:Nat):Int)] 3 (0,0)):=(hB2.block F (by omega)).trans c7
  have hDl:D < W.heap.size:=(Array.getElem?_eq_some_iff.1 hK).1
  have h9:=h8.less hDl (by have:=h6.lt;omega) (fun e=>by have:=h6.r1.lt _ e;omega) (fun e=>by have:=(h6.r2.lt _ e).2;omega)
  have b7:FrS S w W:=(b6.trans (hof.fr hSF)).trans (fr_of (w1:=W7) (by rw [hof.size];exact hB2) fun k hk=>(h7.hS k hk).1)
  have hFD:F ≠ D:=by omega
  have hbD:b ≠ D:=by have:=h6.lt;omega
  have hFl8:F < W.heap.size:=by have:=hB2.size;rw [hof.size] at this;omega
  have d2:=h9.c2
  unfold intV at d2
  clear hW7 h7 h8 h6 c7 kF b6 hB2 hseq hof
  gi_wp2
  refine wpIn_wide.2 (wp_calm ?_)
  go_region_with (go_at_call 82;refine (cut_calls (by first | exact h9 | exact h9.drew) (n:=sz) hge (by omega) (by omega) (by omega) (fun a ha=>by have:=hsv a ha;omega)).mono ?_;rintro e W8 ⟨vh,rfl,hvh,⟨u1,u2,h10⟩,b8⟩;have hcv:=hvh.text)
  simp only [OnN]
  have c9:W8.heap[F]? = some (.cells #[.int .i64 ((f:Nat):Int)] 3 (0,0)):=(b8.block F (fun e=>e.1.2 rfl)).trans c8
  have hK8:W8.heap[D]? = some (.deferred (some [])):=(b8.block D (fun e=>e.2 rfl)).trans hK
  have h11:=h10.setI 0
  have f3:=h10.fz 3
  have ho8:OnlyB b W8 (W8.setCell ⟨b,3,none⟩ (intV 0)):=(OnlyB.refl b W8).setCell 3 _
  have c10:(W8.setCell ⟨b,3,none⟩ (intV 0)).heap[F]? = some (.cells #[.int .i64 ((f:Nat):Int)] 3 (0,0)):=(ho8.rest F (fun e=>hbF e.symm)).trans c9
  have hK9:(W8.setCell ⟨b,3,none⟩ (intV 0)).heap[D]? = some (.deferred (some [])):=(ho8.rest D (fun e=>hbD e.symm)).trans hK8
  have b9:FrS S w (W8.setCell ⟨b,3,none⟩ (intV 0)):=(FrS.trans b7.drew (FrS.mono b8 fun k hk=>hk.1.1)).trans (ho8.fr h10.hb.1.1)
  have d3:=h10.c3
  have hR:intV 0 = .int .i64 0:=rfl
  rw [hR] at h11 c10 hK9 b9
  clear b8 b7 h9 c8 hK hK8 c9 ho8 h10 d2
  gi_wp2
  obtain ⟨W9,hW9⟩:∃ W,W8.setCell ⟨b,3,none⟩ (.int .i64 0) = W:=⟨_,rfl⟩
  rw [hW9] at h11 c10 hK9 b9 ⊢
  have eF:W9.cell? ⟨F,0,none⟩ = some (.int .i64 ((f:Nat):Int)):=cell_of c10
  have fF:W9.frozen? ⟨F,0,none⟩ = false:=fz_of c10 0
  clear hW9 f3 d3 hcv hvh
  refine wpIn_wide.2 (wp_calm ?_)
  go_region
  simp only [OnN]
  gi_wp2
  have ho9:OnlyB F W9 ((W9.setCell ⟨F,0,none⟩ (.int .i64 ((f:Nat):Int))).drew):=((OnlyB.refl F W9).setCell 0 _).drew
  have c11:((W9.setCell ⟨F,0,none⟩ (.int .i64 ((f:Nat):Int))).drew).heap[F]? = some (.cells #[.int .i64 ((f:Nat):Int)] 3 (0,0)):=set_at (o:=0) (v:=.int .i64 ((f:Nat):Int)) c10
  have hK10:((W9.setCell ⟨F,0,none⟩ (.int .i64 ((f:Nat):Int))).drew).heap[D]? = some (.deferred (some [])):=(ho9.rest D (fun e=>hFD e.symm)).trans hK9
  have h12:=h11.keep (w':=(W9.setCell ⟨F,0,none⟩ (.int .i64 ((f:Nat):Int))).drew) (Nat.le_of_eq ho9.size.symm) fun k hk _=>ho9.rest k hk.1.2
  have b10:=b9.trans (ho9.fr hSF)
  obtain ⟨W10,hW10⟩:∃ W,(W9.setCell ⟨F,0,none⟩ (.int .i64 ((f:Nat):Int))).drew = W:=⟨_,rfl⟩
  rw [hW10] at c11 hK10 h12 b10 ⊢
  have hg:=grownBy_putObj' W10 D (.deferred none)
  have h13:=h12.keep (w':=W10.putObj D (.deferred none)) hg.size fun k hk hlt=>hg.block k hlt (fun e=>hk.2 (by injection e))
  have hFl10:F < W10.heap.size:=(Array.getElem?_eq_some_iff.1 c11).1
  have c12:(W10.putObj D (.deferred none)).cell? ⟨F,0,none⟩ = some (.int .i64 ((f:Nat):Int)):=cell_of ((hg.block F hFl10 (fun e=>hFD (by injection e))).trans c11)
  have b11:FrS S w (W10.putObj D (.deferred none)):=b10.grown hg (fun k hk=>(h12.hS k hk).1.1) (fun k e=>by injection e with e;rw [← e];exact hSD)
  refine ⟨by simp,.inl ⟨_,_,rfl,run_takeDeferred hK10,?_⟩⟩
  refine ⟨.tuple #[.string ⟨⟨List.take sz q⟩⟩,.int .i64 ((f:Nat):Int),.bool true],by simp [results,Try.results43,go_sem,c12],?_⟩
  exact post_padM HM.out hM0 h7 HI.out HQ.out HS.out (Nat.sub_self M) hfirst h13 b11
 · intro c s A A' row hs hg hr
   obtain ⟨e,y,e2,hb⟩:=hs
   refine ⟨e,y,e2,hb.grown hg ?_ (fun k e=>(hr k e).1)⟩
   have hz:=hb.size
   rw [((OnlyB.refl F W6).setCell 0 (.int .i64 ((y:Nat):Int))).size] at hz
   exact hz
end Go.Am.Tmf
