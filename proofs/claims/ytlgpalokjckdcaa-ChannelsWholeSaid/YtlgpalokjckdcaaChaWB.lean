/-
  Channels: what is sent, plainly. Own work.
-/
import Derived.Test.YtlgpalokjckdcaaChaWe
import Derived.Test.YtlgpalokjckdcaaChaWA
import Derived.Test.YtlgpalokjckdcaaChaMA
import Derived.Deep.RegionHeld3
import Derived.Deep.QuietTactic
import Derived.BigQuiet
namespace Go.Am.Cha
open Go Go.Am Go.Am.Lib Go.Lib Go.Proofs Go.RowKit
open Go.Am.Own
open Go.Am.Tmf (cellI)
set_option maxRecDepth 100000

variable {H:Nat → Prop} {W W0 w wr w':World} {B sb mb g cap N:Nat} {bk:Nat → Nat} {M M':MS} {ok:Bool} {bs ss:Nat → Int} {V V':Nat → Value} {R R':Nat → RowM}
/-- A store into a held block. -/
theorem Sg.setH (h:Sg H W B sb mb g cap bk M ok bs ss V R w) {m:Nat} (hm:H m) (o:Nat) (u:Value):Sg H (W.setCell ⟨m,o,none⟩ u) B sb mb g cap bk M ok bs ss V R (w.setCell ⟨m,o,none⟩ u):=by
 have ho:OnlyB m w (w.setCell ⟨m,o,none⟩ u):=(OnlyB.refl m w).setCell o u
 have hoW:OnlyB m W (W.setCell ⟨m,o,none⟩ u):=(OnlyB.refl m W).setCell o u
 obtain ⟨S,h1,h2,h3,h4⟩:=h.ex
 refine ⟨⟨S,h1.keep (fun k hk hlt=>ho.rest k fun e=>(h2 k hlt hk).2 (e ▸ hm)) (fun k hk=>h1.hS k (by rw [ho.size] at hk;exact hk)) fun _ _ hs=>hs,by rw [ho.size];exact h2,h3,h4⟩,(ho.rest sb fun e=>h.nH (e ▸ hm)).trans h.cell,h.nH,h.lo,fun i hi=>ownsRow_keep (h.own i hi) fun k hk=>ho.rest k fun e=>h.rH i hi k hk (e ▸ hm),h.rH,h.rs,h.dis,h.os,h.tape,h.output,?_,fun k hk=>?_,by rw [ho.size];exact h.lt,by rw [ho.size];exact h.hB⟩
 · rw [ho.size,hoW.size];exact h.size
 · by_cases e:k = m
   · subst e
     show (w.heap.modify k _)[k]? = (W.heap.modify k _)[k]?
     rw [Array.getElem?_modify,Array.getElem?_modify,if_pos rfl,if_pos rfl,h.block k hm]
   · exact (ho.rest k e).trans ((h.block k hk).trans (hoW.rest k e).symm)
theorem As.setH {W':World} (h:As H W0 W') {m:Nat} (hm:¬ H m) (o:Nat) (u:Value):As H W0 (W'.setCell ⟨m,o,none⟩ u):=by
 have ho:OnlyB m W' (W'.setCell ⟨m,o,none⟩ u):=(OnlyB.refl m W').setCell o u
 exact ⟨h.os,h.tape,h.output,by rw [ho.size];exact h.size,fun k hk=>(ho.rest k fun e=>hm (e ▸ hk)).trans (h.block k hk)⟩
theorem Sg.wait (h:Sg H W B sb mb g cap bk M ok bs ss V R w) (ho:OkM N M) {k:Nat} (hk:k < 8):Calls Try.prog 18 #[.pointer (some ⟨mb,0,none⟩),.int .i64 ((k:Nat):Int)] w fun e w'=>e = .returned (.int .i64 (((M.f k).x.wait:Nat):Int)) ∧ Sg H W B sb mb g cap bk M ok bs ss V R w':=by
 obtain ⟨S,h1,-,-,-⟩:=h.ex
 exact (mwait_at h1 ho hk).mono fun e w' hh=>⟨hh.1,h.below hh.2⟩
theorem Sg.nextC (h:Sg H W B sb mb g cap bk M ok bs ss V R w) (ho:OkM N M) (wd:Nat) (hwd:wd < 2 ^ 32):Calls Try.prog 21 #[.pointer (some ⟨mb,0,none⟩),.int .u32 ((wd:Nat):Int)] w fun e w'=>e = .returned (.tuple #[.string (nextS M wd),.int .i64 (nextE M)]) ∧ Sg H W B sb mb g cap bk (nextM M) ok bs ss V R w' :=
 h.call (E:=fun e=>e = .returned (.tuple #[.string (nextS M wd),.int .i64 (nextE M)])) (M':=nextM M) fun S hS=>by
  unfold nextS nextE nextM
  by_cases hw:waitJ M 8 = []
  · rw [if_pos hw,if_pos hw,if_pos hw]
    exact next_idle hS ho hw wd hwd
  · rw [if_neg hw,if_neg hw,if_neg hw]
    have hk:chosen M < 8:=bests_lt (topS_mem (bests_ne hw))
    exact next_full hS ho hw wd hwd rfl rfl rfl (data_le ((ho.choose hw).x _ hk)) (first_le ((ho.choose hw).x _ hk)) rfl
/-- The channel of the next frame. -/
def nextK (M:MS):Nat:=if waitJ M 8 = [] then 7 else chosen M
theorem nextK_lt (M:MS):nextK M < 8:=by
 unfold nextK
 split
 · decide
 · rename_i hw;exact bests_lt (topS_mem (bests_ne hw))
/-- What waits behind a field. -/
theorem fs_next_wait {x:Tmf.FS} (ho:Tmf.OkF x N) (hi:x.idle ≤ 6) (_:0 < x.wait):(x.next Tmf.idleL).wait = 0 ∨ (x.next Tmf.idleL).wait + 26 ≤ x.wait:=by
 have hlo:=ho.lo
 have hhi:=ho.hi
 unfold Tmf.FS.next Tmf.FS.cut Tmf.FS.pad
 by_cases hq:x.q.length < x.size
 · rw [if_pos hq]
   left
   have hm:7 ≤ max (x.size - x.q.length) 7:=Nat.le_max_right _ _
   have hm2:max (x.size - x.q.length) 7 ≤ 200:=Nat.max_le.2 ⟨by omega,by omega⟩
   have hl:=Tmf.idleL_len hm (by omega)
   show ((x.q ++ Tmf.idleL (max (x.size - x.q.length) 7)).drop x.size).length - (max (x.size - x.q.length) 7 - (x.size - x.q.length)) = 0
   rw [List.length_drop,List.length_append,hl]
   omega
 · rw [if_neg hq]
   right
   show (x.q.drop x.size).length - 0 + 26 ≤ x.q.length - x.idle
   rw [List.length_drop]
   have:=ho.idle
   unfold Tmf.FS.wait at *
   omega
/-- Just the channel of the frame has less waiting. -/
theorem wait_next (hI:OkI N M) {k:Nat} (hk:k < 8):(((nextM M).f k).x.wait = (M.f k).x.wait ∧ (k = nextK M → k = 7)) ∨ (((nextM M).f k).x.wait ≠ (M.f k).x.wait ∧ k = nextK M):=by
 unfold nextM nextK
 by_cases hw:waitJ M 8 = []
 · rw [if_pos hw,if_pos hw]
   left
   refine ⟨?_,fun h=>h⟩
   show (upd M.f 7 { M.f 7 with ct:=((M.f 7).ct + 1) % 256 } k).x.wait = _
   by_cases e:k = 7
   · subst e;rw [upd_same]
   · rw [upd_other _ _ e]
 · rw [if_neg hw,if_neg hw]
   have hx:=(after_x M (chosen M) k).1
   have hx':((tickM (fieldM (chooseM M) (chosen M)) (chosen M)).f k).x = (if k = chosen M then (M.f (chosen M)).x.next Tmf.idleL else (M.f k).x):=hx
   rw [hx']
   have hwt:0 < (M.f (chosen M)).x.wait:=bests_wait (topS_mem (M:=filled M (bests M)) (bests_ne hw))
   by_cases e:k = chosen M
   · right
     rw [if_pos e]
     refine ⟨?_,e⟩
     rw [e]
     have:=fs_next_wait (hI.ok.x _ (by rw [← e];exact hk)) (hI.i _ (by rw [← e];exact hk)) hwt
     omega
   · left
     rw [if_neg e]
     exact ⟨rfl,fun h=>absurd h e⟩
end Go.Am.Cha

namespace Go.Am.Cha
open Go Go.Am Go.Am.Lib Go.Proofs
open Go.Am.Tmf (FS fs0 idleL OkF gWd)
set_option maxRecDepth 100000

variable {M:MS} {D:Dm} {want got:Nat → List L8} {N:Nat}
/-! ### a packet is added -/
theorem made_get {n i:Nat} (h0:7 ≤ n) (h1:n ≤ 206):Pkt.getE (madeN n i) = 0 ∧ Pkt.gA (madeN n i) ≠ 2047:=by
 obtain ⟨e1,e2,e3⟩:=itm_take (p:=madeL n i) (r:=[]) (.inl ⟨n,i,h0,h1,rfl⟩) (s:=madeN n i) (by rw [List.append_nil];rfl)
 rw [real_made h0 h1] at e3
 have e4:Pkt.pA (madeN n i) ≠ 2047:=by
  have:=e3.symm
  simpa using this
 have e5:(madeL n i).length = (madeN n i).size:=rfl
 have g:Pkt.getE (madeN n i) = 0:=by
  unfold Pkt.getE
  rw [if_pos ⟨e1,by rw [e2,e5]⟩]
 refine ⟨g,?_⟩
 unfold Pkt.gA
 rw [if_pos g]
 exact e4
theorem addE_made {x:FS} {n i:Nat} (h0:7 ≤ n) (h1:n ≤ 206) (hw:x.wait + n ≤ 65536):Tmf.addE x (madeN n i) = 0:=by
 obtain ⟨e1,e2⟩:=made_get (i:=i) h0 h1
 have e3:=madeN_size (k:=i) h0
 unfold Tmf.addE
 rw [if_neg (by rw [e1];intro q;rcases q with q | q;exact q rfl;exact e2 q),if_neg (by rw [e3];omega)]
/-! ### how much waits -/
def sumE (f:Nat → Nat):Nat:=f 0 + f 1 + f 2 + f 3 + f 4 + f 5 + f 6 + f 7
def waits8 (M:MS):Nat:=sumE fun k=>(M.f k).x.wait
def turns8 (M:MS):Nat:=sumE fun k=>((M.f k).x.wait + 25) / 26
theorem sumE_one {f g:Nat → Nat} {k:Nat} (hk:k < 8) (h:∀ j,j < 8 → j ≠ k → g j = f j):sumE g + f k = sumE f + g k:=by
 have h0:=h 0 (by decide)
 have h1:=h 1 (by decide)
 have h2:=h 2 (by decide)
 have h3:=h 3 (by decide)
 have h4:=h 4 (by decide)
 have h5:=h 5 (by decide)
 have h6:=h 6 (by decide)
 have h7:=h 7 (by decide)
 unfold sumE
 match k,hk with
 | 0,_=>rw [h1 (by decide),h2 (by decide),h3 (by decide),h4 (by decide),h5 (by decide),h6 (by decide),h7 (by decide)];omega
 | 1,_=>rw [h0 (by decide),h2 (by decide),h3 (by decide),h4 (by decide),h5 (by decide),h6 (by decide),h7 (by decide)];omega
 | 2,_=>rw [h0 (by decide),h1 (by decide),h3 (by decide),h4 (by decide),h5 (by decide),h6 (by decide),h7 (by decide)];omega
 | 3,_=>rw [h0 (by decide),h1 (by decide),h2 (by decide),h4 (by decide),h5 (by decide),h6 (by decide),h7 (by decide)];omega
 | 4,_=>rw [h0 (by decide),h1 (by decide),h2 (by decide),h3 (by decide),h5 (by decide),h6 (by decide),h7 (by decide)];omega
 | 5,_=>rw [h0 (by decide),h1 (by decide),h2 (by decide),h3 (by decide),h4 (by decide),h6 (by decide),h7 (by decide)];omega
 | 6,_=>rw [h0 (by decide),h1 (by decide),h2 (by decide),h3 (by decide),h4 (by decide),h5 (by decide),h7 (by decide)];omega
 | 7,_=>rw [h0 (by decide),h1 (by decide),h2 (by decide),h3 (by decide),h4 (by decide),h5 (by decide),h6 (by decide)];omega
theorem sumE_le {f:Nat → Nat} {k:Nat} (hk:k < 8):f k ≤ sumE f:=by
 unfold sumE
 match k,hk with
 | 0,_ | 1,_ | 2,_ | 3,_ | 4,_ | 5,_ | 6,_ | 7,_=>omega
theorem turns_waits (M:MS):26 * turns8 M ≤ waits8 M + 200:=by
 unfold turns8 waits8 sumE
 have h:∀ n:Nat,26 * ((n + 25) / 26) ≤ n + 25:=fun n=>Nat.mul_div_le _ _
 have h0:=h (M.f 0).x.wait
 have h1:=h (M.f 1).x.wait
 have h2:=h (M.f 2).x.wait
 have h3:=h (M.f 3).x.wait
 have h4:=h (M.f 4).x.wait
 have h5:=h (M.f 5).x.wait
 have h6:=h (M.f 6).x.wait
 have h7:=h (M.f 7).x.wait
 dsimp only
 omega
theorem add_wait (hI:OkI N M) {k n i:Nat} (hk:k < 8) (h0:7 ≤ n) (h1:n ≤ 206) (hw:waits8 M + n ≤ 65536):Tmf.addE (M.f k).x (madeN n i) = 0 ∧ waits8 (addM M k (madeN n i)) = waits8 M + n:=by
 have hle:(M.f k).x.wait ≤ waits8 M:=sumE_le (f:=fun k=>(M.f k).x.wait) hk
 have hE:Tmf.addE (M.f k).x (madeN n i) = 0:=addE_made h0 h1 (by omega)
 refine ⟨hE,?_⟩
 have h:=sumE_one (f:=fun j=>(M.f j).x.wait) (g:=fun j=>((addM M k (madeN n i)).f j).x.wait) hk fun j _ hne=>by
  show ((upd M.f k _ j).x.wait) = _
  rw [upd_other _ _ hne]
 have hk2:((addM M k (madeN n i)).f k).x.wait = (M.f k).x.wait + n:=by
  show ((upd M.f k _ k).x.wait) = _
  rw [upd_same]
  show (if Tmf.addE (M.f k).x (madeN n i) = 0 then (M.f k).x.add (madeN n i).data.toList else (M.f k).x).wait = _
  rw [if_pos hE]
  have hid:=(hI.ok.x k hk).idle
  have hl:(madeN n i).data.toList.length = n:=madeN_size h0
  unfold FS.wait FS.add
  show ((M.f k).x.q ++ (madeN n i).data.toList).length - (M.f k).x.idle = _
  rw [List.length_append,hl]
  omega
 unfold waits8
 rw [hk2] at h
 omega
/-- What waits behind the next frame. -/
theorem next_wait (hI:OkI N M):(waitJ M 8 = [] ∧ ∀ k,k < 8 → ((nextM M).f k).x.wait = (M.f k).x.wait) ∨ (waitJ M 8 ≠ [] ∧ chosen M < 8 ∧ 0 < (M.f (chosen M)).x.wait ∧ (((nextM M).f (chosen M)).x.wait = 0 ∨ ((nextM M).f (chosen M)).x.wait + 26 ≤ (M.f (chosen M)).x.wait) ∧ ∀ k,k < 8 → k ≠ chosen M → ((nextM M).f k).x.wait = (M.f k).x.wait):=by
 unfold nextM
 by_cases hw:waitJ M 8 = []
 · rw [if_pos hw]
   refine .inl ⟨hw,fun k hk=>?_⟩
   show (upd M.f 7 { M.f 7 with ct:=((M.f 7).ct + 1) % 256 } k).x.wait = _
   by_cases e:k = 7
   · subst e;rw [upd_same]
   · rw [upd_other _ _ e]
 · rw [if_neg hw]
   have hk:chosen M < 8:=bests_lt (topS_mem (bests_ne hw))
   have hwt:0 < (M.f (chosen M)).x.wait:=bests_wait (topS_mem (M:=filled M (bests M)) (bests_ne hw))
   have hx:∀ k,((tickM (fieldM (chooseM M) (chosen M)) (chosen M)).f k).x = (if k = chosen M then (M.f (chosen M)).x.next Tmf.idleL else (M.f k).x):=fun k=>(after_x M (chosen M) k).1
   refine .inr ⟨hw,hk,hwt,?_,fun k hk8 hne=>?_⟩
   · rw [hx,if_pos rfl]
     exact fs_next_wait (hI.ok.x _ hk) (hI.i _ hk) hwt
   · rw [hx,if_neg hne]
theorem next_waits8 (hI:OkI N M):waits8 (nextM M) ≤ waits8 M ∧ ∀ k,k < 8 → ((nextM M).f k).x.wait ≤ (M.f k).x.wait:=by
 rcases next_wait hI with ⟨-,h⟩ | ⟨-,hk,h0,h1,h2⟩
 · refine ⟨?_,fun k hk=>Nat.le_of_eq (h k hk)⟩
   have:=sumE_one (f:=fun j=>(M.f j).x.wait) (g:=fun j=>((nextM M).f j).x.wait) (k:=0) (by decide) fun j hj _=>h j hj
   have:=h 0 (by decide)
   unfold waits8
   omega
 · refine ⟨?_,fun k hk8=>?_⟩
   · have:=sumE_one (f:=fun j=>(M.f j).x.wait) (g:=fun j=>((nextM M).f j).x.wait) hk h2
     unfold waits8
     omega
   · by_cases e:k = chosen M
     · subst e;omega
     · exact Nat.le_of_eq (h2 k hk8 e)
theorem waitJ_mem {j:Nat} (n:Nat) (h:j < n) (h0:0 < (M.f j).x.wait):waitJ M n ≠ []:=List.ne_nil_of_mem (List.mem_filter.2 ⟨List.mem_range.2 h,decide_eq_true h0⟩)
theorem next_turns (hI:OkI N M) {j:Nat} (hj:j < 8) (hw:0 < (M.f j).x.wait):turns8 (nextM M) + 1 ≤ turns8 M:=by
 rcases next_wait hI with ⟨h,-⟩ | ⟨-,hk,h0,h1,h2⟩
 · exact absurd h (waitJ_mem 8 hj hw)
 · have:=sumE_one (f:=fun j=>((M.f j).x.wait + 25) / 26) (g:=fun j=>(((nextM M).f j).x.wait + 25) / 26) hk fun k hk8 hne=>by rw [h2 k hk8 hne]
   unfold turns8
   omega
/-! ### the frames that were sent -/
theorem next_says (h:Ln M D want got) (hI:OkI N M) {wd:Nat} (hwd:wd < 2 ^ 32):nextE M = 0 ∧ Says D want got (nextS M wd) (nextK M) (nextM M):=by
 have ho:=hI.ok
 unfold nextE nextS nextK nextM
 by_cases hw:waitJ M 8 = []
 · rw [if_pos hw,if_pos hw,if_pos hw,if_pos hw]
   refine ⟨?_,h.idle ho hwd⟩
   unfold Tmf.putTE
   rw [if_pos]
   unfold Tmf.vldT
   have h1:=ho.craft
   have h2:=ho.master
   have h3:=ho.ct 7 (by decide)
   have h4:=ho.lo
   have h5:=ho.hi
   have h6:=uuu_size M.size
   exact decide_eq_true (by omega)
 · rw [if_neg hw,if_neg hw,if_neg hw,if_neg hw]
   have hk:chosen M < 8:=bests_lt (topS_mem (bests_ne hw))
   exact ⟨(frame_ok ho hw hk hwd).1,h.next ho hw hwd⟩
/-- A demux that is fed these frames, one after the other, each also twice. -/
def Run:Dm → (Nat → List L8) → List L8 → List Nat → Dm → (Nat → List L8) → Prop
 | D,g,[],ch,D',g'=>ch = [] ∧ D' = D ∧ g' = g
 | D,g,s :: fr,ch,D',g'=>∃ (k:Nat) (ch':List Nat) (D1:Dm) (pk:List L8),ch = k :: ch' ∧ k < 8 ∧ feedE D (strB s) = 0 ∧ feedG D (strB s) = (D1,⟨k,false,0,0,pk,0,gWd (strB s)⟩) ∧ feedE D1 (strB s) = 0 ∧ feedG D1 (strB s) = (D1,{ arr0 with ch:=k,wd:=gWd (strB s),db:=true }) ∧ Run D1 (updL g k (g k ++ pk)) fr ch' D' g'
theorem Run.snoc {s:ByteArray} {k:Nat} {D2 D3:Dm} {g2:Nat → List L8} {pk:List L8} (hk:k < 8) (h1:feedE D2 s = 0) (h2:feedG D2 s = (D3,⟨k,false,0,0,pk,0,gWd s⟩)) (h3:feedE D3 s = 0) (h4:feedG D3 s = (D3,{ arr0 with ch:=k,wd:=gWd s,db:=true })) :
 ∀ {fr:List L8} {ch:List Nat} {D:Dm} {g:Nat → List L8},Run D g fr ch D2 g2 → Run D g (fr ++ [s.data.toList]) (ch ++ [k]) D3 (updL g2 k (g2 k ++ pk))
 | [],ch,D,g,h=>by
  obtain ⟨rfl,rfl,rfl⟩:=h
  exact ⟨k,[],D3,pk,rfl,hk,h1,h2,h3,h4,rfl,rfl,rfl⟩
 | s' :: fr,ch,D,g,h=>by
  obtain ⟨k',ch',D1,pk',rfl,e1,e2,e3,e4,e5,e6⟩:=h
  exact ⟨k',ch' ++ [k],D1,pk',rfl,e1,e2,e3,e4,e5,Run.snoc hk h1 h2 h3 h4 e6⟩
theorem Run.len:∀ {fr:List L8} {ch:List Nat} {D D':Dm} {g g':Nat → List L8},Run D g fr ch D' g' → ch.length = fr.length ∧ ∀ c,(g c).length ≤ (g' c).length
 | [],ch,D,D',g,g',h=>by
  obtain ⟨rfl,rfl,rfl⟩:=h
  exact ⟨rfl,fun _=>Nat.le_refl _⟩
 | s' :: fr,ch,D,D',g,g',h=>by
  obtain ⟨k',ch',D1,pk',rfl,e1,e2,e3,e4,e5,e6⟩:=h
  obtain ⟨i1,i2⟩:=Run.len e6
  refine ⟨by simp [i1],fun c=>Nat.le_trans ?_ (i2 c)⟩
  by_cases e:c = k'
  · subst e;rw [updL_same,List.length_append];omega
  · rw [updL_other _ _ e]
    exact Nat.le_refl _
/-- The packets of a channel. -/
def wantOf:List L8 → List Nat → Nat → List L8
 | p :: pk,k :: co,c=>if k = c then p :: wantOf pk co c else wantOf pk co c
 | _,_,_=>[]
theorem wantOf_snoc {p:L8} {k:Nat}:∀ {pk:List L8} {co:List Nat},co.length = pk.length → wantOf (pk ++ [p]) (co ++ [k]) = updL (wantOf pk co) k (wantOf pk co k ++ [p])
 | [],[],_=>by
  funext c
  show (if k = c then [p] else []) = updL (fun _=>[]) k ([] ++ [p]) c
  unfold updL
  by_cases e:k = c
  · rw [if_pos e,if_pos e.symm];rfl
  · rw [if_neg e,if_neg fun h=>e h.symm]
 | q :: pk,j :: co,h=>by
  have ih:=wantOf_snoc (p:=p) (k:=k) (pk:=pk) (co:=co) (by simpa using h)
  funext c
  show (if j = c then q :: wantOf (pk ++ [p]) (co ++ [k]) c else wantOf (pk ++ [p]) (co ++ [k]) c) = updL (wantOf (q :: pk) (j :: co)) k (wantOf (q :: pk) (j :: co) k ++ [p]) c
  rw [ih]
  unfold updL
  by_cases e:c = k
  · subst e
    rw [if_pos rfl,if_pos rfl]
    show _ = (if j = c then q :: wantOf pk co c else wantOf pk co c) ++ [p]
    split <;> rfl
  · rw [if_neg e,if_neg e]
    rfl
 | [],_ :: _,h=>by cases h
 | _ :: _,[],h=>by cases h
theorem wantOf_len:∀ (pk:List L8) (co:List Nat) (c:Nat),(wantOf pk co c).length ≤ pk.length
 | [],_,_=>by simp [wantOf]
 | _ :: _,[],_=>by simp [wantOf]
 | q :: pk,j :: co,c=>by
  have ih:=wantOf_len pk co c
  show (if j = c then q :: wantOf pk co c else wantOf pk co c).length ≤ _
  split
  · simp only [List.length_cons];omega
  · simp only [List.length_cons];omega
/-- What was sent. -/
structure Tx (D0:Dm) (M:MS) (fr:List L8) (ch:List Nat) (pk:List L8) (co:List Nat):Prop where
 ex:∃ (D:Dm) (got:Nat → List L8),Run D0 (fun _=>[]) fr ch D got ∧ Ln M D (wantOf pk co) got
 co:co.length = pk.length
variable {D0:Dm} {fr pk:List L8} {ch co:List Nat}
theorem Tx.add (h:Tx D0 M fr ch pk co) {k n i:Nat} (hk:k < 8) (h0:7 ≤ n) (h1:n ≤ 206) (he:Tmf.addE (M.f k).x (madeN n i) = 0):Tx D0 (addM M k (madeN n i)) fr ch (pk ++ [madeL n i]) (co ++ [k]):=by
 obtain ⟨⟨D,got,e1,e2⟩,e3⟩:=h
 refine ⟨⟨D,got,e1,?_⟩,by simp [e3]⟩
 rw [wantOf_snoc e3]
 exact e2.add hk h0 h1 he
theorem Tx.next (h:Tx D0 M fr ch pk co) (hI:OkI N M) {wd:Nat} (hwd:wd < 2 ^ 32):nextE M = 0 ∧ Tx D0 (nextM M) (fr ++ [(nextS M wd).data.toList]) (ch ++ [nextK M]) pk co:=by
 obtain ⟨⟨D,got,e1,e2⟩,e3⟩:=h
 obtain ⟨h0,D',pk',f1,f2,f3,f4,f5⟩:=next_says e2 hI hwd
 exact ⟨h0,⟨D',_,Run.snoc (nextK_lt M) f1 f2 f4 f5 e1,f3⟩,e3⟩
theorem Tx.len (h:Tx D0 M fr ch pk co):ch.length = fr.length:=by
 obtain ⟨⟨D,got,e1,e2⟩,e3⟩:=h
 exact e1.len.1
theorem Tx.all (h:Tx D0 M fr ch pk co) (hw:∀ k,k < 8 → (M.f k).x.wait = 0):∃ (D:Dm) (got:Nat → List L8),Run D0 (fun _=>[]) fr ch D got ∧ ∀ c,c < 8 → got c = wantOf pk co c:=by
 obtain ⟨⟨D,got,e1,e2⟩,e3⟩:=h
 exact ⟨D,got,e1,fun c hc=>(e2.ch c hc).all (hw c hc)⟩
theorem Tx.start {craft size:Nat} (h1:32 ≤ size) (h2:size ≤ 200) (hM:M.craft = craft) (hS:M.size = size) (hf:∀ k,k < 8 → (M.f k).x = fs0 size):Tx (dm0 craft size) M [] [] [] []:=by
 refine ⟨⟨dm0 craft size,fun _=>[],⟨rfl,rfl,rfl⟩,hM.symm,hS.symm,fun h=>(by cases h),fun k hk=>⟨⟨[],[],[],?_,?_,rfl⟩,fun h=>(by cases h)⟩⟩,rfl⟩
 · rw [hf k hk,hS];exact Str.zero h1 h2
 · exact ⟨fun _=>rfl,fun h=>absurd rfl h⟩
end Go.Am.Cha
