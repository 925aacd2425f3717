/-
  Channels: arrivals in memory. Own work.
-/
import Derived.Test.YtlgpalokjckdcaaChaGA
import Derived.Test.YtlgpalokjckdcaaTmfAD
namespace Go.Am.Cha
open Go Go.Am Go.Am.Lib Go.Lib Go.Proofs Go.RowKit
open Go.Am.Own
set_option maxRecDepth 100000

abbrev L8:=List UInt8
def strB (l:L8):ByteArray:=⟨⟨l⟩⟩
def cellS (L:List L8):List Value:=L.map fun l=>.string (strB l)
theorem cellS_len (L:List L8):(cellS L).length = L.length:=by unfold cellS;rw [List.length_map]
theorem cellS_snoc (l:List L8) (p:ByteArray):cellS l ++ [.string p] = cellS (l ++ [p.data.toList]):=by unfold cellS;rw [List.map_append];rfl
theorem infoS:∃ i0,Try.prog.info? 9 = some i0 ∧ i0.zero = some (.string ⟨#[]⟩) ∧ i0.size = 1 ∧ i0.bytes = 16:=by
 have h:(Try.prog.info? 9).map (fun i=>(i.zero,i.size,i.bytes)) = some (some (.string ⟨#[]⟩),1,16):=by kernel_rfl
 obtain ⟨i,h1,h2⟩:=Option.map_eq_some_iff.1 h
 simp only [Prod.mk.injEq] at h2
 exact ⟨i,h1,h2.1,h2.2.1,h2.2.2⟩
theorem clone_calls (s:ByteArray) (h:s.size ≤ 2 ^ 47) (w:World):Calls Try.prog 31 #[.string s] w fun e w'=>e = .returned (.string s) ∧ Below w.heap.size w w' :=
 Tmf.flat_calls Pkt.okClone w (args:=[.string s]) rfl (v:=.string s) rfl ⟨h,rfl,rfl⟩
theorem enter_of {P:Program} {f:FuncId} {fn:Func} (hf:P.funcs[f]? = some fn) (hname:(fn.name == "runtime.NumGoroutine") = false) (hb:fn.body.isSome = true) (args:Array Value) (w:World):(callFunc f args).run P w = .ok (.enter f args) w:=by
 have h1:fn.name ≠ "runtime.NumGoroutine":=by simpa using hname
 obtain ⟨c,hc⟩:=Option.isSome_iff_exists.1 hb
 simp [callFunc,hf,h1,hc]
theorem clone_enter (args:Array Value) (w:World):(callFunc 31 args).run Try.prog w = .ok (.enter 31 args) w:=enter_of Try.func31 (by kernel_rfl) (by kernel_rfl) args w
/-- A call of a named function, as one step of a region that draws. -/
theorem step_call1 {P:Program} {ops:Array Oper} {o:Oper} {a:Act} {w:World} {K:Act → World → Prop} {Q:Exit → Act → World → Prop} {E:Prop} (hgd:o.guard = none) (f:FuncId) (x:Operand) (t:TypeId)
 (ho:o.op = .call { callee:=.value (.func f),args:=#[x],argTypes:=#[t] }) (v:Value) (hx:a.eval x = v) (hent:∀ args w,(callFunc f args).run P w = .ok (.enter f args) w) (r:Value) {R:World → Prop} (c:Calls P f #[v] w fun e w'=>e = .returned r ∧ R w') (h:∀ w',R w' → K (a.put o.dst r) w') :
 if Region.wanted o (yielded ops a.tmps) = true then Oper.wp P o a w K Q else E:=by
 have hw:Region.wanted o (yielded ops a.tmps) = true:=by simp [Region.wanted,hgd]
 rw [if_pos hw]
 unfold Oper.wp
 have hrun:(execOp a.eval o).run P w = .ok (.enter f #[v]) w:=by
  rw [← hent #[v] w,← hx]
  simp [execOp,ho,resolve,go_sem]
 rw [hrun,Oper.upon_enter]
 refine c.mono ?_
 rintro e w' ⟨rfl,hR⟩
 exact h w' hR
/-- An arrival: v: the packets that came with it. -/
structure Ar (S:Nat → Prop) (ob:Nat) (a0 a1 a2 a3 v a5 a6:Value) (L:List L8) (w:World):Prop where
 hS:∀ k,w.heap.size ≤ k → S k
 cell:w.heap[ob]? = some (.cells #[a0,a1,a2,a3,v,a5,a6] 33 (0,0))
 So:S ob
 row:w.ownsRow 0 9 1 v L.length (cellS L)
 Sv:∀ k,v.ownBlock = some k → S k
variable {S:Nat → Prop} {ob:Nat} {a0 a1 a2 a3 v a5 a6:Value} {L:List L8} {w w':World}
theorem Ar.lt (h:Ar S ob a0 a1 a2 a3 v a5 a6 L w):ob < w.heap.size:=(Array.getElem?_eq_some_iff.1 h.cell).1
theorem Ar.below (h:Ar S ob a0 a1 a2 a3 v a5 a6 L w) (hb:Below w.heap.size w w'):Ar S ob a0 a1 a2 a3 v a5 a6 L w' :=
 ⟨fun k hk=>h.hS k (Nat.le_trans hb.size hk),(hb.block ob h.lt).trans h.cell,h.So,ownsRow_keep h.row fun k e=>hb.block k (h.row.lt k e).2,h.Sv⟩
theorem Ar.alloc (h:Ar S ob a0 a1 a2 a3 v a5 a6 L w) (o:Obj):Ar S ob a0 a1 a2 a3 v a5 a6 L (w.alloc o):=h.below ((Below.refl _ w).alloc (Nat.le_refl _) o)
theorem Ar.drew (h:Ar S ob a0 a1 a2 a3 v a5 a6 L w):Ar S ob a0 a1 a2 a3 v a5 a6 L w.drew:=h.below (Below.refl _ w).drew
theorem Ar.fr (h:Ar S ob a0 a1 a2 a3 v a5 a6 L w) (hb:Below w.heap.size w w'):FrS S w w':=fr_of hb h.hS
/-- Where the arrival's blocks are as they were. -/
theorem Ar.keep (h:Ar S ob a0 a1 a2 a3 v a5 a6 L w) (hs:w.heap.size ≤ w'.heap.size) (hk:∀ k,k < w.heap.size → (k = ob ∨ v.ownBlock = some k) → w'.heap[k]? = w.heap[k]?):Ar S ob a0 a1 a2 a3 v a5 a6 L w' :=
 ⟨fun k hk=>h.hS k (Nat.le_trans hs hk),(hk ob h.lt (.inl rfl)).trans h.cell,h.So,ownsRow_keep h.row fun k e=>hk k (h.row.lt k e).2 (.inr e),h.Sv⟩
/-- The packets are others. -/
theorem Ar.setV {v':Value} {L':List L8} {row:Option Nat} (h:Ar S ob a0 a1 a2 a3 v a5 a6 L w) (hr:w'.ownsRow 0 9 1 v' L'.length (cellS L')) (hg:w.grownBy w' row) (hrow:row ≠ some ob) (hv:∀ k,v'.ownBlock = some k → S k) :
 Ar S ob a0 a1 a2 a3 v' a5 a6 L' (w'.setCell ⟨ob,4,none⟩ v'):=by
 have hc:w'.heap[ob]? = some (.cells #[a0,a1,a2,a3,v,a5,a6] 33 (0,0)):=(hg.block ob h.lt fun e=>hrow e.symm).trans h.cell
 have ho:OnlyB ob w' (w'.setCell ⟨ob,4,none⟩ v'):=(OnlyB.refl ob w').setCell 4 v'
 exact ⟨fun k hk=>h.hS k (by rw [ho.size] at hk;exact Nat.le_trans hg.size hk),set_at (o:=4) (v:=v') hc,h.So,ownsRow_keep hr fun k e=>ho.rest k fun e'=>ownsRow_neb hr hc (by decide) (by rw [e,e']),hv⟩
theorem deliver_idle (c:Bool) (f n:Int) (d b:ByteArray) (w:World) :
 Calls Try.prog 58 #[.pointer (some ⟨ob,0,none⟩),.agg #[.bool c,.int .i64 2047,.int .i64 f,.int .i64 n,.string d],.string b] w fun e w'=>e = .returned (.tuple #[]) ∧ Below w.heap.size w w':=by
 have hb:=(Below.refl w.heap.size w).alloc (Nat.le_refl _) (.cells #[.bool c,.int .i64 2047,.int .i64 f,.int .i64 n,.string d] 110)
 go_enter Try.func58,Try.ntmps58
 go_wp2
 go_end0
 exact ⟨rfl,hb⟩
set_option maxHeartbeats 3200000 in
theorem deliver_yes (h:Ar S ob a0 a1 a2 a3 v a5 a6 L w) (hL:L.length ≤ 1000000) (c:Bool) {z:Int} (hz:(z != 2047) = true) (f n:Int) (d b:ByteArray) (hb:b.size ≤ 2 ^ 40) :
 Calls Try.prog 58 #[.pointer (some ⟨ob,0,none⟩),.agg #[.bool c,.int .i64 z,.int .i64 f,.int .i64 n,.string d],.string b] w fun e w'=>e = .returned (.tuple #[]) ∧ (∃ v',Ar S ob a0 a1 a2 a3 v' a5 a6 (L ++ [b.data.toList]) w') ∧ FrS S w w':=by
 obtain ⟨i0,hi,hz0,hz1,hz2⟩:=infoS
 obtain ⟨oo,oc,rfl⟩:=ownsRow_slice h.row
 obtain ⟨W1,hW1⟩:∃ W,w.alloc (.cells #[.bool c,.int .i64 z,.int .i64 f,.int .i64 n,.string d] 110) = W:=⟨_,rfl⟩
 have hb1:Below w.heap.size w W1:=by rw [← hW1];exact (Below.refl w.heap.size w).alloc (Nat.le_refl _) _
 have h1:=h.below hb1
 have k1:W1.heap[w.heap.size]? = some (.cells #[.bool c,.int .i64 z,.int .i64 f,.int .i64 n,.string d] 110 (0,0)):=by rw [← hW1];exact heap_alloc_new w _
 have x1:W1.cell? ⟨w.heap.size,1,none⟩ = some (.int .i64 z):=cell_of k1
 have x4:W1.cell? ⟨ob,4,none⟩ = some (.slice oo L.length oc):=cell_of h1.cell
 have hfr0:=h.fr hb1
 have hdr:=(Below.refl W1.heap.size W1).drew
 clear h k1
 go_enter Try.func58,Try.ntmps58
 go_wp2
 go_region_law (first
  | (refine step_call1 (by rfl) 31 _ _ (by rfl) (.string b) (by rfl) clone_enter (.string b) (clone_calls b (by omega) W1.drew) ?_;intro W2 b2;have h2:=h1.drew.below b2;have y4:W2.cell? ⟨ob,4,none⟩ = some (.slice oo L.length oc):=cell_of h2.cell;have h3:=h2.alloc (.cells #[.string b] 9);have y5:(W2.alloc (.cells #[.string b] 9)).cell? ⟨ob,4,none⟩ = some (.slice oo L.length oc):=cell_of h3.cell)
  | (refine step_append_lies _ (by rfl) _ _ _ (by rfl) 0 9 i0 (.string ⟨#[]⟩) 1 16 Try.underlying22 hi hz0 hz1 hz2 rfl (by decide) (.slice oo L.length oc) L.length (cellS L) (by rfl) h3.row ⟨W2.heap.size,0,none⟩ 1 1 [.string b] (by rfl) (by rfl) (cell_one W2 9 _) (by intro u hu;exact one_mem hu rfl) (by decide) (by unfold maxLen;omega) (by omega) (Nat.zero_le _) (W2.heap.size + 1) (by simp) ?_;intro g9 cap9 w9 hown9 hgrow9 hat9 hlt9;have h9c:w9.heap[ob]? = some (.cells #[a0,a1,a2,a3,.slice oo L.length oc,a5,a6] 33 (0,0)):=(hgrow9.block ob h3.lt (fun e=>ownsRow_neb h3.row h3.cell (by decide) e.symm)).trans h3.cell;have f9:=fz_of h9c 4;have g9c:w9.cell? ⟨ob,4,none⟩ = some (.slice oo L.length oc):=cell_of h9c))
 all_goals
  rw [cellS_snoc] at hown9
  have hr9:w9.ownsRow 0 9 1 (.slice (some ⟨g9,0,none⟩) (L.length + 1) cap9) (L ++ [b.data.toList]).length (cellS (L ++ [b.data.toList])):=by rw [List.length_append];exact hown9
  have hE:=h3.setV (v':=.slice (some ⟨g9,0,none⟩) (L.length + 1) cap9) (L':=L ++ [b.data.toList]) hr9 hgrow9 (ownsRow_neb h3.row h3.cell (by decide)) (fun k hk=>by
   have hk:g9 = k:=by injection hk
   subst hk
   rcases hat9 with e | e
   · exact h3.Sv _ e
   · exact h3.hS _ (by rw [alloc_size];omega))
  have hFr:FrS S w (w9.setCell ⟨ob,4,none⟩ (.slice (some ⟨g9,0,none⟩) (L.length + 1) cap9)) :=
   ((((hfr0.trans (h1.fr hdr)).trans (h1.drew.fr b2)).trans (h2.fr ((Below.refl _ W2).alloc (Nat.le_refl _) _))).grown hgrow9 h3.hS h3.Sv).trans (((OnlyB.refl ob w9).setCell 4 _).fr h3.So)
  have HE:=Lib.hid (And.intro hE hFr)
  clear hown9 hr9 hgrow9 hat9 hlt9 h9c f9 g9c hE hFr
  go_wp2
  go_end0
  exact ⟨rfl,⟨_,HE.out.1⟩,HE.out.2⟩
end Go.Am.Cha

namespace Go.Am.Cha
open Go Go.Am Go.Am.Lib Go.Lib Go.Proofs Go.RowKit
open Go.Am.Own
set_option maxRecDepth 100000

theorem Ar.set5 {S:Nat → Prop} {ob:Nat} {a0 a1 a2 a3 v a5 a6:Value} {L:List L8} {w:World} (h:Ar S ob a0 a1 a2 a3 v a5 a6 L w) (x:Value):Ar S ob a0 a1 a2 a3 v x a6 L (w.setCell ⟨ob,5,none⟩ x):=by
 have ho:OnlyB ob w (w.setCell ⟨ob,5,none⟩ x):=(OnlyB.refl ob w).setCell 5 x
 exact ⟨fun k hk=>h.hS k (by rw [ho.size] at hk;exact hk),set_at (o:=5) (v:=x) h.cell,h.So,ownsRow_keep h.row fun k e=>ho.rest k fun e'=>ownsRow_neb h.row h.cell (by decide) (by rw [e,e']),h.Sv⟩
/-- take's memory: the sink lies at so in block sb (its cells: cs); ob: the arrival; B1, B2: the variables that hold them; Z: blocks that no packet's delivery changes. -/
structure Tk (S:Nat → Prop) (w0:World) (Z:Nat → Prop) (sb so ob B1 B2:Nat) (cs:Array Value) (a0 a1 a2 a3 v a5 a6:Value) (L:List L8) (w:World):Prop where
 ar:∃ S',Ar S' ob a0 a1 a2 a3 v a5 a6 L w ∧ (∀ k,S' k → S k) ∧ ∀ k,Z k → ¬ S' k
 zl:∀ k,Z k → k < w.heap.size
 z1:Z sb ∧ Z B1 ∧ Z B2
 sk:w.heap[sb]? = some (.cells cs 74 (0,0))
 Ssb:S sb
 b1:w.heap[B1]? = some (.cells #[.pointer (some ⟨sb,so,none⟩)] 88 (0,0))
 b2:w.heap[B2]? = some (.cells #[.pointer (some ⟨ob,0,none⟩)] 91 (0,0))
 fr:FrS S w0 w
 hS:∀ k,w0.heap.size ≤ k → S k
def KeptZ (Z:Nat → Prop) (w w':World):Prop:=∀ k,Z k → w'.heap[k]? = w.heap[k]?
theorem KeptZ.trans {Z:Nat → Prop} {a b c:World} (h:KeptZ Z a b) (k:KeptZ Z b c):KeptZ Z a c:=fun i hi=>(k i hi).trans (h i hi)
variable {S:Nat → Prop} {w0 w w':World} {Z:Nat → Prop} {sb so ob B1 B2:Nat} {cs:Array Value} {a0 a1 a2 a3 v a5 a6:Value} {L:List L8}
theorem Tk.up (h:Tk S w0 Z sb so ob B1 B2 cs a0 a1 a2 a3 v a5 a6 L w):∀ k,w.heap.size ≤ k → S k:=fun k hk=>h.hS k (Nat.le_trans h.fr.size hk)
theorem Tk.kz (h:Tk S w0 Z sb so ob B1 B2 cs a0 a1 a2 a3 v a5 a6 L w) (hb:Below w.heap.size w w'):KeptZ Z w w':=fun k hk=>hb.block k (h.zl k hk)
theorem Tk.below (h:Tk S w0 Z sb so ob B1 B2 cs a0 a1 a2 a3 v a5 a6 L w) (hb:Below w.heap.size w w'):Tk S w0 Z sb so ob B1 B2 cs a0 a1 a2 a3 v a5 a6 L w':=by
 obtain ⟨S',h1,h2⟩:=h.ar
 have l:∀ {k o},w.heap[k]? = some o → w'.heap[k]? = some o:=fun {k o} hk=>(hb.block k (Array.getElem?_eq_some_iff.1 hk).1).trans hk
 exact ⟨⟨S',h1.below hb,h2⟩,fun k hk=>Nat.lt_of_lt_of_le (h.zl k hk) hb.size,h.z1,l h.sk,h.Ssb,l h.b1,l h.b2,h.fr.trans (fr_of hb h.up),h.hS⟩
theorem Tk.drew (h:Tk S w0 Z sb so ob B1 B2 cs a0 a1 a2 a3 v a5 a6 L w):Tk S w0 Z sb so ob B1 B2 cs a0 a1 a2 a3 v a5 a6 L w.drew:=h.below (Below.refl _ w).drew
theorem Tk.call {f:FuncId} {args:Array Value} {E:Ending → Prop} {L':List L8} (h:Tk S w0 Z sb so ob B1 B2 cs a0 a1 a2 a3 v a5 a6 L w) (c:∀ S',Ar S' ob a0 a1 a2 a3 v a5 a6 L w → Calls Try.prog f args w fun e w'=>E e ∧ (∃ v',Ar S' ob a0 a1 a2 a3 v' a5 a6 L' w') ∧ FrS S' w w') :
 Calls Try.prog f args w fun e w'=>E e ∧ (∃ v',Tk S w0 Z sb so ob B1 B2 cs a0 a1 a2 a3 v' a5 a6 L' w') ∧ KeptZ Z w w':=by
 obtain ⟨S',h1,h2,h3⟩:=h.ar
 exact (c S' h1).mono fun e w' ⟨he,⟨v',g1⟩,g2⟩=>⟨he,⟨v',⟨S',g1,h2,h3⟩,fun k hk=>Nat.lt_of_lt_of_le (h.zl k hk) g2.size,h.z1,(g2.block sb (h3 _ h.z1.1)).trans h.sk,h.Ssb,(g2.block B1 (h3 _ h.z1.2.1)).trans h.b1,(g2.block B2 (h3 _ h.z1.2.2)).trans h.b2,h.fr.trans (g2.mono h2),h.hS⟩,fun k hk=>g2.block k (h3 k hk)⟩
/-- A new block that no delivery changes. -/
theorem Tk.fresh (h:Tk S w0 Z sb so ob B1 B2 cs a0 a1 a2 a3 v a5 a6 L w) (o:Obj):Tk S w0 (fun k=>Z k ∨ k = w.heap.size) sb so ob B1 B2 cs a0 a1 a2 a3 v a5 a6 L (w.alloc o):=by
 have g:=h.below ((Below.refl _ w).alloc (Nat.le_refl _) o)
 obtain ⟨S',h1,h2,h3⟩:=h.ar
 have g1:=h1.alloc o
 refine ⟨⟨fun k=>S' k ∧ k ≠ w.heap.size,⟨fun k hk=>⟨g1.hS k hk,?_⟩,g1.cell,⟨g1.So,Nat.ne_of_lt h1.lt⟩,g1.row,fun k hk=>⟨g1.Sv k hk,Nat.ne_of_lt (h1.row.lt k hk).2⟩⟩,fun k hk=>h2 k hk.1,fun k hk hs=>?_⟩,fun k hk=>?_,⟨.inl h.z1.1,.inl h.z1.2.1,.inl h.z1.2.2⟩,g.sk,g.Ssb,g.b1,g.b2,g.fr,g.hS⟩
 · rw [alloc_size] at hk;omega
 · rcases hk with hk | hk
   · exact h3 k hk hs.1
   · exact hs.2 hk
 · rw [alloc_size]
   rcases hk with hk | hk
   · have:=h.zl k hk;omega
   · omega
/-- A block of Z that is none of take's is written. -/
theorem Tk.only {k:Nat} (h:Tk S w0 Z sb so ob B1 B2 cs a0 a1 a2 a3 v a5 a6 L w) (hz:Z k) (h1:k ≠ sb) (h2:k ≠ B1) (h3:k ≠ B2) (hw:w0.heap.size ≤ k) (ho:OnlyB k w w'):Tk S w0 Z sb so ob B1 B2 cs a0 a1 a2 a3 v a5 a6 L w':=by
 obtain ⟨S',g1,g2,g3⟩:=h.ar
 have ne:∀ j,S' j → j ≠ k:=fun j hj e=>g3 k hz (by rw [← e];exact hj)
 refine ⟨⟨S',g1.keep (Nat.le_of_eq ho.size.symm) fun j hj e=>ho.rest j ?_,g2,g3⟩,fun j hj=>by rw [ho.size];exact h.zl j hj,h.z1,(ho.rest _ (Ne.symm h1)).trans h.sk,h.Ssb,(ho.rest _ (Ne.symm h2)).trans h.b1,(ho.rest _ (Ne.symm h3)).trans h.b2,h.fr.trans (ho.fr (h.hS k hw)),h.hS⟩
 rcases e with e | e
 · exact ne j (by rw [e];exact g1.So)
 · exact ne j (g1.Sv _ e)
theorem tne {w:World} {k k':Nat} {c c':Array Value} {t t':TypeId} (h1:w.heap[k]? = some (.cells c t (0,0))) (h2:w.heap[k']? = some (.cells c' t' (0,0))) (h3:t ≠ t'):k ≠ k':=fun e=>by
 rw [e,h2] at h1
 injection h1 with h1
 injection h1 with _ h1 _
 exact h3 h1.symm
/-- A store into the sink. -/
theorem Tk.setS (h:Tk S w0 Z sb so ob B1 B2 cs a0 a1 a2 a3 v a5 a6 L w) (o:Nat) (x:Value):Tk S w0 Z sb so ob B1 B2 (cs.setIfInBounds o x) a0 a1 a2 a3 v a5 a6 L (w.setCell ⟨sb,o,none⟩ x) ∧ OnlyB sb w (w.setCell ⟨sb,o,none⟩ x):=by
 obtain ⟨S',h1,h2,h3⟩:=h.ar
 have ho:OnlyB sb w (w.setCell ⟨sb,o,none⟩ x):=(OnlyB.refl sb w).setCell o x
 refine ⟨⟨⟨S',h1.keep (Nat.le_of_eq ho.size.symm) fun k hk e=>ho.rest k fun e'=>?_,h2,h3⟩,fun k hk=>by rw [ho.size];exact h.zl k hk,h.z1,set_at h.sk,h.Ssb,(ho.rest B1 (tne h.b1 h.sk (by decide))).trans h.b1,(ho.rest B2 (tne h.b2 h.sk (by decide))).trans h.b2,h.fr.trans (ho.fr h.Ssb),h.hS⟩,ho⟩
 subst e'
 rcases e with e | e
 · exact h3 _ h.z1.1 (by rw [e];exact h1.So)
 · exact h3 _ h.z1.1 (h1.Sv _ e)
/-- One packet more is broken. -/
theorem Tk.set5 (h:Tk S w0 Z sb so ob B1 B2 cs a0 a1 a2 a3 v a5 a6 L w) (x:Value):Tk S w0 Z sb so ob B1 B2 cs a0 a1 a2 a3 v x a6 L (w.setCell ⟨ob,5,none⟩ x) ∧ KeptZ Z w (w.setCell ⟨ob,5,none⟩ x):=by
 obtain ⟨S',h1,h2,h3⟩:=h.ar
 have ho:OnlyB ob w (w.setCell ⟨ob,5,none⟩ x):=(OnlyB.refl ob w).setCell 5 x
 have ne:∀ k,Z k → k ≠ ob:=fun k hk e=>h3 k hk (by rw [e];exact h1.So)
 exact ⟨⟨⟨S',h1.set5 x,h2,h3⟩,fun k hk=>by rw [ho.size];exact h.zl k hk,h.z1,(ho.rest sb (ne _ h.z1.1)).trans h.sk,h.Ssb,(ho.rest B1 (ne _ h.z1.2.1)).trans h.b1,(ho.rest B2 (ne _ h.z1.2.2)).trans h.b2,h.fr.trans (ho.fr (h2 _ h1.So)),h.hS⟩,fun k hk=>ho.rest k (ne k hk)⟩
theorem Tk.cells (h:Tk S w0 Z sb so ob B1 B2 cs a0 a1 a2 a3 v a5 a6 L w):w.cell? ⟨B1,0,none⟩ = some (.pointer (some ⟨sb,so,none⟩)) ∧ w.cell? ⟨B2,0,none⟩ = some (.pointer (some ⟨ob,0,none⟩)) ∧ w.cell? ⟨ob,5,none⟩ = some a5 ∧ (∀ o,w.frozen? ⟨ob,o,none⟩ = false) ∧ (∀ o,w.frozen? ⟨sb,o,none⟩ = false) ∧ (∀ o,w.cell? ⟨sb,o,none⟩ = cs[o]?) ∧ sb ≠ ob ∧ sb ≠ B1 ∧ sb ≠ B2 ∧ ob ≠ B1 ∧ ob ≠ B2:=by
 obtain ⟨S',h1,h2,h3⟩:=h.ar
 have ne:∀ k,Z k → k ≠ ob:=fun k hk e=>h3 k hk (by rw [e];exact h1.So)
 exact ⟨cell_of h.b1,cell_of h.b2,cell_of h1.cell,fz_of h1.cell,fz_of h.sk,fun o=>cell_of h.sk,ne _ h.z1.1,(tne h.b1 h.sk (by decide)).symm,(tne h.b2 h.sk (by decide)).symm,(ne _ h.z1.2.1).symm,(ne _ h.z1.2.2).symm⟩
set_option maxHeartbeats 3200000 in
/-- keep: what is left may become a packet. -/
theorem keep_none (h:Tk S w0 Z sb so ob B1 B2 cs a0 a1 a2 a3 v a5 a6 L w) (hso:so + 4 < cs.size) (r:ByteArray) (hr:r.size ≤ 2 ^ 40) :
 Calls Try.prog 59 #[.string r,.int .i64 4,.pointer (some ⟨B1,0,none⟩),.pointer (some ⟨B2,0,none⟩)] w fun e w'=>e = .returned (.tuple #[]) ∧ Tk S w0 Z sb so ob B1 B2 ((cs.setIfInBounds (so + 3) (.bool true)).setIfInBounds (so + 4) (.string r)) a0 a1 a2 a3 v a5 a6 L w' ∧ ∀ k,Z k → k ≠ sb → w'.heap[k]? = w.heap[k]?:=by
 obtain ⟨x1,x2,x3,z1,z2,y,n1,n2,n3,n4,n5⟩:=h.cells
 have c3:∀ w',Below w.heap.size w w' → w'.cell? ⟨B1,0,none⟩ = some (.pointer (some ⟨sb,so,none⟩)):=fun w' hb=>(h.below hb).cells.1
 obtain ⟨u3,hu3⟩:∃ u,cs[so + 3]? = some u:=⟨_,Array.getElem?_eq_getElem (by omega)⟩
 obtain ⟨u4,hu4⟩:∃ u,cs[so + 4]? = some u:=⟨_,Array.getElem?_eq_getElem hso⟩
 have hdz:=h.kz (Below.refl _ w).drew
 have HT:=Lib.hid h
 clear h y z1 z2 x3
 go_enter Try.func59,Try.ntmps59
 go_wp2
 go_region_with (go_at_call 31;refine (clone_calls r (by omega) w.drew).mono ?_;rintro e W2 ⟨rfl,b2⟩;have h2:=HT.out.drew.below b2;have k2:=hdz.trans (HT.out.drew.kz b2);obtain ⟨p1,p2,p3,q1,q2,y,m1,m2,m3,m4,m5⟩:=h2.cells;have y3:W2.cell? ⟨sb,so + 3,none⟩ = some u3:=(y _).trans hu3;have y4:W2.cell? ⟨sb,so + 4,none⟩ = some u4:=(y _).trans hu4)
 all_goals
  have hE3:=h2.setS (so + 3) (.bool true)
  have hE4:=hE3.1.setS (so + 4) (.string r)
  have hE:=Lib.hid (And.intro hE4.1 (show ∀ k,Z k → k ≠ sb → _ from fun k hk hn=>(hE4.2.rest k hn).trans ((hE3.2.rest k hn).trans (k2 k hk))))
  clear h2 y y3 y4 hE3 hE4 k2
  go_wp2
  go_end0
  exact ⟨rfl,hE.out⟩
set_option maxHeartbeats 1600000 in
/-- keep: what is left is no packet. -/
theorem keep_bad {n:Nat} (h:Tk S w0 Z sb so ob B1 B2 cs a0 a1 a2 a3 v (.int .i64 ((n:Nat):Int)) a6 L w) (hn:n ≤ 1000000) (r:ByteArray) {er:Int} (he:(er == 4) = false) :
 Calls Try.prog 59 #[.string r,.int .i64 er,.pointer (some ⟨B1,0,none⟩),.pointer (some ⟨B2,0,none⟩)] w fun e w'=>e = .returned (.tuple #[]) ∧ Tk S w0 Z sb so ob B1 B2 cs a0 a1 a2 a3 v (.int .i64 ((n + 1:Nat):Int)) a6 L w' ∧ KeptZ Z w w':=by
 obtain ⟨x1,x2,x3,z1,z2,y,n1,n2,n3,n4,n5⟩:=h.cells
 have hE:=Lib.hid (h.set5 (.int .i64 ((n + 1:Nat):Int)))
 have e1:(((n + 1:Nat):Nat):Int) = ((n:Nat):Int) + 1:=by push_cast;rfl
 rw [e1] at hE
 clear h y z2
 go_enter Try.func59,Try.ntmps59
 go_wp2
 go_end0
 rw [e1]
 exact ⟨rfl,hE.out⟩
end Go.Am.Cha
