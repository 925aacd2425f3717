/-
  Channels: a demux fed, plainly. Own work.
-/
import Derived.Test.YtlgpalokjckdcaaChaV
namespace Go.Am.Cha
open Go Go.Am Go.Am.Lib Go.Lib Go.Proofs Go.RowKit
open Go.Am.Own
open Go.Am.Tmf (getTE gFr datT gWd by2N)
set_option maxRecDepth 100000

def fC (s:ByteArray):Nat:=by2N s 0 / 64
def fK (s:ByteArray):Nat:=by2N s 0 / 8 % 8
def fM (s:ByteArray):Nat:=byteAt s 2
def fN (s:ByteArray):Nat:=byteAt s 3
def fF (s:ByteArray):Nat:=by2N s 4
theorem gFr_k {s:ByteArray} (h:getTE s = 0):gFr s = .agg (frV ((fC s:Nat):Int) ((fK s:Nat):Int) ((fM s:Nat):Int) ((fN s:Nat):Int) (fF s) (datT s) (.int .u32 ((gWd s:Nat):Int))):=Tmf.gFr_o h
theorem get_ok {s:ByteArray} (h:getTE s = 0):s.size ≤ 212 ∧ fC s ≤ 255 ∧ fK s < 8 ∧ fM s ≤ 255 ∧ fN s ≤ 255 ∧ fF s ≤ 2047 ∧ 32 ≤ (datT s).size ∧ (datT s).size ≤ 200 ∧ gWd s < 2 ^ 32:=by
 unfold getTE at h
 split at h
 · exact absurd h (by decide)
 · split at h
   · exact absurd h (by decide)
   · split at h
     · exact absurd h (by decide)
     · rename_i h1 h2 h3
       have h4:Tmf.vldS s = true:=by simpa using h3
       unfold Tmf.vldS at h4
       rw [Bool.and_eq_true] at h4
       have h5:=h4.2
       unfold Tmf.vldT at h5
       have h6:=of_decide_eq_true h5
       have e1:=Tmf.by2N_lt s (s.size - 6)
       have e2:=Tmf.by2N_lt s (s.size - 4)
       unfold fC fK fM fN fF gWd
       omega
/-- What a demux says of a frame. -/
structure Arr where
 ch:Nat
 db:Bool
 lost:Nat
 missed:Nat
 pk:List L8
 br:Nat
 wd:Nat
def arr0:Arr:=⟨0,false,0,0,[],0,0⟩
def arrC (A:Arr) (v:Value):Array Value:=#[.int .i64 ((A.ch:Nat):Int),.bool A.db,.int .i64 ((A.lost:Nat):Int),.int .i64 ((A.missed:Nat):Int),v,.int .i64 ((A.br:Nat):Int),.int .u32 ((A.wd:Nat):Int)]
def behindN (now last:Nat):Nat:=(now + 511 - last) % 256
def stepM (s:Sk) (first:Nat) (data:ByteArray) (n:Nat) (L:List L8):Sk × Nat × List L8 :=
 if s.bg = true then
  if Pkt.takeE (s.pt ++ data.extract 0 (min first data.size)) = 0 ∧ Pkt.pL (s.pt ++ data.extract 0 (min first data.size)) = (s.pt ++ data.extract 0 (min first data.size)).size then
   ({ s with bg:=false,pt:=s.pt ++ data.extract 0 (min first data.size) },n,L ++ dlv (s.pt ++ data.extract 0 (min first data.size)) (s.pt ++ data.extract 0 (min first data.size)))
  else if Pkt.takeE (s.pt ++ data.extract 0 (min first data.size)) ≠ 4 ∨ first ≠ 2047 then ({ s with bg:=false,pt:=s.pt ++ data.extract 0 (min first data.size) },n + 1,L)
  else ({ s with pt:=s.pt ++ data.extract 0 (min first data.size) },n,L)
 else (s,n,L)
def tailM (a:Sk × Nat × List L8) (p:List ByteArray × ByteArray):Sk × Nat × List L8 :=
 (if p.2.size ≠ 0 ∧ Pkt.takeE p.2 = 4 then { a.1 with bg:=true,pt:=p.2 } else { a.1 with pt:=⟨#[]⟩ },endN a.2.1 p.2,a.2.2 ++ came p.1)
def takeM (s:Sk) (first:Nat) (data:ByteArray) (n:Nat) (L:List L8):Sk × Nat × List L8 :=
 if first = 2047 then stepM s first data n L else tailM (stepM s first data n L) (parses (data.extract (min first data.size) data.size))
/-- Behind the counts: a packet that was begun and of which a frame is lost is broken. -/
def cutM (x:Sk) (lost:Nat):Sk × Nat:=if lost ≠ 0 ∧ x.bg = true then ({ x with bg:=false,pt:=⟨#[]⟩ },1) else (x,0)
def Dm.put (D:Dm) (k:Nat) (s:Sk):Dm:={ D with sk:=fun j=>if j = k then s else D.sk j }
def lostN (D:Dm) (s:ByteArray):Nat:=if (D.sk (fK s)).kn = true then behindN (fN s) (D.sk (fK s)).ct else 0
def missN (D:Dm) (s:ByteArray):Nat:=if D.kn = true then behindN (fM s) D.ms else 0
def nowS (D:Dm) (s:ByteArray):Sk × Nat:=cutM ⟨true,s,fN s,(D.sk (fK s)).bg,(D.sk (fK s)).pt⟩ (lostN D s)
def fieldS (D:Dm) (s:ByteArray):Sk × Nat × List L8:=if fF s = 2046 then ((nowS D s).1,(nowS D s).2,[]) else takeM (nowS D s).1 (fF s) (datT s) (nowS D s).2 []
def dupS (D:Dm) (s:ByteArray):Prop:=(D.sk (fK s)).kn = true ∧ (D.sk (fK s)).fr = s
def feedE (D:Dm) (s:ByteArray):Int:=if getTE s ≠ 0 then getTE s else if fC s ≠ D.craft ∨ (datT s).size ≠ D.size then 2 else 0
open Classical in
/-- A demux that has been fed N frames. -/
def OkD (N:Nat) (D:Dm):Prop:=D.craft ≤ 255 ∧ 32 ≤ D.size ∧ D.size ≤ 200 ∧ D.ms ≤ 255 ∧ ∀ k,k < 8 → (D.sk k).ct ≤ 255 ∧ (D.sk k).pt.size ≤ 200 * N

theorem dmC_all (D:Dm) (i:Nat):(dmC D)[i]? = if i < 4 then [Value.int .i64 ((D.craft:Nat):Int),.int .i64 ((D.size:Nat):Int),.bool D.kn,.int .i64 ((D.ms:Nat):Int)][i]? else if i < 44 then (skC (D.sk ((i - 4) / 5)))[(i - 4) % 5]? else none:=by
 by_cases h1:i < 4
 · rw [if_pos h1,dmC_get]
   show ([Value.int .i64 ((D.craft:Nat):Int),.int .i64 ((D.size:Nat):Int),.bool D.kn,.int .i64 ((D.ms:Nat):Int)] ++ flK D.sk 8)[i]? = _
   rw [List.getElem?_append_left (by exact h1)]
 · rw [if_neg h1]
   by_cases h2:i < 44
   · rw [if_pos h2]
     have:=dmC_at D (k:=(i - 4) / 5) (q:=(i - 4) % 5) (by omega) (by omega)
     rw [← this]
     congr 1
     omega
   · rw [if_neg h2]
     exact Array.getElem?_eq_none (by rw [dmC_size];omega)
/-- A store into a sink. -/
theorem dmC_put (D:Dm) {k q:Nat} (hk:k < 8) (hq:q < 5) (s:Sk) (hs:∀ j,j < 5 → j ≠ q → (skC s)[j]? = (skC (D.sk k))[j]?) {v:Value} (hv:(skC s)[q]? = some v):(dmC D).setIfInBounds (4 + k * 5 + q) v = dmC (D.put k s):=by
 apply Array.ext_getElem?
 intro i
 rw [Array.getElem?_setIfInBounds,dmC_all,dmC_all,dmC_size]
 by_cases h1:4 + k * 5 + q = i
 · have h1a:¬ i < 4:=by omega
   have h1b:i < 44:=by omega
   have h1c:4 + k * 5 + q < 44:=by omega
   rw [if_pos h1,if_pos h1c,if_neg h1a,if_pos h1b,← hv]
   have e1:(i - 4) / 5 = k:=by omega
   have e2:(i - 4) % 5 = q:=by omega
   rw [e1,e2]
   show (skC s)[q]? = (skC (if k = k then s else D.sk k))[q]?
   rw [if_pos rfl]
 · rw [if_neg h1]
   by_cases h2:i < 4
   · rw [if_pos h2,if_pos h2];rfl
   · rw [if_neg h2,if_neg h2]
     by_cases h3:i < 44
     · rw [if_pos h3,if_pos h3]
       show _ = (skC (if (i - 4) / 5 = k then s else D.sk ((i - 4) / 5)))[(i - 4) % 5]?
       by_cases h4:(i - 4) / 5 = k
       · rw [if_pos h4,h4]
         exact (hs _ (by omega) (by omega)).symm
       · rw [if_neg h4]
     · rw [if_neg h3,if_neg h3]
theorem Dm.put_put (D:Dm) (k:Nat) (s t:Sk):(D.put k s).put k t = D.put k t:=by
 unfold Dm.put
 congr 1
 funext j
 by_cases h:j = k
 · simp only [if_pos h]
 · simp only [if_neg h]
theorem Dm.put_at (D:Dm) (k:Nat) (s:Sk):(D.put k s).sk k = s:=if_pos rfl
theorem dmC_kn (D:Dm) (b:Bool):(dmC D).setIfInBounds 2 (.bool b) = dmC { D with kn:=b }:=rfl
theorem dmC_ms (D:Dm) (m:Nat):(dmC D).setIfInBounds 3 (.int .i64 ((m:Nat):Int)) = dmC { D with ms:=m }:=rfl

/-- Feed's memory. -/
structure Fd (sb:Nat) (w0:World) (Bf Bo:Nat) (cs fr ar:Array Value) (w:World):Prop where
 sk:w.heap[sb]? = some (.cells cs 74 (0,0))
 z:w.heap[w0.heap.size]? = some (.cells (arrC arr0 (.slice none 0 0)) 33 (0,0))
 f:w.heap[Bf]? = some (.cells fr 85 (0,0))
 o:w.heap[Bo]? = some (.cells ar 33 (0,0))
 n1:sb < w0.heap.size
 n2:w0.heap.size < Bf
 n3:Bf < Bo
 fr:FrS (fun k=>k = sb ∨ w0.heap.size ≤ k) w0 w
variable {sb Bf Bo:Nat} {w0 w w':World} {cs fr ar:Array Value}
theorem Fd.lt (h:Fd sb w0 Bf Bo cs fr ar w):Bo < w.heap.size:=(Array.getElem?_eq_some_iff.1 h.o).1
theorem Fd.below (h:Fd sb w0 Bf Bo cs fr ar w) (hb:Below w.heap.size w w'):Fd sb w0 Bf Bo cs fr ar w':=by
 have l:∀ {k o},w.heap[k]? = some o → w'.heap[k]? = some o:=fun {k o} hk=>(hb.block k (Array.getElem?_eq_some_iff.1 hk).1).trans hk
 exact ⟨l h.sk,l h.z,l h.f,l h.o,h.n1,h.n2,h.n3,h.fr.trans (fr_of hb fun k hk=>.inr (by have:=h.lt;have:=h.n2;have:=h.n3;omega))⟩
theorem Fd.drew (h:Fd sb w0 Bf Bo cs fr ar w):Fd sb w0 Bf Bo cs fr ar w.drew:=h.below (Below.refl _ w).drew
theorem Fd.setS (h:Fd sb w0 Bf Bo cs fr ar w) (o:Nat) (x:Value):Fd sb w0 Bf Bo (cs.setIfInBounds o x) fr ar (w.setCell ⟨sb,o,none⟩ x):=by
 have ho:OnlyB sb w (w.setCell ⟨sb,o,none⟩ x):=(OnlyB.refl sb w).setCell o x
 have a1:=h.n1;have a2:=h.n2;have a3:=h.n3
 exact ⟨set_at h.sk,(ho.rest _ (by omega)).trans h.z,(ho.rest _ (by omega)).trans h.f,(ho.rest _ (by omega)).trans h.o,h.n1,h.n2,h.n3,h.fr.trans (ho.fr (.inl rfl))⟩
theorem Fd.setO (h:Fd sb w0 Bf Bo cs fr ar w) (o:Nat) (x:Value):Fd sb w0 Bf Bo cs fr (ar.setIfInBounds o x) (w.setCell ⟨Bo,o,none⟩ x):=by
 have ho:OnlyB Bo w (w.setCell ⟨Bo,o,none⟩ x):=(OnlyB.refl Bo w).setCell o x
 have a1:=h.n1;have a2:=h.n2;have a3:=h.n3
 exact ⟨(ho.rest _ (by omega)).trans h.sk,(ho.rest _ (by omega)).trans h.z,(ho.rest _ (by omega)).trans h.f,set_at h.o,h.n1,h.n2,h.n3,h.fr.trans (ho.fr (.inr (by omega)))⟩
theorem Fd.cells (h:Fd sb w0 Bf Bo cs fr ar w):(∀ o,w.cell? ⟨sb,o,none⟩ = cs[o]?) ∧ (∀ o,w.cell? ⟨Bf,o,none⟩ = fr[o]?) ∧ (∀ o,w.cell? ⟨Bo,o,none⟩ = ar[o]?) ∧ (∀ o,w.frozen? ⟨sb,o,none⟩ = false) ∧ (∀ o,w.frozen? ⟨Bo,o,none⟩ = false) ∧ (∀ o,w.frozen? ⟨w0.heap.size,o,none⟩ = false) :=
 ⟨fun _=>cell_of h.sk,fun _=>cell_of h.f,fun _=>cell_of h.o,fz_of h.sk,fz_of h.o,fz_of h.z⟩
end Go.Am.Cha

namespace Go.Am.Cha
open Go Go.Am Go.Am.Lib Go.Lib Go.Proofs Go.RowKit
open Go.Am.Own
open Go.Am.Tmf (getTE gFr datT gWd by2N)
set_option maxRecDepth 100000

theorem getF_calls (s:ByteArray) (hs:s.size ≤ 2 ^ 40) (w:World):Calls Try.prog 29 #[.string s] w fun e w'=>e = .returned (.tuple #[gFr s,.int .i64 (getTE s)]) ∧ Below w.heap.size w w' :=
 Tmf.flat_calls Tmf.okGetT w (args:=[.string s]) rfl (v:=.tuple ⟨[gFr s,.int .i64 (getTE s)]⟩) rfl ⟨by omega,rfl,rfl⟩
variable {sb:Nat} {w:World} {D:Dm}
theorem dm_cells (hk:w.heap[sb]? = some (.cells (dmC D) 74 (0,0))):w.cell? ⟨sb,0,none⟩ = some (.int .i64 ((D.craft:Nat):Int)) ∧ w.cell? ⟨sb,1,none⟩ = some (.int .i64 ((D.size:Nat):Int)) ∧ w.cell? ⟨sb,2,none⟩ = some (.bool D.kn) ∧ w.cell? ⟨sb,3,none⟩ = some (.int .i64 ((D.ms:Nat):Int)) :=
 ⟨cell_of hk,cell_of hk,cell_of hk,cell_of hk⟩
/-- What follows a feeding. -/
def Fed (sb:Nat) (w:World) (D':Dm) (A:Arr) (c:Int) (e:Ending) (w':World):Prop :=
 ∃ v,e = .returned (.tuple #[.agg (arrC A v),.int .i64 c]) ∧ w'.ownsRow w.heap.size 9 1 v A.pk.length (cellS A.pk) ∧ w'.heap[sb]? = some (.cells (dmC D') 74 (0,0)) ∧ FrS (fun k=>k = sb ∨ w.heap.size ≤ k) w w'
theorem getF_bad (s:ByteArray) (hs:s.size ≤ 2 ^ 40) (he:getTE s ≠ 0) (w:World):Calls Try.prog 29 #[.string s] w fun e w'=>e = .returned (.tuple #[.agg #[.int .i64 0,.int .i64 0,.int .i64 0,.int .i64 0,.int .i64 0,.string ⟨#[]⟩,.int .u32 0],.int .i64 (getTE s)]) ∧ Below w.heap.size w w':=by
 have:=getF_calls s hs w
 rw [Tmf.gFr_z he] at this
 exact this
theorem getF_ok (s:ByteArray) (hs:s.size ≤ 2 ^ 40) (he:getTE s = 0) (w:World):Calls Try.prog 29 #[.string s] w fun e w'=>e = .returned (.tuple #[.agg #[.int .i64 ((fC s:Nat):Int),.int .i64 ((fK s:Nat):Int),.int .i64 ((fM s:Nat):Int),.int .i64 ((fN s:Nat):Int),.int .i64 ((fF s:Nat):Int),.string (datT s),.int .u32 ((gWd s:Nat):Int)],.int .i64 0]) ∧ Below w.heap.size w w':=by
 have:=getF_calls s hs w
 rw [gFr_k he,he] at this
 exact this
abbrev zC:Array Value:=#[.int .i64 0,.bool false,.int .i64 0,.int .i64 0,.slice none 0 0,.int .i64 0,.int .u32 0]
structure Fz (sb:Nat) (w0:World) (D:Dm) (w:World):Prop where
 sk:w.heap[sb]? = some (.cells (dmC D) 74 (0,0))
 z:w.heap[w0.heap.size]? = some (.cells zC 33 (0,0))
 n1:sb < w0.heap.size
 fr:Below w0.heap.size w0 w
theorem Fz.below {w0 w':World} (h:Fz sb w0 D w) (hb:Below w.heap.size w w'):Fz sb w0 D w':=by
 have l:∀ {k o},w.heap[k]? = some o → w'.heap[k]? = some o:=fun {k o} hk=>(hb.block k (Array.getElem?_eq_some_iff.1 hk).1).trans hk
 exact ⟨l h.sk,l h.z,h.n1,h.fr.trans (hb.mono h.fr.size)⟩
theorem Fz.new (hk:w.heap[sb]? = some (.cells (dmC D) 74 (0,0))):Fz sb w D (w.alloc (.cells zC 33)):=by
 have b:=(Below.refl w.heap.size w).alloc (Nat.le_refl _) (.cells zC 33)
 have l:=(Array.getElem?_eq_some_iff.1 hk).1
 exact ⟨(b.block sb l).trans hk,heap_alloc_new w _,l,b⟩
theorem Fz.cells {w0:World} (h:Fz sb w0 D w):w.cell? ⟨w0.heap.size,0,none⟩ = some (.int .i64 0) ∧ w.cell? ⟨w0.heap.size,1,none⟩ = some (.bool false) ∧ w.cell? ⟨w0.heap.size,2,none⟩ = some (.int .i64 0) ∧ w.cell? ⟨w0.heap.size,3,none⟩ = some (.int .i64 0) ∧ w.cell? ⟨w0.heap.size,4,none⟩ = some (.slice none 0 0) ∧ w.cell? ⟨w0.heap.size,5,none⟩ = some (.int .i64 0) ∧ w.cell? ⟨w0.heap.size,6,none⟩ = some (.int .u32 0) ∧ ∀ o,w.frozen? ⟨w0.heap.size,o,none⟩ = false :=
 ⟨cell_of h.z,cell_of h.z,cell_of h.z,cell_of h.z,cell_of h.z,cell_of h.z,cell_of h.z,fz_of h.z⟩
abbrev wr7 (W:World) (b:Nat) (x0 x1 x2 x3 x4 x5 x6:Value):World:=(((((((W.setCell ⟨b,0,none⟩ x0).setCell ⟨b,1,none⟩ x1).setCell ⟨b,2,none⟩ x2).setCell ⟨b,3,none⟩ x3).setCell ⟨b,4,none⟩ x4).setCell ⟨b,5,none⟩ x5).setCell ⟨b,6,none⟩ x6)
/-- The result's cells are written anew. -/
theorem wr7_at {W:World} {b T:Nat} {y0 y1 y2 y3 y4 y5 y6:Value} (h:W.heap[b]? = some (.cells #[y0,y1,y2,y3,y4,y5,y6] T (0,0))) (x0 x1 x2 x3 x4 x5 x6:Value) :
 (wr7 W b x0 x1 x2 x3 x4 x5 x6).heap[b]? = some (.cells #[x0,x1,x2,x3,x4,x5,x6] T (0,0)) ∧ OnlyB b W (wr7 W b x0 x1 x2 x3 x4 x5 x6):=by
 have h0:(W.setCell ⟨b,0,none⟩ x0).heap[b]? = some (.cells #[x0,y1,y2,y3,y4,y5,y6] T (0,0)):=set_at h
 have h1:((W.setCell ⟨b,0,none⟩ x0).setCell ⟨b,1,none⟩ x1).heap[b]? = some (.cells #[x0,x1,y2,y3,y4,y5,y6] T (0,0)):=set_at h0
 have h2:(((W.setCell ⟨b,0,none⟩ x0).setCell ⟨b,1,none⟩ x1).setCell ⟨b,2,none⟩ x2).heap[b]? = some (.cells #[x0,x1,x2,y3,y4,y5,y6] T (0,0)):=set_at h1
 have h3:((((W.setCell ⟨b,0,none⟩ x0).setCell ⟨b,1,none⟩ x1).setCell ⟨b,2,none⟩ x2).setCell ⟨b,3,none⟩ x3).heap[b]? = some (.cells #[x0,x1,x2,x3,y4,y5,y6] T (0,0)):=set_at h2
 have h4:(((((W.setCell ⟨b,0,none⟩ x0).setCell ⟨b,1,none⟩ x1).setCell ⟨b,2,none⟩ x2).setCell ⟨b,3,none⟩ x3).setCell ⟨b,4,none⟩ x4).heap[b]? = some (.cells #[x0,x1,x2,x3,x4,y5,y6] T (0,0)):=set_at h3
 have h5:((((((W.setCell ⟨b,0,none⟩ x0).setCell ⟨b,1,none⟩ x1).setCell ⟨b,2,none⟩ x2).setCell ⟨b,3,none⟩ x3).setCell ⟨b,4,none⟩ x4).setCell ⟨b,5,none⟩ x5).heap[b]? = some (.cells #[x0,x1,x2,x3,x4,x5,y6] T (0,0)):=set_at h4
 have h6:(((((((W.setCell ⟨b,0,none⟩ x0).setCell ⟨b,1,none⟩ x1).setCell ⟨b,2,none⟩ x2).setCell ⟨b,3,none⟩ x3).setCell ⟨b,4,none⟩ x4).setCell ⟨b,5,none⟩ x5).setCell ⟨b,6,none⟩ x6).heap[b]? = some (.cells #[x0,x1,x2,x3,x4,x5,x6] T (0,0)):=set_at h5
 exact ⟨h6,(((((((OnlyB.refl b W).setCell 0 x0).setCell 1 x1).setCell 2 x2).setCell 3 x3).setCell 4 x4).setCell 5 x5).setCell 6 x6⟩
theorem arr_cells {W:World} {b:Nat} {A:Arr} {v:Value} (h:W.heap[b]? = some (.cells (arrC A v) 33 (0,0))):W.cell? ⟨b,0,none⟩ = some (.int .i64 ((A.ch:Nat):Int)) ∧ W.cell? ⟨b,1,none⟩ = some (.bool A.db) ∧ W.cell? ⟨b,2,none⟩ = some (.int .i64 ((A.lost:Nat):Int)) ∧ W.cell? ⟨b,3,none⟩ = some (.int .i64 ((A.missed:Nat):Int)) ∧ W.cell? ⟨b,4,none⟩ = some v ∧ W.cell? ⟨b,5,none⟩ = some (.int .i64 ((A.br:Nat):Int)) ∧ W.cell? ⟨b,6,none⟩ = some (.int .u32 ((A.wd:Nat):Int)) :=
 ⟨cell_of h,cell_of h,cell_of h,cell_of h,cell_of h,cell_of h,cell_of h⟩
/-- The end of Feed: the result's cells. -/
theorem feed_end {K:Ending → World → Prop} {W:World} {b:Nat} {A:Arr} {v:Value} {E:Int} {a:Act} (h:W.heap[b]? = some (.cells (arrC A v) 33 (0,0))) (h1:a.tmps[4]? = some (.pointer (some ⟨b,0,none⟩))) (h2:a.tmps[5]? = some (.int .i64 E)) (hd:a.defers = []) (hK:K (.returned (.tuple #[.agg (arrC A v),.int .i64 E])) W) :
 bodyPost Try.prog Try.f11 K .ret a W:=by
 obtain ⟨c0,c1,c2,c3,c4,c5,c6⟩:=arr_cells h
 refine bodyPost_ret (v:=.tuple #[.agg (arrC A v),.int .i64 E]) ?_ hd hK
 simp [results,Try.results11,go_sem,h1,h2,c0,c1,c2,c3,c4,c5,c6,arrC]
set_option maxHeartbeats 1600000 in
theorem dfeed_bad (hk:w.heap[sb]? = some (.cells (dmC D) 74 (0,0))) (ok:32 ≤ D.size ∧ D.size ≤ 200) (s:ByteArray) (hs:s.size ≤ 2 ^ 40) (he:getTE s ≠ 0) :
 Calls Try.prog 11 #[.pointer (some ⟨sb,0,none⟩),.string s] w (Fed sb w D arr0 (getTE s)):=by
 have h1:=Fz.new hk
 obtain ⟨W1,hW1⟩:∃ W1,w.alloc (.cells #[.int .i64 0,.bool false,.int .i64 0,.int .i64 0,.slice none 0 0,.int .i64 0,.int .u32 0] 33) = W1:=⟨_,rfl⟩
 rw [show w.alloc (.cells zC 33) = W1 from hW1] at h1
 have c1:=(dm_cells h1.sk).2.1
 have ht:=getF_bad s hs he W1
 have hn0:((D.size:Nat):Int) ≠ 0:=by omega
 obtain ⟨E,hE⟩:∃ E,getTE s = E:=⟨_,rfl⟩
 rw [hE] at ht he ⊢
 have hEb:(E != 0) = true:=by simpa using he
 unfold Fed
 go_enter Try.func11,Try.ntmps11
 go_wp2_with (go_at_call 29;refine ht.mono ?_;clear ht;rintro e W2 ⟨rfl,b2⟩;have h3:=(h1.below b2).below ((Below.refl _ W2).alloc (Nat.le_refl _) (.cells #[.int .i64 0,.int .i64 0,.int .i64 0,.int .i64 0,.int .i64 0,.string ⟨#[]⟩,.int .u32 0] 85));obtain ⟨z0,z1,z2,z3,z4,z5,z6,z7⟩:=h3.cells;have HZ:=Lib.hid h3;clear h1 h3 c1)
 obtain ⟨k7,o7⟩:=wr7_at HZ.out.z (.int .i64 0) (.bool false) (.int .i64 0) (.int .i64 0) (.slice none 0 0) (.int .i64 0) (.int .u32 0)
 have hn:=HZ.out.n1
 refine feed_end (A:=arr0) (v:=.slice none 0 0) k7 rfl rfl rfl ⟨_,rfl,World.ownsRow_nil _ _ _ _,(o7.rest sb (by omega)).trans HZ.out.sk,(fr_of HZ.out.fr fun k hk=>.inr hk).trans (o7.fr (.inr (Nat.le_refl _)))⟩
end Go.Am.Cha

namespace Go.Am.Cha
open Go Go.Am Go.Am.Lib Go.Lib Go.Proofs Go.RowKit
open Go.Am.Own
open Go.Am.Tmf (getTE gFr datT gWd by2N)
set_option maxRecDepth 100000

variable {sb:Nat} {w:World} {D:Dm}
/-- Feed's memory behind Get. -/
structure Fg (sb:Nat) (w0:World) (D:Dm) (Bf:Nat) (fr:Array Value) (w:World):Prop where
 z:Fz sb w0 D w
 f:w.heap[Bf]? = some (.cells fr 85 (0,0))
 n2:w0.heap.size < Bf
theorem Fg.new {w0 W2:World} (h:Fz sb w0 D W2) (fr:Array Value):Fg sb w0 D W2.heap.size fr (W2.alloc (.cells fr 85)) :=
 ⟨h.below ((Below.refl _ W2).alloc (Nat.le_refl _) _),heap_alloc_new W2 _,(Array.getElem?_eq_some_iff.1 h.z).1⟩
theorem Fg.below {w0 w':World} {Bf:Nat} {fr:Array Value} (h:Fg sb w0 D Bf fr w) (hb:Below w.heap.size w w'):Fg sb w0 D Bf fr w' :=
 ⟨h.z.below hb,(hb.block _ (Array.getElem?_eq_some_iff.1 h.f).1).trans h.f,h.n2⟩
theorem arg_end {w0 W3:World} {Bf:Nat} {fr:Array Value} (h:Fg sb w0 D Bf fr W3) {a:Act} (h1:a.tmps[4]? = some (.pointer (some ⟨w0.heap.size,0,none⟩))) (h2:a.tmps[5]? = some (.int .i64 2)) (hd:a.defers = []) :
 bodyPost Try.prog Try.f11 (fun e w'=>∃ v,e = .returned (.tuple #[.agg (arrC arr0 v),.int .i64 2]) ∧ w'.ownsRow w0.heap.size 9 1 v arr0.pk.length (cellS arr0.pk) ∧ w'.heap[sb]? = some (.cells (dmC D) 74 (0,0)) ∧ FrS (fun k=>k = sb ∨ w0.heap.size ≤ k) w0 w') .ret a (wr7 W3 w0.heap.size (.int .i64 0) (.bool false) (.int .i64 0) (.int .i64 0) (.slice none 0 0) (.int .i64 0) (.int .u32 0)).drew:=by
 have hz:=h.z
 obtain ⟨k7,o7⟩:=wr7_at hz.z (.int .i64 0) (.bool false) (.int .i64 0) (.int .i64 0) (.slice none 0 0) (.int .i64 0) (.int .u32 0)
 have hn:=hz.n1
 obtain ⟨W7,hW7⟩:∃ W7,wr7 W3 w0.heap.size (.int .i64 0) (.bool false) (.int .i64 0) (.int .i64 0) (.slice none 0 0) (.int .i64 0) (.int .u32 0) = W7:=⟨_,rfl⟩
 rw [hW7] at k7 o7 ⊢
 have k8:W7.drew.heap[w0.heap.size]? = some (.cells (arrC arr0 (.slice none 0 0)) 33 (0,0)):=k7
 exact feed_end (A:=arr0) (v:=.slice none 0 0) k8 h1 h2 hd ⟨_,rfl,World.ownsRow_nil _ _ _ _,(o7.drew.rest sb (by omega)).trans hz.sk,(fr_of hz.fr fun k hk=>.inr hk).trans (o7.drew.fr (.inr (Nat.le_refl _)))⟩
set_option maxHeartbeats 3200000 in
theorem dfeed_arg (hk:w.heap[sb]? = some (.cells (dmC D) 74 (0,0))) (ok:32 ≤ D.size ∧ D.size ≤ 200) (s:ByteArray) (hs:s.size ≤ 2 ^ 40) (he:getTE s = 0) (hx:fC s ≠ D.craft ∨ (datT s).size ≠ D.size) :
 Calls Try.prog 11 #[.pointer (some ⟨sb,0,none⟩),.string s] w (Fed sb w D arr0 2):=by
 have h1:=Fz.new hk
 obtain ⟨W1,hW1⟩:∃ W1,w.alloc (.cells #[.int .i64 0,.bool false,.int .i64 0,.int .i64 0,.slice none 0 0,.int .i64 0,.int .u32 0] 33) = W1:=⟨_,rfl⟩
 rw [show w.alloc (.cells zC 33) = W1 from hW1] at h1
 have c1:=(dm_cells h1.sk).2.1
 have ht:=getF_ok s hs he W1
 have hn0:((D.size:Nat):Int) ≠ 0:=by omega
 obtain ⟨xC,hxC⟩:∃ x,fC s = x:=⟨_,rfl⟩
 obtain ⟨xK,hxK⟩:∃ x,fK s = x:=⟨_,rfl⟩
 obtain ⟨xM,hxM⟩:∃ x,fM s = x:=⟨_,rfl⟩
 obtain ⟨xN,hxN⟩:∃ x,fN s = x:=⟨_,rfl⟩
 obtain ⟨xF,hxF⟩:∃ x,fF s = x:=⟨_,rfl⟩
 obtain ⟨xW,hxW⟩:∃ x,gWd s = x:=⟨_,rfl⟩
 obtain ⟨xD,hxD⟩:∃ x,datT s = x:=⟨_,rfl⟩
 rw [hxC,hxK,hxM,hxN,hxF,hxW,hxD] at ht
 rw [hxC,hxD] at hx
 clear hxC hxK hxM hxN hxF hxW hxD
 unfold Fed
 rcases (show xC ≠ D.craft ∨ (xC = D.craft ∧ xD.size ≠ D.size) from by omega) with hx1 | ⟨hx1,hx2⟩
 · have hb1:(((xC:Nat):Int) != ((D.craft:Nat):Int)) = true:=by simp;omega
   go_enter Try.func11,Try.ntmps11
   go_wp2_with (go_at_call 29;refine ht.mono ?_;clear ht;rintro e W2 ⟨rfl,b2⟩;have h3:=Fg.new (h1.below b2) #[.int .i64 ((xC:Nat):Int),.int .i64 ((xK:Nat):Int),.int .i64 ((xM:Nat):Int),.int .i64 ((xN:Nat):Int),.int .i64 ((xF:Nat):Int),.string xD,.int .u32 ((xW:Nat):Int)];obtain ⟨W3,hW3⟩:∃ W3,W2.alloc (.cells #[.int .i64 ((xC:Nat):Int),.int .i64 ((xK:Nat):Int),.int .i64 ((xM:Nat):Int),.int .i64 ((xN:Nat):Int),.int .i64 ((xF:Nat):Int),.string xD,.int .u32 ((xW:Nat):Int)] 85) = W3:=⟨_,rfl⟩;rw [hW3] at h3;obtain ⟨z0,z1,z2,z3,z4,z5,z6,z7⟩:=h3.z.cells;obtain ⟨d0,d1,d2,d3⟩:=dm_cells h3.z.sk;have f0:=cell_of (o:=0) h3.f;have f5:=cell_of (o:=5) h3.f;have HZ:=Lib.hid h3;clear h1 h3 c1)
   go_region
   go_wp2
   exact arg_end HZ.out rfl rfl rfl
 · have hb1:(((xC:Nat):Int) != ((D.craft:Nat):Int)) = false:=by simp;omega
   have hb2:(((xD.size:Nat):Int) != ((D.size:Nat):Int)) = true:=by simp;omega
   clear hx1
   go_enter Try.func11,Try.ntmps11
   go_wp2_with (go_at_call 29;refine ht.mono ?_;clear ht;rintro e W2 ⟨rfl,b2⟩;have h3:=Fg.new (h1.below b2) #[.int .i64 ((xC:Nat):Int),.int .i64 ((xK:Nat):Int),.int .i64 ((xM:Nat):Int),.int .i64 ((xN:Nat):Int),.int .i64 ((xF:Nat):Int),.string xD,.int .u32 ((xW:Nat):Int)];obtain ⟨W3,hW3⟩:∃ W3,W2.alloc (.cells #[.int .i64 ((xC:Nat):Int),.int .i64 ((xK:Nat):Int),.int .i64 ((xM:Nat):Int),.int .i64 ((xN:Nat):Int),.int .i64 ((xF:Nat):Int),.string xD,.int .u32 ((xW:Nat):Int)] 85) = W3:=⟨_,rfl⟩;rw [hW3] at h3;obtain ⟨z0,z1,z2,z3,z4,z5,z6,z7⟩:=h3.z.cells;obtain ⟨d0,d1,d2,d3⟩:=dm_cells h3.z.sk;have f0:=cell_of (o:=0) h3.f;have f5:=cell_of (o:=5) h3.f;have HZ:=Lib.hid h3;clear h1 h3 c1)
   go_region
   go_wp2
   exact arg_end HZ.out rfl rfl rfl
end Go.Am.Cha

namespace Go.Am.Cha
open Go Go.Am Go.Am.Lib Go.Lib Go.Proofs Go.RowKit
open Go.Am.Own
open Go.Am.Tmf (getTE gFr datT gWd by2N)
set_option maxRecDepth 100000

variable {sb:Nat} {w:World} {D:Dm}
theorem Fd.new {w0 W3:World} {Bf:Nat} {fr:Array Value} (h:Fg sb w0 D Bf fr W3) (ar:Array Value):Fd sb w0 Bf W3.heap.size (dmC D) fr ar (W3.alloc (.cells ar 33)):=by
 have g:=h.below ((Below.refl _ W3).alloc (Nat.le_refl _) (.cells ar 33))
 exact ⟨g.z.sk,g.z.z,g.f,heap_alloc_new W3 _,h.z.n1,h.n2,(Array.getElem?_eq_some_iff.1 h.f).1,fr_of g.z.fr fun k hk=>.inr hk⟩
theorem sk_cells {W:World} {k:Nat} (hk:k < 8) (h:W.heap[sb]? = some (.cells (dmC D) 74 (0,0))):W.cell? ⟨sb,4 + k * 5,none⟩ = some (.bool (D.sk k).kn) ∧ W.cell? ⟨sb,4 + k * 5 + 1,none⟩ = some (.string (D.sk k).fr) ∧ W.cell? ⟨sb,4 + k * 5 + 2,none⟩ = some (.int .i64 (((D.sk k).ct:Nat):Int)) ∧ W.cell? ⟨sb,4 + k * 5 + 3,none⟩ = some (.bool (D.sk k).bg) ∧ W.cell? ⟨sb,4 + k * 5 + 4,none⟩ = some (.string (D.sk k).pt) :=
 ⟨(cell_of h).trans (dmC_at D (q:=0) hk (by omega)),(cell_of h).trans (dmC_at D (q:=1) hk (by omega)),(cell_of h).trans (dmC_at D (q:=2) hk (by omega)),(cell_of h).trans (dmC_at D (q:=3) hk (by omega)),(cell_of h).trans (dmC_at D (q:=4) hk (by omega))⟩
theorem FrS_drew {S:Nat → Prop} {a b:World} (h:FrS S a b):FrS S a b.drew:=⟨h.os,h.tape,h.output,h.size,h.block⟩
/-- The arrival is what Feed says. -/
theorem out_end {w0 V:World} {Bf Bo:Nat} {fr:Array Value} {D':Dm} {A:Arr} {v:Value} {E:Int} (h:Fd sb w0 Bf Bo (dmC D') fr (arrC A v) V) (hr:V.ownsRow w0.heap.size 9 1 v A.pk.length (cellS A.pk)) {a:Act} (h1:a.tmps[4]? = some (.pointer (some ⟨w0.heap.size,0,none⟩))) (h2:a.tmps[5]? = some (.int .i64 E)) (hd:a.defers = []) :
 bodyPost Try.prog Try.f11 (fun e w'=>∃ v,e = .returned (.tuple #[.agg (arrC A v),.int .i64 E]) ∧ w'.ownsRow w0.heap.size 9 1 v A.pk.length (cellS A.pk) ∧ w'.heap[sb]? = some (.cells (dmC D') 74 (0,0)) ∧ FrS (fun k=>k = sb ∨ w0.heap.size ≤ k) w0 w') .ret a (wr7 V w0.heap.size (.int .i64 ((A.ch:Nat):Int)) (.bool A.db) (.int .i64 ((A.lost:Nat):Int)) (.int .i64 ((A.missed:Nat):Int)) v (.int .i64 ((A.br:Nat):Int)) (.int .u32 ((A.wd:Nat):Int))).drew.drew:=by
 obtain ⟨k7,o7⟩:=wr7_at h.z (.int .i64 ((A.ch:Nat):Int)) (.bool A.db) (.int .i64 ((A.lost:Nat):Int)) (.int .i64 ((A.missed:Nat):Int)) v (.int .i64 ((A.br:Nat):Int)) (.int .u32 ((A.wd:Nat):Int))
 have hn:=h.n1
 obtain ⟨W7,hW7⟩:∃ W7,wr7 V w0.heap.size (.int .i64 ((A.ch:Nat):Int)) (.bool A.db) (.int .i64 ((A.lost:Nat):Int)) (.int .i64 ((A.missed:Nat):Int)) v (.int .i64 ((A.br:Nat):Int)) (.int .u32 ((A.wd:Nat):Int)) = W7:=⟨_,rfl⟩
 rw [hW7] at k7 o7 ⊢
 have k8:W7.drew.drew.heap[w0.heap.size]? = some (.cells (arrC A v) 33 (0,0)):=k7
 have hz:=h.z
 exact feed_end (A:=A) (v:=v) k8 h1 h2 hd ⟨_,rfl,ownsRow_keep hr fun k e=>o7.rest k fun e'=>ownsRow_neb hr hz (by decide) (by rw [e,e']),(o7.rest sb (by omega)).trans h.sk,FrS_drew (FrS_drew (h.fr.trans (o7.fr (.inr (Nat.le_refl _)))))⟩
set_option maxHeartbeats 3200000 in
theorem dfeed_dup (hk:w.heap[sb]? = some (.cells (dmC D) 74 (0,0))) (ok:32 ≤ D.size ∧ D.size ≤ 200) (s:ByteArray) (hs:s.size ≤ 2 ^ 40) (he:getTE s = 0) (hx:fC s = D.craft ∧ (datT s).size = D.size) (hd:dupS D s) :
 Calls Try.prog 11 #[.pointer (some ⟨sb,0,none⟩),.string s] w (Fed sb w D { arr0 with ch:=fK s,wd:=gWd s,db:=true } 0):=by
 have h1:=Fz.new hk
 obtain ⟨W1,hW1⟩:∃ W1,w.alloc (.cells #[.int .i64 0,.bool false,.int .i64 0,.int .i64 0,.slice none 0 0,.int .i64 0,.int .u32 0] 33) = W1:=⟨_,rfl⟩
 rw [show w.alloc (.cells zC 33) = W1 from hW1] at h1
 have c1:=(dm_cells h1.sk).2.1
 have ht:=getF_ok s hs he W1
 have hn0:((D.size:Nat):Int) ≠ 0:=by omega
 have hkk:=(get_ok he).2.2.1
 unfold dupS at hd
 obtain ⟨xC,hxC⟩:∃ x,fC s = x:=⟨_,rfl⟩
 obtain ⟨xK,hxK⟩:∃ x,fK s = x:=⟨_,rfl⟩
 obtain ⟨xM,hxM⟩:∃ x,fM s = x:=⟨_,rfl⟩
 obtain ⟨xN,hxN⟩:∃ x,fN s = x:=⟨_,rfl⟩
 obtain ⟨xF,hxF⟩:∃ x,fF s = x:=⟨_,rfl⟩
 obtain ⟨xW,hxW⟩:∃ x,gWd s = x:=⟨_,rfl⟩
 obtain ⟨xD,hxD⟩:∃ x,datT s = x:=⟨_,rfl⟩
 rw [hxC,hxK,hxM,hxN,hxF,hxW,hxD] at ht
 rw [hxC,hxD] at hx
 rw [hxK] at hd hkk ⊢
 rw [hxW]
 clear hxC hxK hxM hxN hxF hxW hxD
 unfold Fed
 have hb1:(((xC:Nat):Int) != ((D.craft:Nat):Int)) = false:=by simp;omega
 have hb2:(((xD.size:Nat):Int) != ((D.size:Nat):Int)) = false:=by simp;omega
 clear hx
 go_enter Try.func11,Try.ntmps11
 go_wp2_with (go_at_call 29;refine ht.mono ?_;clear ht;rintro e W2 ⟨rfl,b2⟩;have h3:=Fg.new (h1.below b2) #[.int .i64 ((xC:Nat):Int),.int .i64 ((xK:Nat):Int),.int .i64 ((xM:Nat):Int),.int .i64 ((xN:Nat):Int),.int .i64 ((xF:Nat):Int),.string xD,.int .u32 ((xW:Nat):Int)];obtain ⟨W3,hW3⟩:∃ W3,W2.alloc (.cells #[.int .i64 ((xC:Nat):Int),.int .i64 ((xK:Nat):Int),.int .i64 ((xM:Nat):Int),.int .i64 ((xN:Nat):Int),.int .i64 ((xF:Nat):Int),.string xD,.int .u32 ((xW:Nat):Int)] 85) = W3:=⟨_,rfl⟩;rw [hW3] at h3;obtain ⟨d0,d1,d2,d3⟩:=dm_cells h3.z.sk;have f0:=cell_of (o:=0) h3.f;have f1:=cell_of (o:=1) h3.f;have f5:=cell_of (o:=5) h3.f;have f6:=cell_of (o:=6) h3.f;have HZ:=Lib.hid h3;clear h1 h3 c1)
 go_region
 have h4:=Fd.new HZ.out #[.int .i64 ((xK:Nat):Int),.bool false,.int .i64 0,.int .i64 0,.slice none 0 0,.int .i64 0,.int .u32 ((xW:Nat):Int)]
 obtain ⟨W4,hW4⟩:∃ W4,W3.alloc (.cells #[.int .i64 ((xK:Nat):Int),.bool false,.int .i64 0,.int .i64 0,.slice none 0 0,.int .i64 0,.int .u32 ((xW:Nat):Int)] 33) = W4:=⟨_,rfl⟩
 rw [hW4] at h4
 obtain ⟨e1,e2,e3,e4,e5,e6⟩:=h4.cells
 have g1:W4.cell? ⟨W2.heap.size,1,none⟩ = some (.int .i64 ((xK:Nat):Int)):=e2 1
 go_wp2
 go_region
 obtain ⟨q0,q1,-⟩:=sk_cells hkk h4.sk
 rw [hd.1] at q0
 rw [hd.2] at q1
 have p0:=e3 0
 have p1:=e3 1
 have p2:=e3 2
 have p3:=e3 3
 have p4:=e3 4
 have p5:=e3 5
 have p6:=e3 6
 obtain ⟨z0,z1,z2,z3,z4,z5,z6⟩:=arr_cells h4.z
 have hZ1:=h4.setO 1 (.bool true)
 have hne:w.heap.size ≠ W3.heap.size:=by have:=h4.n2;have:=h4.n3;omega
 have H5:=Lib.hid hZ1
 clear e1 e2 e3 hZ1
 go_wp2
 exact out_end (A:=⟨xK,true,0,0,[],0,xW⟩) (v:=.slice none 0 0) H5.out (World.ownsRow_nil _ _ _ _) (by rfl) (by rfl) (by rfl)
end Go.Am.Cha
