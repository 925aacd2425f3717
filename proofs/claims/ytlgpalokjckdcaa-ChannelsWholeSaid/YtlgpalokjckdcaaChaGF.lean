/-
  Channels: a demux in memory. Own work.
-/
import Derived.Test.YtlgpalokjckdcaaChaGD
import Derived.Test.YtlgpalokjckdcaaChaGE
import Derived.RangeFuncNested
import Derived.RangeFuncBound
import Derived.RangeFuncCalls
import Derived.RangeFuncLeaves
import Derived.RangeFuncBox
namespace Go.Am.Cha
open Go Go.Am Go.Am.Lib Go.Lib Go.Proofs Go.RowKit
open Go.Am.Own
set_option maxRecDepth 100000

/-- A channel of a demux: the last frame and its count, if there was one; a packet that has begun. -/
structure Sk where
 kn:Bool
 fr:ByteArray
 ct:Nat
 bg:Bool
 pt:ByteArray
structure Dm where
 craft:Nat
 size:Nat
 kn:Bool
 ms:Nat
 sk:Nat → Sk
def skC (s:Sk):List Value:=[.bool s.kn,.string s.fr,.int .i64 ((s.ct:Nat):Int),.bool s.bg,.string s.pt]
def flK (f:Nat → Sk):Nat → List Value
 | 0=>[]
 | n + 1=>flK f n ++ skC (f n)
def dmL (D:Dm):List Value:=[.int .i64 ((D.craft:Nat):Int),.int .i64 ((D.size:Nat):Int),.bool D.kn,.int .i64 ((D.ms:Nat):Int)] ++ flK D.sk 8
def dmC (D:Dm):Array Value:=(dmL D).toArray
theorem dmC_get (D:Dm) (i:Nat):(dmC D)[i]? = (dmL D)[i]?:=List.getElem?_toArray ..
def sk0:Sk:=⟨false,⟨#[]⟩,0,false,⟨#[]⟩⟩
def dm0 (craft size:Nat):Dm:=⟨craft,size,false,0,fun _=>sk0⟩
theorem flK_len (f:Nat → Sk):∀ n,(flK f n).length = n * 5
 | 0=>rfl
 | n + 1=>by
  show (flK f n ++ skC (f n)).length = _
  rw [List.length_append,flK_len f n]
  show n * 5 + 5 = _
  omega
theorem flK_get (f:Nat → Sk) {k q:Nat} (hq:q < 5):∀ {n},k < n → (flK f n)[k * 5 + q]? = (skC (f k))[q]?
 | 0,h=>absurd h (Nat.not_lt_zero _)
 | n + 1,h=>by
  have hl:=flK_len f n
  show (flK f n ++ skC (f n))[k * 5 + q]? = _
  rcases Nat.lt_or_ge k n with h1 | h1
  · rw [List.getElem?_append_left (by omega),flK_get f hq h1]
  · have e:k = n:=by omega
    subst e
    rw [List.getElem?_append_right (by omega),hl]
    congr 1
    omega
theorem dmC_size (D:Dm):(dmC D).size = 44:=by
 show ([Value.int .i64 ((D.craft:Nat):Int),.int .i64 ((D.size:Nat):Int),.bool D.kn,.int .i64 ((D.ms:Nat):Int)] ++ flK D.sk 8).length = 44
 rw [List.length_append,flK_len];rfl
theorem dmC_at (D:Dm) {k q:Nat} (hk:k < 8) (hq:q < 5):(dmC D)[4 + k * 5 + q]? = (skC (D.sk k))[q]?:=by
 rw [dmC_get]
 show ([Value.int .i64 ((D.craft:Nat):Int),.int .i64 ((D.size:Nat):Int),.bool D.kn,.int .i64 ((D.ms:Nat):Int)] ++ flK D.sk 8)[4 + k * 5 + q]? = _
 rw [List.getElem?_append_right (by show 4 ≤ _;omega),← flK_get D.sk hq hk]
 congr 1
 show 4 + k * 5 + q - 4 = _
 omega
theorem newdemux_ok {craft size:Nat} (h0:craft ≤ 255) (h1:32 ≤ size) (h2:size ≤ 200) (w:World) :
 Calls Try.prog 9 #[.int .i64 ((craft:Nat):Int),.int .i64 ((size:Nat):Int)] w fun e w'=>e = .returned (.tuple #[.pointer (some ⟨w.heap.size,0,none⟩),.int .i64 0]) ∧ w'.heap[w.heap.size]? = some (.cells (dmC (dm0 craft size)) 74 (0,0)) ∧ Below w.heap.size w w':=by
 have a0:¬ ((craft:Nat):Int) < 0:=by omega
 have a1:¬ (255:Int) < ((craft:Nat):Int):=by omega
 have a2:¬ ((size:Nat):Int) < 32:=by omega
 have a3:¬ (200:Int) < ((size:Nat):Int):=by omega
 go_enter Try.func9,Try.ntmps9
 go_wp2
 go_ret2
 exact ⟨rfl,heap_alloc_new w _,(Below.refl _ w).alloc (Nat.le_refl _) _⟩
/-- NewMux of whatever is given. -/
theorem newmux_at (crf sz:Int) (P Q:Nat → Int) (w:World) :
 Calls Try.prog 15 #[.int .i64 crf,.int .i64 sz,.agg (arr8 P),.agg (arr8 Q)] w fun e w'=>(okNew crf sz P Q → NewOk w crf.toNat sz.toNat P Q e w') ∧ (¬ okNew crf sz P Q → e = .returned (.tuple #[.pointer none,.int .i64 2]) ∧ Below w.heap.size w w'):=by
 by_cases hc:crf < 0 ∨ 255 < crf
 · exact (newmux_craft crf sz P Q w hc).mono fun e w' hh=>⟨fun ho=>by unfold okNew at ho;omega,fun _=>hh⟩
 · by_cases hs:sz < 32 ∨ 200 < sz
   · exact (newmux_size crf sz P Q w (by omega) (by omega) hs).mono fun e w' hh=>⟨fun ho=>by unfold okNew at ho;omega,fun _=>hh⟩
   · obtain ⟨c,rfl⟩:∃ c:Nat,crf = (c:Int):=⟨crf.toNat,by omega⟩
     obtain ⟨s,rfl⟩:∃ s:Nat,sz = (s:Int):=⟨sz.toNat,by omega⟩
     refine (newmux_loop c s P Q w (by omega) (by omega) (by omega)).mono fun e w' hh=>⟨fun ho=>?_,fun hn=>hh.2 fun h8=>hn ⟨by omega,by omega,by omega,by omega,h8⟩⟩
     rw [Int.toNat_natCast,Int.toNat_natCast]
     exact hh.1 ho.2.2.2.2
end Go.Am.Cha

namespace Go.Am.Cha
open Go Go.Am Go.Am.Lib Go.Lib Go.Proofs Go.RowKit
open Go.Am.Own
set_option maxRecDepth 100000

end Go.Am.Cha

namespace Go.Am.Cha
open Go Go.Am Go.Am.Lib Go.Lib Go.Proofs Go.RowKit
set_option maxRecDepth 100000

/-- Two blocks are as they were. -/
def Kept (l D:Nat) (W W':World):Prop:=W'.heap[l]? = W.heap[l]? ∧ W'.heap[D]? = W.heap[D]?
theorem Kept.refl (l D:Nat) (W:World):Kept l D W W:=⟨rfl,rfl⟩
theorem Kept.trans {l D:Nat} {A B C:World} (h:Kept l D A B) (k:Kept l D B C):Kept l D A C:=⟨k.1.trans h.1,k.2.trans h.2⟩
theorem rf_law {α:Type} {F:Fence} {n:Nat} {P:Program} {g:Operand} {ps:Array Tmp} {assign body:Code} {Q:Exit → Act → World → Prop} {a:Act} {w:World}
 (hro:F.round = none) (h1:1 ≤ n) {gf:Nat} {lb:Array Value} (hg:a.eval g = .func (.func gf) #[] lb) (hFg:F.fn gf) (eg:∀ args w,(callFunc gf args).run P w = .ok (.enter gf args) w)
 {encs:α → Array Value} (hps:∀ x,(encs x).size = ps.size) (R:List α → α → Prop) (X:Nat → Prop) (hX:∀ k,X k → k < w.heap.size) (I:Nat → Nat → List α → World → Prop) (Fin:Nat → Nat → World → Prop)
 (hI0:∀ r,I (w.heap.size + 1) w.heap.size [] ((w.alloc (.deferred (some []))).alloc (.loop r)))
 (hIp:∀ l D s W o o',I l D s W → W.heap[l]? = some (.loop o) → I l D s (W.putObj l (.loop o')))
 (hFp:∀ l D W o o',Fin l D W → W.heap[l]? = some (.loop o) → Fin l D (W.putObj l (.loop o')))
 (hround:∀ (l D:Nat) (pre:List α) (x:α) (W:World) (o:Loop),l ≠ D → I l D pre W → R pre x → W.heap[l]? = some (.loop o) →
  assign.wpIn (F.inRound l) (n - 1 - 1) P (Exit.then (fun a' W'=>W.heap.size ≤ W'.heap.size ∧ (∀ k,k < W.heap.size → W'.heap[k]? = W.heap[k]?) ∧ ∀ o',body.wpIn (F.inRound l) (n - 1 - 1) P (fun ex _ W3=>ex = .normal ∧ I l D (pre ++ [x]) W3 ∧ Kept l D (W'.putObj l (.loop o')) W3 ∧ ∀ k,X k → W3.heap[k]? = (W'.putObj l (.loop o')).heap[k]?) a' (W'.putObj l (.loop o'))) (fun _ _ _=>False)) { tmps:=(ps.zip (encs x)).foldl (fun t (p,v)=>t.setIfInBounds p v) a.tmps,defers:=[] } W)
 (hiter:∀ (l D:Nat) (W1:World),l ≠ D → I l D [] W1 → (∀ k,k < w.heap.size → W1.heap[k]? = w.heap[k]?) →
  (∀ pre x W,I l D pre W → R pre x → Kept l D W1 W → YieldAt F (n - 1 - 1) P l (encs x) W fun e W'=>e = .returned (.bool true) ∧ I l D (pre ++ [x]) W' ∧ Kept l D W1 W' ∧ ∀ k,X k → W'.heap[k]? = W.heap[k]?) →
  CallsIn F (n - 1) P gf (#[.func (.yield l) #[] #[]] ++ lb) W1 fun e W'=>(∃ v,e = .returned v) ∧ Fin l D W' ∧ Kept l D W1 W')
 (hdone:∀ (D:Nat) (W:World),Fin (D + 1) D W → W.heap[D]? = some (.deferred (some [])) → Q .normal { a with defers:={ target:=.collected D,args:=#[] } :: a.defers } W) :
 (Code.rangeFunc g ps assign body).wpIn F n P Q a w:=by
 refine wpIn_rangeFunc ?_
 intro fn hfn
 rw [hro]
 obtain ⟨rec,hrec⟩:∃ rec:LoopState → Option Code → Loop,rec = fun st pe=>{ state:=st,pending:=pe,fn,tmps:=a.tmps,params:=ps,assign,body,defers:=w.heap.size }:=⟨_,rfl⟩
 obtain ⟨W1,hW1⟩:∃ W1,(w.alloc (.deferred (some []))).alloc (.loop (rec .ready none)) = W1:=⟨_,rfl⟩
 have hL1:W1.heap[w.heap.size + 1]? = some (.loop (rec .ready none)):=by
  rw [← hW1];have:=World.alloc_heap_new (w.alloc (.deferred (some []))) (.loop (rec .ready none));rwa [World.size_alloc] at this
 have hK1:W1.heap[w.heap.size]? = some (.deferred (some [])):=by
  rw [← hW1];exact (Below.heap_alloc _ _ _ (by simp)).trans (World.alloc_heap_new w _)
 have hI1:I (w.heap.size + 1) w.heap.size [] W1:=by rw [← hW1];exact hI0 _
 have hDl:w.heap.size + 1 ≠ w.heap.size:=by omega
 refine ⟨w.heap.size + 1,[{ target:=.collected w.heap.size,args:=#[] }],W1,{ target:=.fn (.func gf) lb,args:=#[.func (.yield (w.heap.size + 1)) #[] #[]] },W1,gf,
  #[.func (.yield (w.heap.size + 1)) #[] #[]] ++ lb,W1,?_,?_,?_,?_,fun _=>h1,?_⟩
 · rw [← hW1,hrec];exact run_enterLoop_outer _ _ _ _ _
 · simp only [resolve,hg]
   simp [go_sem]
 · intro f' hf';simp [Target.leads] at hf';subst hf';exact hFg
 · simp [invoke,go_sem,eg]
 · refine (hiter (w.heap.size + 1) w.heap.size W1 hDl hI1 (fun k hk=>by rw [← hW1];exact (Below.heap_alloc _ _ _ (by rw [World.size_alloc];omega)).trans (Below.heap_alloc _ _ _ hk)) ?_).mono ?_
   · intro pre x W hi hRx hk
     have hl:W.heap[w.heap.size + 1]? = some (.loop (rec .ready none)):=hk.1.trans hL1
     have hlt:w.heap.size + 1 < W.heap.size:=(Array.getElem?_eq_some_iff.1 hl).1
     have hy:=run_yield (P:=P) (args:=encs x) hl (by rw [hrec];exact hps x)
     rw [hrec] at hy
     refine ⟨fn,_,assign,body,hy,roundIn_of_wpIn hfn (wpIn_mono (hround _ _ pre x W _ hDl hi hRx hl) ?_)⟩
     rintro ex a' W' hM
     cases ex with
     | normal =>
      obtain ⟨hsz,hbl,hbody⟩:=hM
      have hl':W'.heap[w.heap.size + 1]? = some (.loop (rec .ready none)):=(hbl _ hlt).trans hl
      have hlt':w.heap.size + 1 < W'.heap.size:=(Array.getElem?_eq_some_iff.1 hl').1
      refine ⟨_,run_beginRound hl' (by rw [hrec]),?_⟩
      refine wpIn_mono (hbody _) ?_
      rintro e a3 W3 ⟨rfl,hi3,hk3,hx3⟩
      have hl2:W3.heap[w.heap.size + 1]? = some (.loop { rec .ready none with state:=.busy }):=hk3.1.trans (World.putObj_heap_same hlt')
      have:=run_endRound (P:=P) none hl2
      rw [hrec] at this
      refine ⟨_,_,this,rfl,hIp _ _ _ _ _ _ hi3 hl2,⟨?_,?_⟩,fun k hk4=>?_⟩
      · rw [World.putObj_heap_same (Array.getElem?_eq_some_iff.1 hl2).1,hL1,hrec];rfl
      · have hD':W'.heap[w.heap.size]? = W.heap[w.heap.size]?:=hbl _ (by omega)
        exact (World.putObj_heap_other (by omega)).trans (hk3.2.trans ((World.putObj_heap_other (by omega)).trans (hD'.trans hk.2)))
      · have hkl:=hX k hk4
        exact (World.putObj_heap_other (by omega)).trans ((hx3 k hk4).trans ((World.putObj_heap_other (by omega)).trans (hbl _ (by omega))))
     | _=>exact hM.elim
   · rintro e W2 ⟨⟨v,rfl⟩,hf,hk⟩
     have hl:W2.heap[w.heap.size + 1]? = some (.loop (rec .ready none)):=hk.1.trans hL1
     refine ⟨none,_,by have:=run_endLoop (P:=P) hl (by rw [hrec];simp);rw [hrec] at this;exact this,hdone _ _ (hFp _ _ _ _ _ hf hl) ((World.putObj_heap_other (by omega)).trans (hk.2.trans hK1))⟩
end Go.Am.Cha
