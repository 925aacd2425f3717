/-
  Channels: Feed of any string; the law's packets. Own work.
-/
import Derived.Test.YtlgpalokjckdcaaChaY1
import Derived.Test.YtlgpalokjckdcaaChaY2
import Derived.Test.YtlgpalokjckdcaaChaGE
import Derived.Test.YtlgpalokjckdcaaChaGF
namespace Go.Am.Cha
open Go Go.Am Go.Am.Lib Go.Lib Go.Proofs Go.RowKit
open Go.Am.Own
open Go.Am.Tmf (getTE gFr datT gWd by2N)
set_option maxRecDepth 100000

def dupB (D:Dm) (s:ByteArray):Bool:=(D.sk (fK s)).kn && decide ((D.sk (fK s)).fr.data.toList = s.data.toList)
theorem dupB_iff (D:Dm) (s:ByteArray):dupB D s = true ↔ dupS D s:=by
 unfold dupB dupS
 rw [Bool.and_eq_true,decide_eq_true_iff]
 exact ⟨fun h=>⟨h.1,ByteArray.ext (Array.toList_inj.1 h.2)⟩,fun h=>⟨h.1,by rw [h.2]⟩⟩
/-- The demux behind a string, and what it says of it. -/
def feedG (D:Dm) (s:ByteArray):Dm × Arr :=
 if feedE D s ≠ 0 then (D,arr0)
 else if dupB D s = true then (D,{ arr0 with ch:=fK s,wd:=gWd s,db:=true })
 else (({ D with kn:=true,ms:=fM s }:Dm).put (fK s) (fieldS D s).1,⟨fK s,false,lostN D s,missN D s,(fieldS D s).2.2,(fieldS D s).2.1,gWd s⟩)
variable {sb N:Nat} {w:World} {D:Dm}
theorem dfeed_at (hN:N ≤ 500) (hk:w.heap[sb]? = some (.cells (dmC D) 74 (0,0))) (ok:OkD N D) (s:ByteArray) (hs:s.size ≤ 2 ^ 40) :
 Calls Try.prog 11 #[.pointer (some ⟨sb,0,none⟩),.string s] w (Fed sb w (feedG D s).1 (feedG D s).2 (feedE D s)):=by
 by_cases he:getTE s = 0
 · by_cases hx:fC s = D.craft ∧ (datT s).size = D.size
   · have hE:feedE D s = 0:=by unfold feedE;rw [if_neg (by rw [he];decide),if_neg (by omega)]
     by_cases hd:dupB D s = true
     · have hG:feedG D s = (D,{ arr0 with ch:=fK s,wd:=gWd s,db:=true }):=by unfold feedG;rw [if_neg (by rw [hE];decide),if_pos hd]
       rw [hE,hG]
       exact dfeed_dup hk ⟨ok.2.1,ok.2.2.1⟩ s hs he hx ((dupB_iff D s).1 hd)
     · have hG:feedG D s = (({ D with kn:=true,ms:=fM s }:Dm).put (fK s) (fieldS D s).1,⟨fK s,false,lostN D s,missN D s,(fieldS D s).2.2,(fieldS D s).2.1,gWd s⟩):=by unfold feedG;rw [if_neg (by rw [hE];decide),if_neg hd]
       rw [hE,hG]
       have hd2:¬ dupS D s:=fun h=>hd ((dupB_iff D s).2 h)
       cases hkn:(D.sk (fK s)).kn with
       | false=>exact dfeed_first hN hk ok s hs he hx hkn
       | true=>exact dfeed_next hN hk ok s hs he hx ⟨hkn,fun h=>hd2 ⟨hkn,h⟩⟩
   · have hE:feedE D s = 2:=by unfold feedE;rw [if_neg (by rw [he];decide),if_pos (by omega)]
     have hG:feedG D s = (D,arr0):=by unfold feedG;rw [if_pos (by rw [hE];decide)]
     rw [hE,hG]
     exact dfeed_arg hk ⟨ok.2.1,ok.2.2.1⟩ s hs he (by omega)
 · have hE:feedE D s = getTE s:=by unfold feedE;rw [if_pos he]
   have hG:feedG D s = (D,arr0):=by unfold feedG;rw [if_pos (by rw [hE];exact he)]
   rw [hE,hG]
   exact dfeed_bad hk ⟨ok.2.1,ok.2.2.1⟩ s hs he
theorem stepM_pt (x:Sk) (first:Nat) (data:ByteArray) (n:Nat) (L:List L8):(stepM x first data n L).1.pt.size ≤ x.pt.size + data.size ∧ (stepM x first data n L).1.ct = x.ct:=by
 have hp:(x.pt ++ data.extract 0 (min first data.size)).size ≤ x.pt.size + data.size:=by rw [ByteArray.size_append,ByteArray.size_extract];omega
 unfold stepM
 split
 · split
   · exact ⟨hp,rfl⟩
   · split
     · exact ⟨hp,rfl⟩
     · exact ⟨hp,rfl⟩
 · exact ⟨Nat.le_add_right _ _,rfl⟩
theorem tailM_fst (a:Sk × Nat × List L8) (p:List ByteArray × ByteArray):(tailM a p).1 = if p.2.size ≠ 0 ∧ Pkt.takeE p.2 = 4 then { a.1 with bg:=true,pt:=p.2 } else { a.1 with pt:=⟨#[]⟩ }:=rfl
theorem takeM_pt (x:Sk) (first:Nat) (data:ByteArray) (n:Nat) (L:List L8):(takeM x first data n L).1.pt.size ≤ x.pt.size + data.size ∧ (takeM x first data n L).1.ct = x.ct:=by
 have h1:=stepM_pt x first data n L
 unfold takeM
 split
 · exact h1
 · have h2:(parses (data.extract (min first data.size) data.size)).2.size ≤ (data.extract (min first data.size) data.size).size:=parse_left _ _
   rw [ByteArray.size_extract] at h2
   generalize stepM x first data n L = a at h1 ⊢
   generalize parses (data.extract (min first data.size) data.size) = p at h2 ⊢
   rw [tailM_fst]
   split
   · exact ⟨by show p.2.size ≤ _;omega,h1.2⟩
   · exact ⟨Nat.zero_le _,h1.2⟩
theorem cutM_pt (x:Sk) (lo:Nat):(cutM x lo).1.pt.size ≤ x.pt.size ∧ (cutM x lo).1.ct = x.ct:=by
 unfold cutM
 split
 · exact ⟨Nat.zero_le _,rfl⟩
 · exact ⟨Nat.le_refl _,rfl⟩
theorem OkD.feed (ok:OkD N D) (s:ByteArray):OkD (N + 1) (feedG D s).1:=by
 have same:OkD (N + 1) D:=⟨ok.1,ok.2.1,ok.2.2.1,ok.2.2.2.1,fun k hk=>⟨(ok.2.2.2.2 k hk).1,Nat.le_trans (ok.2.2.2.2 k hk).2 (by omega)⟩⟩
 unfold feedG
 split
 · exact same
 · rename_i hE
   split
   · exact same
   · have he:getTE s = 0:=by
      have h0:feedE D s = 0:=by simpa using hE
      unfold feedE at h0
      split at h0
      · rename_i h;exact absurd h0 h
      · rename_i h;simpa using h
     obtain ⟨-,-,hkk,hM,hN,-,-,hD,-⟩:=get_ok he
     refine ⟨ok.1,ok.2.1,ok.2.2.1,hM,fun k hk=>?_⟩
     show ((if k = fK s then (fieldS D s).1 else D.sk k).ct ≤ 255 ∧ (if k = fK s then (fieldS D s).1 else D.sk k).pt.size ≤ 200 * (N + 1))
     split
     · have h1:=(ok.2.2.2.2 _ hkk).2
       have h2:=cutM_pt ⟨true,s,fN s,(D.sk (fK s)).bg,(D.sk (fK s)).pt⟩ (lostN D s)
       unfold fieldS
       split
       · unfold nowS
         exact ⟨by rw [h2.2];exact hN,Nat.le_trans h2.1 (Nat.le_trans h1 (by omega))⟩
       · have h3:=takeM_pt (nowS D s).1 (fF s) (datT s) (nowS D s).2 []
         unfold nowS at h3 ⊢
         refine ⟨by rw [h3.2,h2.2];exact hN,?_⟩
         have h4:(⟨true,s,fN s,(D.sk (fK s)).bg,(D.sk (fK s)).pt⟩:Sk).pt.size = (D.sk (fK s)).pt.size:=rfl
         omega
     · exact ⟨(ok.2.2.2.2 k hk).1,Nat.le_trans (ok.2.2.2.2 k hk).2 (by omega)⟩
theorem OkD.zero {craft size:Nat} (h0:craft ≤ 255) (h1:32 ≤ size) (h2:size ≤ 200):OkD 0 (dm0 craft size):=⟨h0,h1,h2,Nat.zero_le _,fun _ _=>⟨Nat.zero_le _,Nat.le_refl _⟩⟩
end Go.Am.Cha

namespace Go.Am.Cha
open Go Go.Am Go.Am.Lib Go.Lib Go.Proofs Go.RowKit
open Go.Am.Own
open Go.Am.Pkt (G0 codeOf mixed none_ok encS sPut putS putE validB okPut validB_iff)
open Go.Am.Tmf (sPck okPck)
set_option maxRecDepth 100000

def headL (k n:Nat):List UInt8:=UInt8.ofNat k :: List.replicate n 0
def madeN (n k:Nat):ByteArray:=encS false 3 3 (k % 16384) ⟨⟨headL k (n - 7)⟩⟩
def sMadeN:Spec:=fun args h K=>match args,h with
 | [.int .i64 n,.int .i64 k],[]=>7 ≤ n ∧ n ≤ 1030 ∧ 0 ≤ k ∧ k ≤ 2 ^ 40 ∧ K (.string (madeN n.toNat k.toNat)) []
 | _,_=>False
def tMadeN:List (Nat × Spec):=[(17,sPck),(40,sPut)]
noncomputable def cMadeN:FCfg:=mkG Try.prog G0 tMadeN 25 [(0,[0,1]),(1,[1,5]),(2,[1,5]),(3,[6]),(4,[4])] [] [] [] [] [] 40 0
noncomputable def bMadeN (n k:Int) (K:Value → AHeap → Prop):Prop:=bodyK cMadeN (codeOf Try.f20) Try.f20.results.toList [.int .i64 n,.int .i64 k] [] K
theorem bMadeN_eq (n k:Int) (K:Value → AHeap → Prop):bMadeN n k K = (∀ x1:Int,((x1 = (iSub IntKind.i64 n (6:Int))) → (cond (((((((decide (((0:Int) ≤ x1))) && (decide ((x1 ≤ x1)))) && (decide ((x1 ≤ (9223372036854775807:Int))))) && (decide ((((1:Int) * x1:Int) ≤ (281474976710656:Int))))) && Bool.true) && Bool.true) && Bool.true) (∀ x2:Int,((x2 = (IntKind.wrap IntKind.u8 k)) → (cond (decide (((0:Int) < (((Int.toNat x1):Nat):Int)))) (cond (decide (((1:Nat) ≤ (List.length (List.replicate (Int.toNat x1) (Value.int IntKind.u8 (0:Int))))))) ((((0:Int) < (16384:Int)) ∧ (((16384:Int) < (4611686018427387904:Int)) ∧ (∀ x3:Int,((x3 = (Int.emod k (16384:Int))) → (∀ x4:Int,((x4 = x3) → (cond (decide (((0 + ((Int.toNat x1) * (1:Nat):Nat):Nat) ≤ (List.length (List.set (List.replicate (Int.toNat x1) (Value.int IntKind.u8 (0:Int))) 0 (Value.int IntKind.u8 x2)))))) (cond (List.all (List.take ((Int.toNat x1) * (1:Nat):Nat) (List.drop 0 (List.set (List.replicate (Int.toNat x1) (Value.int IntKind.u8 (0:Int))) 0 (Value.int IntKind.u8 x2)))) (isInt IntKind.u8)) (∀ x5:ByteArray,((x5 = (bytesOf (List.take ((Int.toNat x1) * (1:Nat):Nat) (List.drop 0 (List.set (List.replicate (Int.toNat x1) (Value.int IntKind.u8 (0:Int))) 0 (Value.int IntKind.u8 x2)))))) → (∀ x6:ByteArray,((x6 = (Pkt.putS Bool.false (3:Int) (3:Int) x4 x5)) → (∀ x7:Int,((x7 = (Pkt.putE (3:Int) (3:Int) x4 x5)) → (K (Value.string x6) []))))))) False) False))))))) ∧ (cond (decide (((0 + ((Int.toNat x1) * (1:Nat):Nat):Nat) ≤ (List.length (List.set (List.replicate (Int.toNat x1) (Value.int IntKind.u8 (0:Int))) 0 (Value.int IntKind.u8 x2)))))) (cond (List.all (List.take ((Int.toNat x1) * (1:Nat):Nat) (List.drop 0 (List.set (List.replicate (Int.toNat x1) (Value.int IntKind.u8 (0:Int))) 0 (Value.int IntKind.u8 x2)))) (isInt IntKind.u8)) (∀ x8:ByteArray,((x8 = (bytesOf (List.take ((Int.toNat x1) * (1:Nat):Nat) (List.drop 0 (List.set (List.replicate (Int.toNat x1) (Value.int IntKind.u8 (0:Int))) 0 (Value.int IntKind.u8 x2)))))) → (((0:Int) < (16384:Int)) ∧ (((16384:Int) < (4611686018427387904:Int)) ∧ (∀ x9:Int,((x9 = (Int.emod k (16384:Int))) → (∀ x10:Int,((x10 = x9) → (∀ x11:ByteArray,((x11 = (Pkt.putS Bool.false (3:Int) (3:Int) x10 x8)) → (∀ x12:Int,((x12 = (Pkt.putE (3:Int) (3:Int) x10 x8)) → (K (Value.string x11) []))))))))))))) False) False)) False) False))) False))):=by
 kernel_rfl
theorem set_hd (m:Nat) (h:1 ≤ m) (v z:Value):(List.replicate m z).set 0 v = v :: List.replicate (m - 1) z:=by
 obtain ⟨j,rfl⟩:∃ j,m = j + 1:=⟨m - 1,by omega⟩
 rfl
theorem take_all {α:Type} (l:List α) (m:Nat) (h:l.length = m):List.take (m * 1) (List.drop 0 l) = l:=by
 rw [List.drop_zero,List.take_of_length_le (by omega)]
theorem wrap_u8 {k:Int} (h0:0 ≤ k):IntKind.wrap .u8 k = ((k.toNat % 256:Nat):Int):=by
 have:IntKind.wrap .u8 k = k % 256:=by
  unfold IntKind.wrap
  simp [IntKind.signed,IntKind.bits]
 rw [this];omega
theorem bytes_hd (k j:Nat):bytesOf ((Value.int .u8 ((k % 256:Nat):Int)) :: List.replicate j (Value.int .u8 0)) = ⟨⟨headL k j⟩⟩:=by
 unfold bytesOf headL
 rw [List.map_cons,List.map_replicate]
 show (⟨⟨UInt8.ofNat ((k % 256:Nat):Int).toNat :: List.replicate j 0⟩⟩:ByteArray) = _
 rw [Int.toNat_natCast]
 have:UInt8.ofNat (k % 256) = UInt8.ofNat k:=by
  apply UInt8.toNat_inj.1
  simp
 rw [this]
theorem isint_hd (k j:Nat):List.all ((Value.int .u8 ((k % 256:Nat):Int)) :: List.replicate j (Value.int .u8 0)) (isInt .u8) = true:=by
 rw [List.all_cons,Bool.and_eq_true]
 refine ⟨rfl,?_⟩
 rw [List.all_eq_true]
 intro v hv
 rw [List.eq_of_mem_replicate hv]
 rfl
theorem tMadeN_ok:AllOk Try.prog G0 tMadeN:=⟨okPck,okPut,trivial⟩
theorem okMadeN:SpecOk Try.prog G0 20 sMadeN :=
 spec2 mixed tMadeN_ok Try.func20 (by kernel_rfl:Try.f20.body = some (codeOf Try.f20)) cMadeN rfl rfl rfl (by kernel_rfl) (ids:=[]) (by kernel_rfl) trivial (by
  intro args h K hk
  unfold sMadeN at hk
  split at hk
  · rename_i n k
    obtain ⟨h0,h1,h2,h3,hk⟩:=hk
    show bMadeN n k K
    rw [bMadeN_eq]
    intro x1 e1
    rw [iSub_i64 (by omega) (by omega)] at e1
    have hm:x1.toNat = n.toNat - 6:=by omega
    have hm1:1 ≤ x1.toNat:=by omega
    rw [show (decide (0 ≤ x1) && decide (x1 ≤ x1) && decide (x1 ≤ 9223372036854775807) && decide (1 * x1 ≤ 281474976710656) && true && true && true) = true from by simp;omega,cond_true]
    intro x2 e2
    rw [wrap_u8 h2] at e2
    rw [dT (by omega),dT (by rw [List.length_replicate];exact hm1),set_hd _ hm1,e2]
    have hl:((Value.int .u8 ((k.toNat % 256:Nat):Int)) :: List.replicate (x1.toNat - 1) (Value.int .u8 0)).length = x1.toNat:=by rw [List.length_cons,List.length_replicate];omega
    have hc:0 + x1.toNat * 1 ≤ ((Value.int .u8 ((k.toNat % 256:Nat):Int)) :: List.replicate (x1.toNat - 1) (Value.int .u8 0)).length:=by rw [hl];omega
    have ha:=isint_hd k.toNat (x1.toNat - 1)
    rw [take_all _ _ hl]
    have hb:=bytes_hd k.toNat (x1.toNat - 1)
    have hj:x1.toNat - 1 = n.toNat - 7:=by omega
    have hmade:∀ x:Int,x = k.emod 16384 → putS false 3 3 x ⟨⟨headL k.toNat (n.toNat - 7)⟩⟩ = madeN n.toNat k.toNat:=by
     intro x hx
     have hq:x.toNat = k.toNat % 16384:=by rw [hx];show (k % 16384).toNat = _;omega
     have hx0:0 ≤ x ∧ x < 16384:=by rw [hx];show 0 ≤ k % 16384 ∧ k % 16384 < 16384;omega
     have hsz:(⟨⟨headL k.toNat (n.toNat - 7)⟩⟩:ByteArray).size = n.toNat - 6:=by
      show (headL k.toNat (n.toNat - 7)).length = _
      unfold headL
      rw [List.length_cons,List.length_replicate];omega
     unfold putS madeN
     rw [if_pos (validB_iff.2 (by omega)),hq];rfl
    refine ⟨⟨by decide,by decide,?_⟩,?_⟩
    · intro x3 e3 x4 e4
      rw [dT hc,ha,cond_true]
      intro x5 e5 x6 e6 x7 _
      rw [hb,hj] at e5
      rw [e6,e5,hmade x4 (by rw [e4,e3])]
      exact hk
    · rw [dT hc,ha,cond_true]
      intro x8 e8
      rw [hb,hj] at e8
      refine ⟨by decide,by decide,?_⟩
      intro x9 e9 x10 e10 x11 e11 x12 _
      rw [e11,e8,hmade x10 (by rw [e10,e9])]
      exact hk
  · exact hk.elim)
theorem madeN_calls {n k:Nat} (h0:7 ≤ n) (h1:n ≤ 1030) (h2:k ≤ 2 ^ 40) (w:World):Calls Try.prog 20 #[.int .i64 ((n:Nat):Int),.int .i64 ((k:Nat):Int)] w fun e w'=>e = .returned (.string (madeN n k)) ∧ Below w.heap.size w w' :=
 Tmf.flat_calls okMadeN w (args:=[.int .i64 ((n:Nat):Int),.int .i64 ((k:Nat):Int)]) rfl (v:=.string (madeN n k)) rfl ⟨by omega,by omega,by omega,by omega,rfl,rfl⟩
theorem madeN_size {n k:Nat} (h0:7 ≤ n):(madeN n k).size = n:=by
 unfold madeN
 rw [Tmf.encS_size]
 show 6 + (headL k (n - 7)).length = n
 unfold headL
 rw [List.length_cons,List.length_replicate];omega
end Go.Am.Cha

namespace Go.Am.Cha
open Go Go.Am Go.Am.Lib Go.Lib Go.Proofs Go.RowKit
open Go.Am.Own
set_option maxRecDepth 100000
attribute [local go_sem] Oper.semAt_some

def evQ (q:Nat) (k:Nat):Int:=if k = 0 then ((q:Nat):Int) else 1
def oneQ (j:Nat) (k:Nat):Int:=if k < j then 1 else 0
theorem one_set {j:Nat} (h:j < 8):(arr8 (oneQ j)).setIfInBounds j (.int .i64 1) = arr8 (oneQ (j + 1)):=by
 match j,h with
 | 0,_ | 1,_ | 2,_ | 3,_ | 4,_ | 5,_ | 6,_ | 7,_=>rfl
theorem ev_set (q:Nat):(arr8 (oneQ 8)).setIfInBounds 0 (.int .i64 ((q:Nat):Int)) = arr8 (evQ q):=rfl
structure Ev (w:World) (j:Nat → Int) (wr:World):Prop where
 a:wr.heap[w.heap.size]? = some (.cells (arr8 fun _=>0) 38 (0,0))
 b:wr.heap[w.heap.size + 1]? = some (.cells (arr8 j) 38 (0,0))
 fr:Below w.heap.size w wr
theorem Ev.start (w:World):Ev w (oneQ 0) ((w.alloc (.cells #[.int .i64 0,.int .i64 0,.int .i64 0,.int .i64 0,.int .i64 0,.int .i64 0,.int .i64 0,.int .i64 0] 38)).alloc (.cells #[.int .i64 0,.int .i64 0,.int .i64 0,.int .i64 0,.int .i64 0,.int .i64 0,.int .i64 0,.int .i64 0] 38)):=by
 obtain ⟨W1,hW1⟩:∃ W,w.alloc (.cells #[.int .i64 0,.int .i64 0,.int .i64 0,.int .i64 0,.int .i64 0,.int .i64 0,.int .i64 0,.int .i64 0] 38) = W:=⟨_,rfl⟩
 have b1:Below w.heap.size w W1:=by rw [← hW1];exact (Below.refl _ w).alloc (Nat.le_refl _) _
 have k1:W1.heap[w.heap.size]? = some (.cells (arr8 fun _=>0) 38 (0,0)):=by rw [← hW1];exact heap_alloc_new w _
 have s1:W1.heap.size = w.heap.size + 1:=by rw [← hW1];exact alloc_size ..
 rw [hW1]
 have b2:Below W1.heap.size W1 (W1.alloc (.cells #[.int .i64 0,.int .i64 0,.int .i64 0,.int .i64 0,.int .i64 0,.int .i64 0,.int .i64 0,.int .i64 0] 38)):=(Below.refl _ W1).alloc (Nat.le_refl _) _
 refine ⟨(b2.block _ (by omega)).trans k1,?_,b1.trans (b2.mono b1.size)⟩
 rw [← s1]
 exact heap_alloc_new W1 _
theorem Ev.set {w wr:World} {j j':Nat → Int} (h:Ev w j wr) (i:Nat) (v:Value) (hv:(arr8 j).setIfInBounds i v = arr8 j'):Ev w j' (wr.setCell ⟨w.heap.size + 1,i,none⟩ v):=by
 have ho:OnlyB (w.heap.size + 1) wr (wr.setCell ⟨w.heap.size + 1,i,none⟩ v):=(OnlyB.refl _ wr).setCell i v
 refine ⟨(ho.rest _ (by omega)).trans h.a,by rw [← hv];exact set_at h.b,h.fr.trans ((ho.fr (S:=fun k=>w.heap.size < k) (by show w.heap.size < w.heap.size + 1;omega)).below fun k hk=>by show ¬ w.heap.size < k;omega)⟩
theorem Ev.setA {w wr:World} {j:Nat → Int} (h:Ev w j wr) (i:Nat) (v:Value) (hv:(arr8 fun _=>0).setIfInBounds i v = arr8 fun _=>0):Ev w j (wr.setCell ⟨w.heap.size,i,none⟩ v):=by
 have ho:OnlyB w.heap.size wr (wr.setCell ⟨w.heap.size,i,none⟩ v):=(OnlyB.refl _ wr).setCell i v
 refine ⟨by rw [← hv];exact set_at h.a,(ho.rest _ (by omega)).trans h.b,h.fr.trans ((ho.fr (S:=fun k=>w.heap.size ≤ k) (Nat.le_refl _)).below fun k hk=>by show ¬ w.heap.size ≤ k;omega)⟩
set_option maxHeartbeats 3200000 in
theorem even_calls (q:Nat) (w:World):Calls Try.prog 28 #[.int .i64 ((q:Nat):Int)] w fun e w'=>e = .returned (.tuple #[.agg (arr8 fun _=>0),.agg (arr8 (evQ q))]) ∧ Below w.heap.size w w':=by
 have h0:=Ev.start w
 go_enter Try.func28,Try.ntmps28
 go_wp2
 go_loopw [4] (fun iv wr=>∃ i:Nat,iv = .int .i64 (i:Nat) ∧ i ≤ 8 ∧ Ev w (oneQ i) wr) (fun iv _=>8 - iOf iv)
 case atStart=>exact ⟨0,rfl,Nat.zero_le _,h0⟩
 case round =>
  clear h0
  obtain ⟨i,rfl,hi,hR⟩:=hrel
  rcases Nat.lt_or_ge i 8 with hlt | hge
  · have hlt':((i:Nat):Int) < 8:=by omega
    have hmeas:8 - (i + 1) < 8 - i:=by omega
    have c1:wr.cell? ⟨w.heap.size + 1,i,none⟩ = some (.int .i64 (oneQ i i)):=(cell_of hR.b).trans (arr8_at _ hlt)
    have z1:=fz_of hR.b
    have hS:=Lib.hid (hR.set i (.int .i64 1) (one_set hlt))
    clear hR
    go_wp2
    exact ⟨⟨i + 1,by push_cast;rfl,hlt,hS.out⟩,hmeas⟩
  · obtain rfl:i = 8:=by omega
    clear hge hi
    have a0:wr.cell? ⟨w.heap.size,0,none⟩ = some (.int .i64 0):=cell_of hR.a
    have a1:wr.cell? ⟨w.heap.size,1,none⟩ = some (.int .i64 0):=cell_of hR.a
    have a2:wr.cell? ⟨w.heap.size,2,none⟩ = some (.int .i64 0):=cell_of hR.a
    have a3:wr.cell? ⟨w.heap.size,3,none⟩ = some (.int .i64 0):=cell_of hR.a
    have a4:wr.cell? ⟨w.heap.size,4,none⟩ = some (.int .i64 0):=cell_of hR.a
    have a5:wr.cell? ⟨w.heap.size,5,none⟩ = some (.int .i64 0):=cell_of hR.a
    have a6:wr.cell? ⟨w.heap.size,6,none⟩ = some (.int .i64 0):=cell_of hR.a
    have a7:wr.cell? ⟨w.heap.size,7,none⟩ = some (.int .i64 0):=cell_of hR.a
    have b0:wr.cell? ⟨w.heap.size + 1,0,none⟩ = some (.int .i64 1):=cell_of hR.b
    have b1:wr.cell? ⟨w.heap.size + 1,1,none⟩ = some (.int .i64 1):=cell_of hR.b
    have b2:wr.cell? ⟨w.heap.size + 1,2,none⟩ = some (.int .i64 1):=cell_of hR.b
    have b3:wr.cell? ⟨w.heap.size + 1,3,none⟩ = some (.int .i64 1):=cell_of hR.b
    have b4:wr.cell? ⟨w.heap.size + 1,4,none⟩ = some (.int .i64 1):=cell_of hR.b
    have b5:wr.cell? ⟨w.heap.size + 1,5,none⟩ = some (.int .i64 1):=cell_of hR.b
    have b6:wr.cell? ⟨w.heap.size + 1,6,none⟩ = some (.int .i64 1):=cell_of hR.b
    have b7:wr.cell? ⟨w.heap.size + 1,7,none⟩ = some (.int .i64 1):=cell_of hR.b
    have z0:=fz_of hR.a
    have z1:=fz_of hR.b
    have hS:=hR.set 0 (.int .i64 ((q:Nat):Int)) (ev_set q)
    have HS:=Lib.hid hS
    clear hR hS
    go_wp2
    go_region
    have e0:=HS.out
    have e1:=e0.setA 0 (.int .i64 0) rfl
    have e2:=e1.setA 1 (.int .i64 0) rfl
    have e3:=e2.setA 2 (.int .i64 0) rfl
    have e4:=e3.setA 3 (.int .i64 0) rfl
    have e5:=e4.setA 4 (.int .i64 0) rfl
    have e6:=e5.setA 5 (.int .i64 0) rfl
    have e7:=e6.setA 6 (.int .i64 0) rfl
    have e8:=e7.setA 7 (.int .i64 0) rfl
    have e9:=e8.set 0 (.int .i64 ((q:Nat):Int)) (show (arr8 (evQ q)).setIfInBounds 0 _ = arr8 (evQ q) from rfl)
    have e10:=e9.set 1 (.int .i64 1) (show (arr8 (evQ q)).setIfInBounds 1 _ = arr8 (evQ q) from rfl)
    have e11:=e10.set 2 (.int .i64 1) (show (arr8 (evQ q)).setIfInBounds 2 _ = arr8 (evQ q) from rfl)
    have e12:=e11.set 3 (.int .i64 1) (show (arr8 (evQ q)).setIfInBounds 3 _ = arr8 (evQ q) from rfl)
    have e13:=e12.set 4 (.int .i64 1) (show (arr8 (evQ q)).setIfInBounds 4 _ = arr8 (evQ q) from rfl)
    have e14:=e13.set 5 (.int .i64 1) (show (arr8 (evQ q)).setIfInBounds 5 _ = arr8 (evQ q) from rfl)
    have e15:=e14.set 6 (.int .i64 1) (show (arr8 (evQ q)).setIfInBounds 6 _ = arr8 (evQ q) from rfl)
    have e16:=e15.set 7 (.int .i64 1) (show (arr8 (evQ q)).setIfInBounds 7 _ = arr8 (evQ q) from rfl)
    obtain ⟨V,hV⟩:∃ V,((((((((((((((((wr.setCell ⟨w.heap.size + 1,0,none⟩ (.int .i64 ((q:Nat):Int))).setCell ⟨w.heap.size,0,none⟩ (.int .i64 0)).setCell ⟨w.heap.size,1,none⟩ (.int .i64 0)).setCell ⟨w.heap.size,2,none⟩ (.int .i64 0)).setCell ⟨w.heap.size,3,none⟩ (.int .i64 0)).setCell ⟨w.heap.size,4,none⟩ (.int .i64 0)).setCell ⟨w.heap.size,5,none⟩ (.int .i64 0)).setCell ⟨w.heap.size,6,none⟩ (.int .i64 0)).setCell ⟨w.heap.size,7,none⟩ (.int .i64 0)).setCell ⟨w.heap.size + 1,0,none⟩ (.int .i64 ((q:Nat):Int))).setCell ⟨w.heap.size + 1,1,none⟩ (.int .i64 1)).setCell ⟨w.heap.size + 1,2,none⟩ (.int .i64 1)).setCell ⟨w.heap.size + 1,3,none⟩ (.int .i64 1)).setCell ⟨w.heap.size + 1,4,none⟩ (.int .i64 1)).setCell ⟨w.heap.size + 1,5,none⟩ (.int .i64 1)).setCell ⟨w.heap.size + 1,6,none⟩ (.int .i64 1)).setCell ⟨w.heap.size + 1,7,none⟩ (.int .i64 1) = V:=⟨_,rfl⟩
    rw [hV] at e16 ⊢
    clear e0 e1 e2 e3 e4 e5 e6 e7 e8 e9 e10 e11 e12 e13 e14 e15 a0 a1 a2 a3 a4 a5 a6 a7 b0 b1 b2 b3 b4 b5 b6 b7 z0 z1 hV HS
    have a0:V.drew.cell? ⟨w.heap.size,0,none⟩ = some (.int .i64 0):=cell_of (w:=V.drew) e16.a
    have a1:V.drew.cell? ⟨w.heap.size,1,none⟩ = some (.int .i64 0):=cell_of (w:=V.drew) e16.a
    have a2:V.drew.cell? ⟨w.heap.size,2,none⟩ = some (.int .i64 0):=cell_of (w:=V.drew) e16.a
    have a3:V.drew.cell? ⟨w.heap.size,3,none⟩ = some (.int .i64 0):=cell_of (w:=V.drew) e16.a
    have a4:V.drew.cell? ⟨w.heap.size,4,none⟩ = some (.int .i64 0):=cell_of (w:=V.drew) e16.a
    have a5:V.drew.cell? ⟨w.heap.size,5,none⟩ = some (.int .i64 0):=cell_of (w:=V.drew) e16.a
    have a6:V.drew.cell? ⟨w.heap.size,6,none⟩ = some (.int .i64 0):=cell_of (w:=V.drew) e16.a
    have a7:V.drew.cell? ⟨w.heap.size,7,none⟩ = some (.int .i64 0):=cell_of (w:=V.drew) e16.a
    have b0:V.drew.cell? ⟨w.heap.size + 1,0,none⟩ = some (.int .i64 ((q:Nat):Int)):=cell_of (w:=V.drew) e16.b
    have b1:V.drew.cell? ⟨w.heap.size + 1,1,none⟩ = some (.int .i64 1):=cell_of (w:=V.drew) e16.b
    have b2:V.drew.cell? ⟨w.heap.size + 1,2,none⟩ = some (.int .i64 1):=cell_of (w:=V.drew) e16.b
    have b3:V.drew.cell? ⟨w.heap.size + 1,3,none⟩ = some (.int .i64 1):=cell_of (w:=V.drew) e16.b
    have b4:V.drew.cell? ⟨w.heap.size + 1,4,none⟩ = some (.int .i64 1):=cell_of (w:=V.drew) e16.b
    have b5:V.drew.cell? ⟨w.heap.size + 1,5,none⟩ = some (.int .i64 1):=cell_of (w:=V.drew) e16.b
    have b6:V.drew.cell? ⟨w.heap.size + 1,6,none⟩ = some (.int .i64 1):=cell_of (w:=V.drew) e16.b
    have b7:V.drew.cell? ⟨w.heap.size + 1,7,none⟩ = some (.int .i64 1):=cell_of (w:=V.drew) e16.b
    obtain ⟨V2,hV2⟩:∃ V2,V.drew = V2:=⟨_,rfl⟩
    have hfr:Below w.heap.size w V2:=by rw [← hV2];exact e16.fr.drew
    rw [hV2] at a0 a1 a2 a3 a4 a5 a6 a7 b0 b1 b2 b3 b4 b5 b6 b7 ⊢
    go_wp2
    refine bodyPost_ret (v:=.tuple #[.agg (arr8 fun _=>0),.agg (arr8 (evQ q))]) ?_ rfl ⟨rfl,hfr⟩
    simp [results,Try.results28,go_sem,a0,a1,a2,a3,a4,a5,a6,a7,b0,b1,b2,b3,b4,b5,b6,b7]
    exact ⟨rfl,rfl⟩
end Go.Am.Cha
