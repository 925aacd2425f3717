/-
 Channels: ChannelsWhole: its arguments. Own work; printed by a program.
-/
import Derived.Test.YtlgpalokjckdcaaChaWx
import Derived.Test.YtlgpalokjckdcaaAmY
namespace Go.Am.Cha
open Go Go.Am Go.Am.Lib Go.Lib Go.Proofs Go.RowKit
open Go.ChangeShapes Go.WideShapes
open Go.Am.Own
set_option maxRecDepth 100000

theorem whole_walk {w0:World} (c z:Int) (P Q:Nat → Int) (ao bo:Option Addr) (n cap m cap2:Nat) (hcs:LdM w0 ao n) (htw:TwM w0 bo m) :
 Calls Try.prog 4 #[.agg (setC c z P Q),.slice ao n cap,.slice bo m cap2] w0 fun e w'=>e = .returned (.bool true) ∧ Below w0.heap.size w0 w':=by
 by_cases hn:40 < n
 · exact whole_long c z P Q ao bo n cap m cap2 hn
 by_cases ho:okNew c z P Q
 · obtain ⟨h1,h2,h3,h4,h5⟩:=ho
   obtain ⟨c',rfl⟩:∃ k:Nat,c = (k:Int):=⟨c.toNat,by omega⟩
   obtain ⟨z',rfl⟩:∃ k:Nat,z = (k:Int):=⟨z.toNat,by omega⟩
   exact whole_yes c' z' P Q ao bo n cap m cap2 (by omega) (by omega) (by omega) (by omega) h5 hcs htw
 · exact whole_no c z P Q ao bo n cap m cap2 (by omega) ho
/-- What a mux is made with, as a law is handed it. -/
theorem setting_inW {H:Type} {enc:TypeId × Value → H} {w:World} {r b0:_} {base:Nat} {spare:_} {held:_} {v:Value} {d:DataW H} {p:List MemPlace} (hv:Value.okWide Try.prog w r b0 40 v) (h:DataW.Trod enc Try.prog w base spare held 40 v d p) :
 ∃ (c z:Int) (P Q:Nat → Int),v = .agg (setC c z P Q):=by
 obtain ⟨⟨cs⟩,rfl⟩:=okWide_agg (.inl ⟨_,Try.underlying40⟩) hv
 obtain ⟨m,hm⟩:=h
 obtain ⟨xs,m',_,_,hlen,hxl,hf⟩:=DataW.trod_struct Try.underlying40 hm
 have hC:Try.prog.cellsOf 40 = 18:=by kernel_rfl
 have hC3:Try.prog.cellsOf 3 = 1:=by kernel_rfl
 have hC8:Try.prog.cellsOf 38 = 8:=by kernel_rfl
 replace hlen:cs.length = 18:=by rw [← hC];exact hlen
 replace hxl:xs.length = 4:=hxl
 obtain ⟨a0,a1,a2,a3,a4,a5,a6,a7,a8,a9,a10,a11,a12,a13,a14,a15,a16,a17,rfl⟩:∃ a0 a1 a2 a3 a4 a5 a6 a7 a8 a9 a10 a11 a12 a13 a14 a15 a16 a17,cs = [a0,a1,a2,a3,a4,a5,a6,a7,a8,a9,a10,a11,a12,a13,a14,a15,a16,a17]:=by
  match cs,hlen with
  | [a0,a1,a2,a3,a4,a5,a6,a7,a8,a9,a10,a11,a12,a13,a14,a15,a16,a17],_=>exact ⟨a0,a1,a2,a3,a4,a5,a6,a7,a8,a9,a10,a11,a12,a13,a14,a15,a16,a17,rfl⟩
 have f0:=hf 0 _ rfl
 have f1:=hf 1 _ rfl
 have f2:=hf 2 _ rfl
 have f3:=hf 3 _ rfl
 rw [List.getElem?_eq_getElem (by omega)] at f0 f1 f2 f3
 have g0:∃ y,DataW.trod enc Try.prog w base spare held m' 3 [a0] = some y:=⟨_,(congrArg (fun q=>DataW.trod enc Try.prog w base spare held m' 3 q) (show [a0] = List.take (Try.prog.cellsOf 3) (List.drop 0 [a0,a1,a2,a3,a4,a5,a6,a7,a8,a9,a10,a11,a12,a13,a14,a15,a16,a17]) from by rw [hC3];rfl)).trans f0⟩
 obtain ⟨_,g0⟩:=g0
 have g1:∃ y,DataW.trod enc Try.prog w base spare held m' 3 [a1] = some y:=⟨_,(congrArg (fun q=>DataW.trod enc Try.prog w base spare held m' 3 q) (show [a1] = List.take (Try.prog.cellsOf 3) (List.drop 1 [a0,a1,a2,a3,a4,a5,a6,a7,a8,a9,a10,a11,a12,a13,a14,a15,a16,a17]) from by rw [hC3];rfl)).trans f1⟩
 obtain ⟨_,g1⟩:=g1
 have g2:∃ y,DataW.trod enc Try.prog w base spare held m' 38 [a2,a3,a4,a5,a6,a7,a8,a9] = some y:=⟨_,(congrArg (fun q=>DataW.trod enc Try.prog w base spare held m' 38 q) (show [a2,a3,a4,a5,a6,a7,a8,a9] = List.take (Try.prog.cellsOf 38) (List.drop 2 [a0,a1,a2,a3,a4,a5,a6,a7,a8,a9,a10,a11,a12,a13,a14,a15,a16,a17]) from by rw [hC8];rfl)).trans f2⟩
 obtain ⟨_,g2⟩:=g2
 have g3:∃ y,DataW.trod enc Try.prog w base spare held m' 38 [a10,a11,a12,a13,a14,a15,a16,a17] = some y:=⟨_,(congrArg (fun q=>DataW.trod enc Try.prog w base spare held m' 38 q) (show [a10,a11,a12,a13,a14,a15,a16,a17] = List.take (Try.prog.cellsOf 38) (List.drop 10 [a0,a1,a2,a3,a4,a5,a6,a7,a8,a9,a10,a11,a12,a13,a14,a15,a16,a17]) from by rw [hC8];rfl)).trans f3⟩
 obtain ⟨_,g3⟩:=g3
 obtain ⟨c,q0,_,_⟩:=DataW.trod_int Try.underlying3 g0
 obtain ⟨z,q1,_,_⟩:=DataW.trod_int Try.underlying3 g1
 injection q0 with q0 _
 injection q1 with q1 _
 have arr:∀ {l:List Value} {x:_},DataW.trod enc Try.prog w base spare held m' 38 l = some x → ∀ i,i < 8 → ∃ n:Int,(l.drop i).take 1 = [.int .i64 n]:=by
  intro l x hl i hi
  obtain ⟨ys,m2,_,_,_,hyl,he⟩:=DataW.trod_array Try.underlying38 hl
  have e:=he i hi
  rw [hC3,Nat.mul_one,List.getElem?_eq_getElem (by omega)] at e
  obtain ⟨n,q,_,_⟩:=DataW.trod_int Try.underlying3 e
  exact ⟨n,q⟩
 obtain ⟨p0,e0⟩:=arr g2 0 (by decide)
 injection e0 with e0 _
 obtain ⟨p1,e1⟩:=arr g2 1 (by decide)
 injection e1 with e1 _
 obtain ⟨p2,e2⟩:=arr g2 2 (by decide)
 injection e2 with e2 _
 obtain ⟨p3,e3⟩:=arr g2 3 (by decide)
 injection e3 with e3 _
 obtain ⟨p4,e4⟩:=arr g2 4 (by decide)
 injection e4 with e4 _
 obtain ⟨p5,e5⟩:=arr g2 5 (by decide)
 injection e5 with e5 _
 obtain ⟨p6,e6⟩:=arr g2 6 (by decide)
 injection e6 with e6 _
 obtain ⟨p7,e7⟩:=arr g2 7 (by decide)
 injection e7 with e7 _
 obtain ⟨r0,s0⟩:=arr g3 0 (by decide)
 injection s0 with s0 _
 obtain ⟨r1,s1⟩:=arr g3 1 (by decide)
 injection s1 with s1 _
 obtain ⟨r2,s2⟩:=arr g3 2 (by decide)
 injection s2 with s2 _
 obtain ⟨r3,s3⟩:=arr g3 3 (by decide)
 injection s3 with s3 _
 obtain ⟨r4,s4⟩:=arr g3 4 (by decide)
 injection s4 with s4 _
 obtain ⟨r5,s5⟩:=arr g3 5 (by decide)
 injection s5 with s5 _
 obtain ⟨r6,s6⟩:=arr g3 6 (by decide)
 injection s6 with s6 _
 obtain ⟨r7,s7⟩:=arr g3 7 (by decide)
 injection s7 with s7 _
 refine ⟨c,z,fun k=>[p0,p1,p2,p3,p4,p5,p6,p7].getD k 0,fun k=>[r0,r1,r2,r3,r4,r5,r6,r7].getD k 0,?_⟩
 rw [q0,q1,e0,e1,e2,e3,e4,e5,e6,e7,s0,s1,s2,s3,s4,s5,s6,s7]
 rfl
end Go.Am.Cha
