/-
 Channels: Feed of a frame that is taken, the first of its channel. Own work.
-/
import Derived.Test.YtlgpalokjckdcaaChaGI
namespace Go.Am.Cha
open Go Go.Am Go.Am.Lib Go.Lib Go.Proofs Go.RowKit
open Go.Am.Own
open Go.Am.Tmf (getTE gFr datT gWd by2N)
set_option maxRecDepth 100000

variable {sb:Nat} {w:World} {D:Dm}
set_option maxHeartbeats 40000000 in
theorem dfeed_first {N:Nat} (hN:N ≤ 500) (hk:w.heap[sb]? = some (.cells (dmC D) 74 (0,0))) (ok:OkD N D) (s:ByteArray) (hs:s.size ≤ 2 ^ 40) (he:getTE s = 0) (hx:fC s = D.craft ∧ (datT s).size = D.size) (hd:(D.sk (fK s)).kn = false) :
 Calls Try.prog 11 #[.pointer (some ⟨sb,0,none⟩),.string s] w (Fed sb w (({ D with kn:=true,ms:=fM s }:Dm).put (fK s) (fieldS D s).1) ⟨fK s,false,lostN D s,missN D s,(fieldS D s).2.2,(fieldS D s).2.1,gWd s⟩ 0):=by
 have h1:=Fz.new hk
 obtain ⟨W1,hW1⟩:∃ W1,w.alloc (.cells #[.int .i64 0,.bool false,.int .i64 0,.int .i64 0,.slice none 0 0,.int .i64 0,.int .u32 0] 33) = W1:=⟨_,rfl⟩
 rw [show w.alloc (.cells zC 33) = W1 from hW1] at h1
 have c1:=(dm_cells h1.sk).2.1
 have ht:=getF_ok s hs he W1
 obtain ⟨ok1,ok2,ok3,ok4,ok5⟩:=ok
 have hn0:((D.size:Nat):Int) ≠ 0:=by omega
 obtain ⟨-,-,hkk,hxM8,hxN8,hxF8,hxD1,hxD2,-⟩:=get_ok he
 obtain ⟨ok6,ok7⟩:=ok5 _ hkk
 unfold fieldS nowS lostN missN
 obtain ⟨xC,hxC⟩:∃ x,fC s = x:=⟨_,rfl⟩
 obtain ⟨xK,hxK⟩:∃ x,fK s = x:=⟨_,rfl⟩
 obtain ⟨xM,hxM⟩:∃ x,fM s = x:=⟨_,rfl⟩
 obtain ⟨xN,hxN⟩:∃ x,fN s = x:=⟨_,rfl⟩
 obtain ⟨xF,hxF⟩:∃ x,fF s = x:=⟨_,rfl⟩
 obtain ⟨xW,hxW⟩:∃ x,gWd s = x:=⟨_,rfl⟩
 obtain ⟨xD,hxD⟩:∃ x,datT s = x:=⟨_,rfl⟩
 rw [hxC,hxK,hxM,hxN,hxF,hxW,hxD] at ht
 rw [hxC,hxD] at hx
 rw [hxK] at hd hkk ok6 ok7
 rw [hxM] at hxM8
 rw [hxN] at hxN8
 rw [hxF] at hxF8
 rw [hxD] at hxD1 hxD2
 simp only [hxK,hxM,hxN,hxF,hxW,hxD]
 clear hxC hxK hxM hxN hxF hxW hxD ok5 he
 obtain ⟨X,hX⟩:∃ X,D.sk xK = X:=⟨_,rfl⟩
 rw [hX] at hd ok6 ok7
 simp only [hX]
 obtain ⟨mi,hmi⟩:∃ m,(if D.kn = true then behindN xM D.ms else 0) = m:=⟨_,rfl⟩
 rw [hmi]
 obtain ⟨lo,hlo⟩:∃ m,(if X.kn = true then behindN xN X.ct else 0) = m:=⟨_,rfl⟩
 rw [hlo]
 obtain ⟨⟨x3,b3⟩,h3m⟩:∃ m,cutM ⟨true,s,xN,X.bg,X.pt⟩ lo = m:=⟨_,rfl⟩
 simp only [h3m]
 obtain ⟨⟨x4,b4,L4⟩,h4m⟩:∃ m,(if xF = 2046 then (x3,b3,[]) else takeM x3 xF xD b3 []) = m:=⟨_,rfl⟩
 simp only [h4m]
 unfold Fed
 have hb1:(((xC:Nat):Int) != ((D.craft:Nat):Int)) = false:=by simp;omega
 have hb2:(((xD.size:Nat):Int) != ((D.size:Nat):Int)) = false:=by simp;omega
 clear hx
 go_enter Try.func11,Try.ntmps11
 go_wp2_with (go_at_call 29;refine ht.mono ?_;clear ht;rintro e W2 ⟨rfl,b2⟩;have h3:=Fg.new (h1.below b2) #[.int .i64 ((xC:Nat):Int),.int .i64 ((xK:Nat):Int),.int .i64 ((xM:Nat):Int),.int .i64 ((xN:Nat):Int),.int .i64 ((xF:Nat):Int),.string xD,.int .u32 ((xW:Nat):Int)];obtain ⟨W3,hW3⟩:∃ W3,W2.alloc (.cells #[.int .i64 ((xC:Nat):Int),.int .i64 ((xK:Nat):Int),.int .i64 ((xM:Nat):Int),.int .i64 ((xN:Nat):Int),.int .i64 ((xF:Nat):Int),.string xD,.int .u32 ((xW:Nat):Int)] 85) = W3:=⟨_,rfl⟩;rw [hW3] at h3;obtain ⟨d0,d1,d2,d3⟩:=dm_cells h3.z.sk;have f0:=cell_of (o:=0) h3.f;have f1:=cell_of (o:=1) h3.f;have f5:=cell_of (o:=5) h3.f;have f6:=cell_of (o:=6) h3.f;have HZ:=Lib.hid h3;clear h1 h3 c1)
 go_region
 have h4:=Fd.new HZ.out #[.int .i64 ((xK:Nat):Int),.bool false,.int .i64 0,.int .i64 0,.slice none 0 0,.int .i64 0,.int .u32 ((xW:Nat):Int)]
 obtain ⟨W4,hW4⟩:∃ W4,W3.alloc (.cells #[.int .i64 ((xK:Nat):Int),.bool false,.int .i64 0,.int .i64 0,.slice none 0 0,.int .i64 0,.int .u32 ((xW:Nat):Int)] 33) = W4:=⟨_,rfl⟩
 rw [hW4] at h4
 obtain ⟨e1,e2,e3,e4,e5,e6⟩:=h4.cells
 have g1:W4.cell? ⟨W2.heap.size,1,none⟩ = some (.int .i64 ((xK:Nat):Int)):=e2 1
 go_wp2
 go_region
 obtain ⟨Bf,hBf⟩:∃ B,W2.heap.size = B:=⟨_,rfl⟩
 obtain ⟨Bo,hBo⟩:∃ B,W3.heap.size = B:=⟨_,rfl⟩
 obtain ⟨V0,hV0⟩:∃ V,W4.drew.drew = V:=⟨_,rfl⟩
 have h5:=h4.drew.drew
 rw [hBf,hBo,hV0] at h5 ⊢
 clear h4 hV0 hBf hBo hW4 hW1 hW3 HZ g1 e1 e2 e3 e4 e5 e6 d0 d1 d2 d3 f0 f1 f5 f6 hb1 hb2 hk
 obtain ⟨q0,q1,q2,q3,q4⟩:=sk_cells hkk h5.sk
 obtain ⟨d0,d1,d2,d3⟩:=dm_cells h5.sk
 rw [hX] at q0 q1 q2 q3 q4
 obtain ⟨kv,hkv⟩:∃ u,Value.bool D.kn = u:=⟨_,rfl⟩
 rw [hkv] at d2
 rw [hd] at q0
 go_wp2
 rename_i K1 hK1
 have hrest1:∀ (V:World),Fd sb w Bf Bo (dmC D) #[.int .i64 ((xC:Nat):Int),.int .i64 ((xK:Nat):Int),.int .i64 ((xM:Nat):Int),.int .i64 ((xN:Nat):Int),.int .i64 ((xF:Nat):Int),.string xD,.int .u32 ((xW:Nat):Int)] #[.int .i64 ((xK:Nat):Int),.bool false,.int .i64 0,.int .i64 ((mi:Nat):Int),.slice none 0 0,.int .i64 0,.int .u32 ((xW:Nat):Int)] V → ∀ u2 u3 u5 u7 u10 u11 u12 u13 u14 u15 u16 u17 u18 u19 u20 u21 u22 u23 u24 u25 u26 u27 u28 u29 u30 u31 u32 u33 u34 u35 u36 u37 u38 u39 u40 u41 u42 u43 u44 u45 u46 u47 u48 u49 u50 u51 u52 u53 u54 u55 u56 u57 u58 u59 u60 u61 u62 u63 u64 u65 u66 u67 u68 u69 u70 u71 u72 u73 u74 u75 u76 u77 u78 u79 u80 u81 u82 u83 u84 u85 u86 u87 u88 u89 u90 u91 u92 u93 u94 u95 u96 u97 u98 u99 u100 u101 u102 u103 u104 u105 u106 u107 u108 u109 u110 u111 u112 u113 u114 u115 u116 u117 u118 u119 u120 u121 u122 u123 u124 u125 u126 u127 u128 u129 u130 u131 u132 u133 u134 u135 u136 u137 u138 u139 u140 u141 u142:Value, K1 ⟨#[.pointer (some ⟨sb,0,none⟩),.string s,u2,u3,.pointer (some ⟨w.heap.size,0,none⟩),u5,.pointer (some ⟨Bf,0,none⟩),u7,.pointer (some ⟨Bo,0,none⟩),.pointer (some ⟨sb,4 + xK * 5,none⟩),u10,u11,u12,u13,u14,u15,u16,u17,u18,u19,u20,u21,u22,u23,u24,u25,u26,u27,u28,u29,u30,u31,u32,u33,u34,u35,u36,u37,u38,u39,u40,u41,u42,u43,u44,u45,u46,u47,u48,u49,u50,u51,u52,u53,u54,u55,u56,u57,u58,u59,u60,u61,u62,u63,u64,u65,u66,u67,u68,u69,u70,u71,u72,u73,u74,u75,u76,u77,u78,u79,u80,u81,u82,u83,u84,u85,u86,u87,u88,u89,u90,u91,u92,u93,u94,u95,u96,u97,u98,u99,u100,u101,u102,u103,u104,u105,u106,u107,u108,u109,u110,u111,u112,u113,u114,u115,u116,u117,u118,u119,u120,u121,u122,u123,u124,u125,u126,u127,u128,u129,u130,u131,u132,u133,u134,u135,u136,u137,u138,u139,u140,u141,u142],[]⟩ V:=by
  clear h5 q0 q1 q2 q3 q4 d0 d1 d2 d3 hkv
  intro V h5 u2 u3 u5 u7 u10 u11 u12 u13 u14 u15 u16 u17 u18 u19 u20 u21 u22 u23 u24 u25 u26 u27 u28 u29 u30 u31 u32 u33 u34 u35 u36 u37 u38 u39 u40 u41 u42 u43 u44 u45 u46 u47 u48 u49 u50 u51 u52 u53 u54 u55 u56 u57 u58 u59 u60 u61 u62 u63 u64 u65 u66 u67 u68 u69 u70 u71 u72 u73 u74 u75 u76 u77 u78 u79 u80 u81 u82 u83 u84 u85 u86 u87 u88 u89 u90 u91 u92 u93 u94 u95 u96 u97 u98 u99 u100 u101 u102 u103 u104 u105 u106 u107 u108 u109 u110 u111 u112 u113 u114 u115 u116 u117 u118 u119 u120 u121 u122 u123 u124 u125 u126 u127 u128 u129 u130 u131 u132 u133 u134 u135 u136 u137 u138 u139 u140 u141 u142
  refine hK1 _ _ ?_
  clear hK1
  obtain ⟨q0,q1,q2,q3,q4⟩:=sk_cells hkk h5.sk
  obtain ⟨d0,d1,d2,d3⟩:=dm_cells h5.sk
  obtain ⟨e1,e2,e3,e4,e5,e6⟩:=h5.cells
  rw [hX] at q0 q1 q2 q3 q4
  rw [hd] at q0
  have f2:=e2 2
  clear e1 e2 e3
  have n1:=h5.n1
  have n2:=h5.n2
  have n3:=h5.n3
  have m1:sb ≠ Bf:=by omega
  have m2:sb ≠ Bo:=by omega
  have m3:Bf ≠ Bo:=by omega
  have m4:w.heap.size ≠ Bo:=by omega
  have m5:Bf ≠ sb:=by omega
  have h6:=(h5.setS 2 (.bool true)).setS 3 (.int .i64 ((xM:Nat):Int))
  rw [dmC_kn,dmC_ms] at h6
  obtain ⟨D1,hD1⟩:∃ D1:Dm,({ D with kn:=true,ms:=xM }:Dm) = D1:=⟨_,rfl⟩
  have hX1:D1.sk xK = X:=by rw [← hD1];exact hX
  rw [hD1] at h6
  have H6:=Lib.hid h6
  have HD1:=Lib.hid hD1
  clear h5 h6 hD1
  go_wp2
  go_region
  have h6:=H6.out.drew
  obtain ⟨V1,hV1⟩:∃ V1,((V.setCell ⟨sb,2,none⟩ (.bool true)).setCell ⟨sb,3,none⟩ (.int .i64 ((xM:Nat):Int))).drew = V1:=⟨_,rfl⟩
  rw [hV1] at h6 ⊢
  clear H6 hV1 d0 d1 d2 d3 f2 e4
  have e4:=h6.cells.2.2.2.1
  have f3:V1.cell? ⟨Bf,3,none⟩ = some (.int .i64 ((xN:Nat):Int)):=cell_of h6.f
  have hcl:=fun (hq:s.size ≤ 2 ^ 47)=>clone_calls s hq V1.drew
  replace hcl:=hcl (by omega)
  have H6:=Lib.hid h6.drew
  clear h6
  have hDX:=Lib.hid (show D1 = D1.put xK X from by rw [← hX1];exact (Dm.put_self D1 xK).symm)
  go_wp2
  apply region_cut (R:=fun W=>Fd sb w Bf Bo (dmC (D1.put xK ⟨true,s,xN,X.bg,X.pt⟩)) #[.int .i64 ((xC:Nat):Int),.int .i64 ((xK:Nat):Int),.int .i64 ((xM:Nat):Int),.int .i64 ((xN:Nat):Int),.int .i64 ((xF:Nat):Int),.string xD,.int .u32 ((xW:Nat):Int)] #[.int .i64 ((xK:Nat):Int),.bool false,.int .i64 0,.int .i64 ((mi:Nat):Int),.slice none 0 0,.int .i64 0,.int .u32 ((xW:Nat):Int)] W)
  case h =>
   go_region_law (refine step_call1 (by rfl) 31 _ _ (by rfl) (.string s) (by rfl) clone_enter (.string s) hcl ?_;intro W6 b6;have h7:=H6.out.below b6;obtain ⟨q0,q1,q2,q3,q4⟩:=sk_cells hkk h7.sk;have f3':W6.cell? ⟨Bf,3,none⟩ = some (.int .i64 ((xN:Nat):Int)):=cell_of h7.f;have e4':=h7.cells.2.2.2.1)
   all_goals
    have h8:=((h7.setS (4 + xK * 5) (.bool true)).setS (4 + xK * 5 + 1) (.string s)).setS (4 + xK * 5 + 2) (.int .i64 ((xN:Nat):Int))
    rw [hDX.out,put0 D1 hkk,put1 D1 hkk,put2 D1 hkk] at h8
    exact ⟨rfl,h8⟩
  case h2 =>
   intro V2 h7
   clear H6 hcl e4 f3 hDX hX1 hX
   have hl0:lo = 0:=by rw [if_neg (by rw [hd];decide)] at hlo;exact hlo.symm
   have hb30:x3 = ⟨true,s,xN,X.bg,X.pt⟩ ∧ b3 = 0:=by
    unfold cutM at h3m
    rw [if_neg (by rw [hl0];simp)] at h3m
    injection h3m with g1 g2
    exact ⟨g1.symm,g2.symm⟩
   obtain ⟨hx3,hb3⟩:=hb30
   rw [← hx3] at h7
   replace h7:Fd sb w Bf Bo (dmC (D1.put xK x3)) #[.int .i64 ((xC:Nat):Int),.int .i64 ((xK:Nat):Int),.int .i64 ((xM:Nat):Int),.int .i64 ((xN:Nat):Int),.int .i64 ((xF:Nat):Int),.string xD,.int .u32 ((xW:Nat):Int)] #[.int .i64 ((xK:Nat):Int),.bool false,.int .i64 ((lo:Nat):Int),.int .i64 ((mi:Nat):Int),.slice none 0 0,.int .i64 ((b3:Nat):Int),.int .u32 ((xW:Nat):Int)] V2:=by rw [hl0,hb3];exact h7
   have hps:x3.bg = true → x3.pt.size ≤ 100000:=by rw [hx3];exact fun _=>(show X.pt.size ≤ 100000 by omega)
   have hbr:b3 ≤ 1:=by omega
   have hlb:(((lo:Nat):Int) != 0) = false:=by rw [hl0];rfl
   clear hlo h3m hl0 hx3 hb3

   obtain ⟨z0,z1,z2,z3,z4,z5,z6⟩:=arr_cells (A:=arr0) h7.z
   have z7:=fz_of h7.z
   obtain ⟨p0,p1,p2,p3,p4,p5,p6⟩:=arr_cells (A:=⟨xK,false,lo,mi,[],b3,xW⟩) (v:=.slice none 0 0) h7.o
   have f0:V2.cell? ⟨Bf,0,none⟩ = some (.int .i64 ((xC:Nat):Int)):=cell_of h7.f
   have f1:V2.cell? ⟨Bf,1,none⟩ = some (.int .i64 ((xK:Nat):Int)):=cell_of h7.f
   have f2:V2.cell? ⟨Bf,2,none⟩ = some (.int .i64 ((xM:Nat):Int)):=cell_of h7.f
   have f3:V2.cell? ⟨Bf,3,none⟩ = some (.int .i64 ((xN:Nat):Int)):=cell_of h7.f
   have f4:V2.cell? ⟨Bf,4,none⟩ = some (.int .i64 ((xF:Nat):Int)):=cell_of h7.f
   have f5:V2.cell? ⟨Bf,5,none⟩ = some (.string xD):=cell_of h7.f
   have f6:V2.cell? ⟨Bf,6,none⟩ = some (.int .u32 ((xW:Nat):Int)):=cell_of h7.f
   by_cases hF:xF = 2046
   · rw [if_pos hF] at h4m
     have hFb:(((xF:Nat):Int) != 2046) = false:=by simp;omega
     have H7:=Lib.hid h7
     clear h7 hF
     go_wp2
     obtain ⟨rfl,rfl,rfl⟩:x3 = x4 ∧ b3 = b4 ∧ [] = L4:=by simpa using h4m
     rw [HD1.out]
     exact out_end0 (A:=⟨xK,false,lo,mi,[],b3,xW⟩) (v:=.slice none 0 0) H7.out (World.ownsRow_nil _ _ _ _) (by rfl) (by rfl) (by rfl)
   · rw [if_neg hF] at h4m
     have hFb:(((xF:Nat):Int) != 2046) = true:=by simp;omega
     have ht:=take_fd hkk (x:=x3) (first:=xF) (br:=b3) (data:=xD) (crf:=((xC:Nat):Int)) (ch:=((xK:Nat):Int)) (mst:=((xM:Nat):Int)) (cnt:=((xN:Nat):Int)) (wd:=.int .u32 ((xW:Nat):Int)) h7 hps hbr hxF8 (by omega)
     rw [h4m] at ht
     unfold frV at ht
     clear h7 hF h4m
     go_wp2_with (go_at_call 32;refine ht.mono ?_;clear ht z0 z1 z2 z3 z4 z5 z6 z7 p0 p1 p2 p3 p4 p5 p6;rintro e W8 ⟨rfl,v8,h8,r8⟩;obtain ⟨oo,oc,rfl⟩:=ownsRow_slice r8;obtain ⟨z0,z1,z2,z3,z4,z5,z6⟩:=arr_cells (A:=arr0) h8.z;have z7:=fz_of h8.z;obtain ⟨p0,p1,p2,p3,p4,p5,p6⟩:=arr_cells h8.o;have H8:=Lib.hid (And.intro h8 r8);clear h8 r8)
     rw [HD1.out]
     exact out_end0 (A:=⟨xK,false,lo,mi,L4,b4,xW⟩) (v:=.slice oo L4.length oc) H8.out.1 H8.out.2 (by rfl) (by rfl) (by rfl)
 have f2:V0.cell? ⟨Bf,2,none⟩ = some (.int .i64 ((xM:Nat):Int)):=cell_of h5.f
 have r3:V0.cell? ⟨Bo,3,none⟩ = some (.int .i64 0):=cell_of h5.o
 have r4:=fz_of h5.o
 have HR:=Lib.hid hrest1
 have HK:=Lib.hid h5
 clear hrest1 hK1 h5 q0 q1 q2 q3 q4 d0 d1
 cases hkb:D.kn with
 | false =>
  rw [hkb] at hkv
  subst hkv
  have hm0:mi = 0:=by rw [if_neg (by rw [hkb];decide)] at hmi;exact hmi.symm
  subst hm0
  go_wp2
  exact HR.out _ HK.out _ _ _ _ _ _ _ _ _ _ _ _ _ _ _ _ _ _ _ _ _ _ _ _ _ _ _ _ _ _ _ _ _ _ _ _ _ _ _ _ _ _ _ _ _ _ _ _ _ _ _ _ _ _ _ _ _ _ _ _ _ _ _ _ _ _ _ _ _ _ _ _ _ _ _ _ _ _ _ _ _ _ _ _ _ _ _ _ _ _ _ _ _ _ _ _ _ _ _ _ _ _ _ _ _ _ _ _ _ _ _ _ _ _ _ _ _ _ _ _ _ _ _ _ _ _ _ _ _ _ _ _ _ _ _ _ _
 | true =>
  rw [hkb] at hkv
  subst hkv
  have hm1:behindN xM D.ms = mi:=by rw [if_pos hkb] at hmi;exact hmi
  have hbc:=behind_calls hxM8 ok4 V0.drew
  rw [hm1] at hbc
  have h6:=HK.out.drew.setO 3 (.int .i64 ((mi:Nat):Int))
  have H6:=Lib.hid h6
  clear h6 HK
  go_wp2
  apply region_cut (R:=fun W=>Fd sb w Bf Bo (dmC D) #[.int .i64 ((xC:Nat):Int),.int .i64 ((xK:Nat):Int),.int .i64 ((xM:Nat):Int),.int .i64 ((xN:Nat):Int),.int .i64 ((xF:Nat):Int),.string xD,.int .u32 ((xW:Nat):Int)] #[.int .i64 ((xK:Nat):Int),.bool false,.int .i64 0,.int .i64 ((mi:Nat):Int),.slice none 0 0,.int .i64 0,.int .u32 ((xW:Nat):Int)] W)
  case h =>
   go_region_with (go_at_call 30;refine hbc.mono ?_;rintro e W6 ⟨rfl,rfl⟩)
   all_goals exact ⟨rfl,H6.out⟩
  case h2 =>
   intro V1 h7
   exact HR.out _ h7 _ _ _ _ _ _ _ _ _ _ _ _ _ _ _ _ _ _ _ _ _ _ _ _ _ _ _ _ _ _ _ _ _ _ _ _ _ _ _ _ _ _ _ _ _ _ _ _ _ _ _ _ _ _ _ _ _ _ _ _ _ _ _ _ _ _ _ _ _ _ _ _ _ _ _ _ _ _ _ _ _ _ _ _ _ _ _ _ _ _ _ _ _ _ _ _ _ _ _ _ _ _ _ _ _ _ _ _ _ _ _ _ _ _ _ _ _ _ _ _ _ _ _ _ _ _ _ _ _ _ _ _ _ _ _ _ _
end Go.Am.Cha
