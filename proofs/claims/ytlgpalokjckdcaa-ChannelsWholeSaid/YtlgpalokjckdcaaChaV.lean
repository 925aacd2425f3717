/-
 Channels: a sink's take walked. Own work.
-/
import Derived.Test.YtlgpalokjckdcaaChaGG
namespace Go.Am.Cha
open Go Go.Am Go.Am.Lib Go.Lib Go.Proofs Go.RowKit
open Go.Am.Own
set_option maxRecDepth 100000
attribute [local go_sem] Oper.semAt_some

theorem packets_in (n:Nat) (b:ByteArray) (k1 k2:Value) (w:World) :
 CallsIn Fence.wide n Try.prog 60 #[.string b,.func (.func 59) #[] #[k1,k2]] w fun e w'=>e = .returned (.func (.func 92) #[] #[.pointer (some ⟨w.heap.size,0,none⟩),.pointer (some ⟨w.heap.size + 1,0,none⟩)]) ∧
  w' = (w.alloc (.cells #[.string b] 9)).alloc (.cells #[.func (.func 59) #[] #[k1,k2]] 132):=by
 refine callsIn_of_wp Try.func60 rfl trivial ?_ rfl
 simp only [Try.ntmps60,List.size_toArray,List.length_cons,List.length_nil,Nat.reduceAdd,Nat.reduceSub,Array.replicate_succ,Array.replicate_zero,List.push_toArray,List.append_toArray,List.nil_append,List.cons_append]
 gi_wp2
 go_ret
 exact ⟨rfl,rfl⟩
theorem deliver_enter (args:Array Value) (w:World):(callFunc 58 args).run Try.prog w = .ok (.enter 58 args) w:=enter_of Try.func58 (by kernel_rfl) (by kernel_rfl) args w
/-- A call of a named function with three arguments, as one step of a region that draws. -/
theorem step_call3 {P:Program} {ops:Array Oper} {o:Oper} {a:Act} {w:World} {K:Act → World → Prop} {Q:Exit → Act → World → Prop} {E:Prop} (hgd:o.guard = none) (f:FuncId) (x y z:Operand) (t u s:TypeId)
 (ho:o.op = .call { callee:=.value (.func f),args:=#[x,y,z],argTypes:=#[t,u,s] }) (v1 v2 v3:Value) (h1:a.eval x = v1) (h2:a.eval y = v2) (h3:a.eval z = v3) (hent:∀ args w,(callFunc f args).run P w = .ok (.enter f args) w) (r:Value) {R:World → Prop} (c:Calls P f #[v1,v2,v3] w fun e w'=>e = .returned r ∧ R w') (h:∀ w',R w' → K (a.put o.dst r) w') :
 if Region.wanted o (yielded ops a.tmps) = true then Oper.wp P o a w K Q else E:=by
 have hw:Region.wanted o (yielded ops a.tmps) = true:=by simp [Region.wanted,hgd]
 rw [if_pos hw]
 unfold Oper.wp
 have hrun:(execOp a.eval o).run P w = .ok (.enter f #[v1,v2,v3]) w:=by
  rw [← hent #[v1,v2,v3] w,← h1,← h2,← h3]
  simp [execOp,ho,resolve,go_sem]
 rw [hrun,Oper.upon_enter]
 refine c.mono ?_
 rintro e w' ⟨rfl,hR⟩
 exact h w' hR
def OnA (A:Act) (R:World → Prop):Exit → Act → World → Prop
 | .normal,a,w=>a = A ∧ R w
 | _,_,_=>False
theorem region_cut {c:Code} {P:Program} {Q:Exit → Act → World → Prop} {a:Act} {w:World} {A:Act} {R:World → Prop} (h:c.wp P (OnA A R) a w) (h2:∀ w',R w' → Q .normal A w'):c.wp P Q a w:=wp_mono h fun e a' w' hq=>by
 cases e <;> first | exact hq.1 ▸ h2 _ hq.2 | exact hq.elim
/-- Behind the first part of take: what the sink holds, how many are broken, what has come. -/
def StepA (bg:Bool) (pt:ByteArray) (first so:Nat) (data:ByteArray) (cs:Array Value) (n:Nat) (L:List L8) (cs':Array Value) (n':Nat) (L':List L8):Prop :=
 (bg = false ∧ cs' = cs ∧ n' = n ∧ L' = L) ∨
 (bg = true ∧ ∃ part,part = pt ++ data.extract 0 (min first data.size) ∧
  (((Pkt.takeE part = 0 ∧ Pkt.pL part = part.size) ∧ cs' = (cs.setIfInBounds (so + 4) (.string part)).setIfInBounds (so + 3) (.bool false) ∧ n' = n ∧ L' = L ++ dlv part part) ∨
   (¬ (Pkt.takeE part = 0 ∧ Pkt.pL part = part.size) ∧ (Pkt.takeE part ≠ 4 ∨ first ≠ 2047) ∧ cs' = (cs.setIfInBounds (so + 4) (.string part)).setIfInBounds (so + 3) (.bool false) ∧ n' = n + 1 ∧ L' = L) ∨
   (Pkt.takeE part = 4 ∧ first = 2047 ∧ cs' = cs.setIfInBounds (so + 4) (.string part) ∧ n' = n ∧ L' = L)))
def endC (cs:Array Value) (so:Nat) (r:ByteArray):Array Value:=if r.size ≠ 0 ∧ Pkt.takeE r = 4 then (cs.setIfInBounds (so + 3) (.bool true)).setIfInBounds (so + 4) (.string r) else cs
def endN (n:Nat) (r:ByteArray):Nat:=if r.size ≠ 0 ∧ Pkt.takeE r ≠ 4 then n + 1 else n
/-- Behind take. -/
structure TkE (S:Nat → Prop) (sb ob:Nat) (cs:Array Value) (a0 a1 a2 a3 v a5 a6:Value) (L:List L8) (w w':World):Prop where
 ar:∃ S',Ar S' ob a0 a1 a2 a3 v a5 a6 L w' ∧ (∀ k,S' k → S k) ∧ ¬ S' sb
 sk:w'.heap[sb]? = some (.cells cs 74 (0,0))
 fr:FrS S w w'
variable {S:Nat → Prop} {w0 w w':World} {Z:Nat → Prop} {sb so ob B1 B2:Nat} {cs:Array Value} {a0 a1 a2 a3 v a5 a6:Value} {L:List L8}
theorem Tk.ends (h:Tk S w0 Z sb so ob B1 B2 cs a0 a1 a2 a3 v a5 a6 L w):TkE S sb ob cs a0 a1 a2 a3 v a5 a6 L w0 w:=by
 obtain ⟨S',h1,h2,h3⟩:=h.ar
 exact ⟨⟨S',h1,h2,h3 _ h.z1.1⟩,h.sk,h.fr⟩
theorem only_putObj {W:World} {l:Nat} {o':Obj}:OnlyB l W (W.putObj l o'):=⟨rfl,rfl,rfl,World.putObj_size,fun _ hk=>World.putObj_heap_other hk⟩
def frV (crf ch mst cnt:Int) (first:Nat) (data:ByteArray) (wd:Value):Array Value:=#[.int .i64 crf,.int .i64 ch,.int .i64 mst,.int .i64 cnt,.int .i64 ((first:Nat):Int),.string data,wd]
set_option maxHeartbeats 3200000 in
theorem take_wp {n:Nat} {S':Nat → Prop} (h:Ar S' ob a0 a1 a2 a3 v (.int .i64 ((n:Nat):Int)) a6 L w) (hsub:∀ k,S' k → S k) (hns:¬ S' sb) (hsk:w.heap[sb]? = some (.cells cs 74 (0,0))) (hS:∀ k,w.heap.size ≤ k → S k) (hSs:S sb) (hso:so + 4 < cs.size)
 (bg:Bool) (pt:ByteArray) (hbg:cs[so + 3]? = some (.bool bg)) (hpt:cs[so + 4]? = some (.string pt)) (hps:bg = true → pt.size ≤ 100000) (hn:n ≤ 100000) (hL:L.length ≤ 100000)
 (crf ch mst cnt:Int) (first:Nat) (data:ByteArray) (wd:Value) (_:first ≤ 2047) (hd:data.size ≤ 1000) :
 Calls Try.prog 32 #[.pointer (some ⟨sb,so,none⟩),.pointer (some ⟨ob,0,none⟩),.agg (frV crf ch mst cnt first data wd)] w fun e w'=>e = .returned (.tuple #[]) ∧ ∃ cs' n' L',StepA bg pt first so data cs n L cs' n' L' ∧
  (first = 2047 → ∃ v',TkE S sb ob cs' a0 a1 a2 a3 v' (.int .i64 ((n':Nat):Int)) a6 L' w w') ∧
  (first ≠ 2047 → ∃ v' xs r,parses (data.extract (min first data.size) data.size) = (xs,r) ∧ TkE S sb ob (endC (cs'.setIfInBounds (so + 4) (.string ⟨#[]⟩)) so r) a0 a1 a2 a3 v' (.int .i64 ((endN n' r:Nat):Int)) a6 (L' ++ came xs) w w'):=by
 refine (callsIn_wide (n:=9)).1 ?_
 unfold frV
 have hT:=Tk.make (so:=so) h hsub hns hsk hS hSs (.cells #[.int .i64 crf,.int .i64 ch,.int .i64 mst,.int .i64 cnt,.int .i64 ((first:Nat):Int),.string data,wd] 85)
 obtain ⟨W1,hW1⟩:∃ W1,((w.alloc (.cells #[.pointer (some ⟨sb,so,none⟩)] 88)).alloc (.cells #[.pointer (some ⟨ob,0,none⟩)] 91)).alloc (.cells #[.int .i64 crf,.int .i64 ch,.int .i64 mst,.int .i64 cnt,.int .i64 ((first:Nat):Int),.string data,wd] 85) = W1:=⟨_,rfl⟩
 have kf:W1.heap[w.heap.size + 2]? = some (.cells #[.int .i64 crf,.int .i64 ch,.int .i64 mst,.int .i64 cnt,.int .i64 ((first:Nat):Int),.string data,wd] 85 (0,0)):=by
  have:=heap_alloc_new ((w.alloc (.cells #[.pointer (some ⟨sb,so,none⟩)] 88)).alloc (.cells #[.pointer (some ⟨ob,0,none⟩)] 91)) (.cells #[.int .i64 crf,.int .i64 ch,.int .i64 mst,.int .i64 cnt,.int .i64 ((first:Nat):Int),.string data,wd] 85)
  rw [hW1,alloc_size,alloc_size] at this
  exact this
 rw [hW1] at hT
 obtain ⟨y1,y2,y3,y4,y5,y6,y7⟩:=hT.cells
 have f4:W1.cell? ⟨w.heap.size + 2,4,none⟩ = some (.int .i64 ((first:Nat):Int)):=cell_of kf
 have f5:W1.cell? ⟨w.heap.size + 2,5,none⟩ = some (.string data):=cell_of kf
 refine callsIn_of_wp_marks Try.func32 rfl trivial ?_ rfl
 simp only [Try.ntmps32,List.size_toArray,List.length_cons,List.length_nil,Nat.reduceAdd,Nat.reduceSub,Array.replicate_succ,Array.replicate_zero,List.push_toArray,List.append_toArray,List.nil_append,List.cons_append]
 obtain ⟨bv,hbv⟩:∃ u,Value.bool bg = u:=⟨_,rfl⟩
 have y8:W1.cell? ⟨sb,so + 3,none⟩ = some bv:=by rw [← hbv];exact (y6 _).trans hbg
 have y9:W1.cell? ⟨sb,so + 4,none⟩ = some (.string pt):=(y6 _).trans hpt
 clear y6
 obtain ⟨mn,hmn⟩:∃ m:Nat,min first data.size = m:=⟨_,rfl⟩
 have hmi:min ((first:Nat):Int) ((data.size:Nat):Int) = ((mn:Nat):Int):=by omega
 have hml:mn ≤ data.size:=by omega
 gi_wp2
 rename_i K hK
 obtain ⟨B1,hB1⟩:∃ B1,w.heap.size = B1:=⟨_,rfl⟩
 rw [hB1] at hT kf y1 y2 f4 f5 y7 ⊢
 have hrest:∀ (cs':Array Value) (n':Nat) (v':Value) (L':List L8) (W':World),StepA bg pt first so data cs n L cs' n' L' → Tk S w (fun k=>((k = sb ∨ k = B1) ∨ k = B1 + 1) ∨ k = B1 + 2) sb so ob B1 (B1 + 1) cs' a0 a1 a2 a3 v' (.int .i64 ((n':Nat):Int)) a6 L' W' → cs'.size = cs.size → n' ≤ 200000 → L'.length ≤ 200000 →
  W'.heap[B1 + 2]? = some (.cells #[.int .i64 crf,.int .i64 ch,.int .i64 mst,.int .i64 cnt,.int .i64 ((first:Nat):Int),.string data,wd] 85 (0,0)) →
  ∀ u7 u8 u9 u10 u11 u12 u13 u14 u15 u16 u17 u18 u19 u20 u21 u22 u23 u24 u25 u26 u27 u28 u29 u30 u31 u32 u33 u34 u35 u36 u37 u38 u39 u40 u41 u42 u43 u44 u45 u46 u47 u48 u49 u50 u51 u52 u53 u54 u55 u56 u57 u58 u59 u60 u61 u62 u63 u64 u65 u66 u67 u68 u69 u70 u71 u72 u73 u74 u75 u76 u77 u78 u79 u80 u81 u82 u83 u84 u85 u86 u87 u88 u89 u90 u91 u92 u93 u94 u95 u96 u97 u98 u99 u100 u101:Value,K ⟨#[.pointer (some ⟨sb,so,none⟩),.pointer (some ⟨ob,0,none⟩),.agg #[.int .i64 crf,.int .i64 ch,.int .i64 mst,.int .i64 cnt,.int .i64 ((first:Nat):Int),.string data,wd],.pointer (some ⟨B1,0,none⟩),.pointer (some ⟨B1 + 1,0,none⟩),.pointer (some ⟨B1 + 1 + 1,0,none⟩),.int .i64 ((mn:Nat):Int),u7,u8,u9,u10,u11,u12,u13,u14,u15,u16,u17,u18,u19,u20,u21,u22,u23,u24,u25,u26,u27,u28,u29,u30,u31,u32,u33,u34,u35,u36,u37,u38,u39,u40,u41,u42,u43,u44,u45,u46,u47,u48,u49,u50,u51,u52,u53,u54,u55,u56,u57,u58,u59,u60,u61,u62,u63,u64,u65,u66,u67,u68,u69,u70,u71,u72,u73,u74,u75,u76,u77,u78,u79,u80,u81,u82,u83,u84,u85,u86,u87,u88,u89,u90,u91,u92,u93,u94,u95,u96,u97,u98,u99,u100,u101],[]⟩ W':=by
  clear hT kf y1 y2 y3 y4 y5 y7 y8 y9 f4 f5 hW1
  intro cs' n' v' L' W' hA hT hcs hn' hL' kf u7 u8 u9 u10 u11 u12 u13 u14 u15 u16 u17 u18 u19 u20 u21 u22 u23 u24 u25 u26 u27 u28 u29 u30 u31 u32 u33 u34 u35 u36 u37 u38 u39 u40 u41 u42 u43 u44 u45 u46 u47 u48 u49 u50 u51 u52 u53 u54 u55 u56 u57 u58 u59 u60 u61 u62 u63 u64 u65 u66 u67 u68 u69 u70 u71 u72 u73 u74 u75 u76 u77 u78 u79 u80 u81 u82 u83 u84 u85 u86 u87 u88 u89 u90 u91 u92 u93 u94 u95 u96 u97 u98 u99 u100 u101
  refine hK _ _ ?_
  have f4:W'.cell? ⟨B1 + 2,4,none⟩ = some (.int .i64 ((first:Nat):Int)):=cell_of kf
  have f5:W'.cell? ⟨B1 + 2,5,none⟩ = some (.string data):=cell_of kf
  obtain ⟨x1,x2,x3,x4,x5,x6,x7⟩:=hT.cells
  by_cases h47:first = 2047
  · have h47':((first:Nat):Int) = 2047:=by omega
    have hE:=Lib.hid (And.intro hA hT.ends)
    clear hA hT x6
    rw [h47'] at f4
    gi_wp2
    exact ⟨.tuple #[],results_none rfl _ _ _,rfl,cs',n',L',hE.out.1,fun _=>⟨v',hE.out.2⟩,fun hh=>absurd h47 hh⟩
  · have h47':(((first:Nat):Int) == 2047) = false:=by simp;omega
    have h40:cs'[so + 4]? = some cs'[so + 4]:=Array.getElem?_eq_getElem (by omega)
    have x8:W'.cell? ⟨sb,so + 4,none⟩ = some cs'[so + 4]:=(x6 _).trans h40
    obtain ⟨W2,hW2⟩:∃ W2,W'.setCell ⟨sb,so + 4,none⟩ (.string ⟨#[]⟩) = W2:=⟨_,rfl⟩
    have hT2:=hT.setS (so + 4) (.string ⟨#[]⟩)
    rw [hW2] at hT2
    obtain ⟨hT2,ho2⟩:=hT2
    have hsf:B1 + 2 ≠ sb:=tne kf hT.sk (by decide)
    have kf2:=(ho2.rest _ hsf).trans kf
    have f6:W2.cell? ⟨B1 + 2,5,none⟩ = some (.string data):=cell_of kf2
    obtain ⟨cs2,hcs2⟩:∃ c,cs'.setIfInBounds (so + 4) (.string ⟨#[]⟩) = c:=⟨_,rfl⟩
    have hs2:cs2.size = cs.size:=by rw [← hcs2,Array.size_setIfInBounds];exact hcs
    rw [hcs2] at hT2
    clear x6 hT kf
    have hml':((mn:Nat):Int) ≤ ((data.size:Nat):Int):=by omega
    gi_wp2_with (refine ⟨trivial,?_⟩;gi_at_call 60;refine (packets_in 8 _ _ _ W2).mono ?_)
    rintro e W3 ⟨rfl,hW3⟩
    obtain ⟨Bb,hBb⟩:∃ B,W2.heap.size = B:=⟨_,rfl⟩
    rw [hBb]
    have hT3:=(hT2.fresh (.cells #[.string (data.extract mn data.size)] 9)).fresh (.cells #[.func (.func 59) #[] #[.pointer (some ⟨B1,0,none⟩),.pointer (some ⟨B1 + 1,0,none⟩)]] 132)
    have kb:W3.heap[Bb]? = some (.cells #[.string (data.extract mn data.size)] 9 (0,0)):=by
     rw [hW3,← hBb]
     exact ((Below.refl _ _).alloc (Nat.le_refl _) _ |>.block W2.heap.size (by rw [alloc_size];omega)).trans (heap_alloc_new W2 _)
    have kk:W3.heap[Bb + 1]? = some (.cells #[.func (.func 59) #[] #[.pointer (some ⟨B1,0,none⟩),.pointer (some ⟨B1 + 1,0,none⟩)]] 132 (0,0)):=by
     rw [hW3,← hBb]
     have:=heap_alloc_new (W2.alloc (.cells #[.string (data.extract mn data.size)] 9)) (.cells #[.func (.func 59) #[] #[.pointer (some ⟨B1,0,none⟩),.pointer (some ⟨B1 + 1,0,none⟩)]] 132)
     rw [alloc_size] at this
     exact this
    simp only [alloc_size] at hT3
    rw [hBb] at hT3
    rw [← hW3] at hT3
    obtain ⟨Z4,hZ4⟩:∃ Z:Nat → Prop,Z = fun k=>((((((k = sb ∨ k = B1) ∨ k = B1 + 1) ∨ k = B1 + 2)) ∨ k = Bb) ∨ k = Bb + 1):=⟨_,rfl⟩
    rw [← hZ4] at hT3
    have hlt1:sb < Bb ∧ B1 < Bb ∧ B1 + 1 < Bb:=by
     rw [← hBb]
     exact ⟨hT2.zl _ (.inl (.inl (.inl rfl))),hT2.zl _ (.inl (.inl (.inr rfl))),hT2.zl _ (.inl (.inr rfl))⟩
    have zb:Z4 Bb:=by rw [hZ4];exact .inl (.inr rfl)
    have zk:Z4 (Bb + 1):=by rw [hZ4];exact .inr rfl
    have hX:=hT3.zl
    obtain ⟨b0,hb0⟩:∃ b,data.extract mn data.size = b:=⟨_,rfl⟩
    have hbs:b0.size ≤ 1000:=by rw [← hb0,ByteArray.size_extract];omega
    rw [hb0] at kb
    clear hW3 hBb hT2 ho2 kf2 f6 x8 hZ4
    gi_wp2
    refine rf_law (α:=ByteArray) (F:=Fence.wide) (n:=9) rfl (by decide) (gf:=92) (lb:=#[.pointer (some ⟨Bb,0,none⟩),.pointer (some ⟨Bb + 1,0,none⟩)]) rfl trivial (enter_of Try.func92 (by kernel_rfl) (by kernel_rfl)) (encs:=encX) (fun x=>rfl)
     (fun pre x=>x = remOf b0 pre ∧ Goes x) (fun k=>k = Bb ∨ k = Bb + 1) ?hX
     (fun l D pre W=>Bb + 1 < l ∧ Bb + 1 < D ∧ Far b0 pre ∧ ∃ v',Tk S w (fun k=>(Z4 k ∨ k = D) ∨ k = l) sb so ob B1 (B1 + 1) cs2 a0 a1 a2 a3 v' (.int .i64 ((n':Nat):Int)) a6 (L' ++ came pre) W)
     (fun l D W=>Bb + 1 < l ∧ Bb + 1 < D ∧ ∃ v',Tk S w (fun k=>(Z4 k ∨ k = D) ∨ k = l) sb so ob B1 (B1 + 1) (endC cs2 so (parses b0).2) a0 a1 a2 a3 v' (.int .i64 ((endN n' (parses b0).2:Nat):Int)) a6 (L' ++ came (parses b0).1) W) ?hI0 ?hIp ?hFp ?hround ?hiter ?hdone
    case hX =>
     rintro k (rfl | rfl)
     · exact hX _ zb
     · exact hX _ zk
    case hI0 =>
     intro r
     have:=(hT3.fresh (.deferred (some []))).fresh (.loop r)
     simp only [alloc_size] at this
     have hs:=hX _ zk
     exact ⟨by omega,hs,Far.nil b0,_,by rw [show came [] = [] from rfl,List.append_nil];exact this⟩
    case hIp =>
     rintro l D pre W o o' ⟨g1,g2,g3,v2,g4⟩ hl
     refine ⟨g1,g2,g3,v2,g4.only (.inr rfl) ?_ ?_ ?_ (by omega) only_putObj⟩
     · intro e;rw [e,g4.sk] at hl;cases hl
     · intro e;rw [e,g4.b1] at hl;cases hl
     · intro e;rw [e,g4.b2] at hl;cases hl
    case hFp =>
     rintro l D W o o' ⟨g1,g2,v2,g4⟩ hl
     refine ⟨g1,g2,v2,g4.only (.inr rfl) ?_ ?_ ?_ (by omega) only_putObj⟩
     · intro e;rw [e,g4.sk] at hl;cases hl
     · intro e;rw [e,g4.b1] at hl;cases hl
     · intro e;rw [e,g4.b2] at hl;cases hl
    case hround =>
     rintro l D pre x W o hlD ⟨g1,g2,g3,v2,g4⟩ ⟨hx,hgo⟩ hl
     have hll:=(Array.getElem?_eq_some_iff.1 hl).1
     have hlen:=g3.len
     have hcl:=came_len pre
     have hxs:=g3.sz (by rw [← hx];exact hgo)
     rw [← hx] at hxs
     have hhs:=headB_size x
     have hfs:=g3.snoc (by rw [← hx];exact hgo)
     rw [← hx] at hfs
     have g5:=g4.below ((Below.refl _ W).alloc (Nat.le_refl _) (.cells #[.bool (Pkt.pC x),.int .i64 ((Pkt.pA x:Nat):Int),.int .i64 ((Pkt.pF x:Nat):Int),.int .i64 ((Pkt.pN x:Nat):Int),.string (Pkt.pD x)] 110))
     have k5:=heap_alloc_new W (.cells #[.bool (Pkt.pC x),.int .i64 ((Pkt.pA x:Nat):Int),.int .i64 ((Pkt.pF x:Nat):Int),.int .i64 ((Pkt.pN x:Nat):Int),.string (Pkt.pD x)] 110)
     have bl5:=((Below.refl _ W).alloc (Nat.le_refl _) (.cells #[.bool (Pkt.pC x),.int .i64 ((Pkt.pA x:Nat):Int),.int .i64 ((Pkt.pF x:Nat):Int),.int .i64 ((Pkt.pN x:Nat):Int),.string (Pkt.pD x)] 110))
     obtain ⟨W2,hW2⟩:∃ W2,W.alloc (.cells #[.bool (Pkt.pC x),.int .i64 ((Pkt.pA x:Nat):Int),.int .i64 ((Pkt.pF x:Nat):Int),.int .i64 ((Pkt.pN x:Nat):Int),.string (Pkt.pD x)] 110) = W2:=⟨_,rfl⟩
     rw [hW2] at g5 k5 bl5
     clear hx
     simp only [encX,pkV,Array.zip]
     gi_wp2
     refine ⟨bl5.size,fun k hk=>bl5.block k hk,fun o'=>?_⟩
     have hl2:=(bl5.block l hll).trans hl
     have g6:Tk S w (fun k=>(Z4 k ∨ k = D) ∨ k = l) sb so ob B1 (B1 + 1) cs2 a0 a1 a2 a3 v2 (.int .i64 ((n':Nat):Int)) a6 (L' ++ came pre) (W2.putObj l (.loop o')):=by
      refine g5.only (.inr rfl) ?_ ?_ ?_ (by omega) only_putObj
      · intro e;rw [e,g5.sk] at hl2;cases hl2
      · intro e;rw [e,g5.b1] at hl2;cases hl2
      · intro e;rw [e,g5.b2] at hl2;cases hl2
     have k6:=((only_putObj (W:=W2) (l:=l) (o':=.loop o')).rest W.heap.size (by omega)).trans k5
     obtain ⟨W4,hW4⟩:∃ W4,W2.putObj l (.loop o') = W4:=⟨_,rfl⟩
     rw [hW4] at g6 k6 ⊢
     have q0:W4.cell? ⟨W.heap.size,0,none⟩ = some (.bool (Pkt.pC x)):=cell_of k6
     have q1:W4.cell? ⟨W.heap.size,1,none⟩ = some (.int .i64 ((Pkt.pA x:Nat):Int)):=cell_of k6
     have q2:W4.cell? ⟨W.heap.size,2,none⟩ = some (.int .i64 ((Pkt.pF x:Nat):Int)):=cell_of k6
     have q3:W4.cell? ⟨W.heap.size,3,none⟩ = some (.int .i64 ((Pkt.pN x:Nat):Int)):=cell_of k6
     have q4:W4.cell? ⟨W.heap.size,4,none⟩ = some (.string (Pkt.pD x)):=cell_of k6
     have q5:=g6.cells.2.1
     have hdv:=g6.deliver (by rw [List.length_append];omega) x (headB x) (by omega)
     unfold pkV at hdv
     clear hW4 hW2 g5 k5 k6 g4
     gi_wp2
     refine ⟨trivial,(CallsIn.inRound l (callsIn_wide.2 hdv)).mono ?_⟩
     rintro e W5 ⟨rfl,⟨v5,g7⟩,kz⟩
     gi_wp2
     exact ⟨⟨v5,by rw [came_snoc,← List.append_assoc];exact g7⟩,⟨kz l (.inr rfl),kz D (.inl (.inr rfl))⟩,kz Bb (.inl (.inl zb)),kz (Bb + 1) (.inl (.inl zk))⟩
    case hiter =>
     rintro l D Wi hlD ⟨i1,i2,i3,vi,i4⟩ hold hY
     have hst:=fun {k:Nat} (hk:k = l ∨ k = D)=>(show k ≠ sb ∧ k ≠ Bb from by rcases hk with rfl | rfl <;> omega)
     refine (pk1_in 8 (by decide) l Bb (Bb + 1) b0 (by omega) (.pointer (some ⟨B1,0,none⟩)) (.pointer (some ⟨B1 + 1,0,none⟩))
      (fun pre W=>(Bb + 1 < l ∧ Bb + 1 < D ∧ Far b0 pre ∧ ∃ v',Tk S w (fun k=>(Z4 k ∨ k = D) ∨ k = l) sb so ob B1 (B1 + 1) cs2 a0 a1 a2 a3 v' (.int .i64 ((n':Nat):Int)) a6 (L' ++ came pre) W) ∧ Kept l D Wi W)
      (fun _ W=>(Bb + 1 < l ∧ Bb + 1 < D ∧ ∃ v',Tk S w (fun k=>(Z4 k ∨ k = D) ∨ k = l) sb so ob B1 (B1 + 1) (endC cs2 so (parses b0).2) a0 a1 a2 a3 v' (.int .i64 ((endN n' (parses b0).2:Nat):Int)) a6 (L' ++ came (parses b0).1) W) ∧ Kept l D Wi W)
      (by omega) ?hY ?hJb ?hJx ?hkeep ?hend Wi ⟨⟨i1,i2,i3,vi,i4⟩,Kept.refl l D Wi⟩ ?kb ?kk).mono ?_
     case hY =>
      rintro pre x W ⟨hi,hk⟩ hx hgo
      exact (hY pre x W hi ⟨hx,hgo⟩ hk).mono fun e W' hh=>⟨hh.1,⟨hh.2.1,hh.2.2.1⟩,hh.2.2.2 _ (.inl rfl),hh.2.2.2 _ (.inr rfl)⟩
     case hJb =>
      rintro pre W W' ⟨⟨g1,g2,g3,v2,g4⟩,hk⟩ hb
      have kz:=g4.kz hb
      exact ⟨⟨g1,g2,g3,v2,g4.below hb⟩,hk.trans ⟨kz l (.inr rfl),kz D (.inl (.inr rfl))⟩⟩
     case hJx =>
      rintro pre W v ⟨⟨g1,g2,g3,v2,g4⟩,hk⟩
      have ho:OnlyB Bb W (W.setCell ⟨Bb,0,none⟩ v):=(OnlyB.refl Bb W).setCell 0 v
      exact ⟨⟨g1,g2,g3,v2,g4.only (.inl (.inl zb)) (by omega) (by omega) (by omega) (by omega) ho⟩,hk.trans ⟨ho.rest l (by omega),ho.rest D (by omega)⟩⟩
     case hkeep =>
      rintro pre x W ⟨⟨g1,g2,g3,v2,g4⟩,hk⟩ hx hz hE
      have hng:¬ Goes (remOf b0 pre):=by rw [← hx];exact fun hg=>hE hg.2
      have hst:=g3.stop hng
      have hxs:x.size ≤ 1000:=by
       have h1:=congrArg (fun p=>p.2.size) hst
       have h2:(parses b0).2.size ≤ b0.size:=parse_left _ _
       rw [← hx] at h1
       have h3:(parses b0).2.size = x.size:=h1
       omega
      rw [← hx] at hst
      by_cases h4:Pkt.takeE x = 4
      · have hE1:endC cs2 so x = (cs2.setIfInBounds (so + 3) (.bool true)).setIfInBounds (so + 4) (.string x):=by unfold endC;rw [if_pos ⟨hz,h4⟩]
        have hE2:endN n' x = n':=by unfold endN;rw [if_neg (fun hh=>hh.2 h4)]
        rw [h4,hst,hE1,hE2]
        exact (keep_none g4 (by omega) x (by omega)).mono fun e W' hh=>⟨hh.1,⟨g1,g2,v2,hh.2.1⟩,hk.trans ⟨hh.2.2 l (.inr rfl) (by omega),hh.2.2 D (.inl (.inr rfl)) (by omega)⟩⟩
      · have hE1:endC cs2 so x = cs2:=by unfold endC;rw [if_neg (fun hh=>h4 hh.2)]
        have hE2:endN n' x = n' + 1:=by unfold endN;rw [if_pos ⟨hz,h4⟩]
        rw [hst,hE1,hE2]
        exact (keep_bad g4 (by omega) x (by simpa using h4)).mono fun e W' hh=>⟨hh.1,⟨g1,g2,v2,hh.2.1⟩,hk.trans ⟨hh.2.2 l (.inr rfl),hh.2.2 D (.inl (.inr rfl))⟩⟩
     case hend =>
      rintro pre W ⟨⟨g1,g2,g3,v2,g4⟩,hk⟩ hz
      have hst:=g3.stop (fun hg=>hg.1 hz)
      have hE1:endC cs2 so (remOf b0 pre) = cs2:=by unfold endC;rw [if_neg (fun hh=>hh.1 hz)]
      have hE2:endN n' (remOf b0 pre) = n':=by unfold endN;rw [if_neg (fun hh=>hh.1 hz)]
      rw [hst,hE1,hE2]
      exact ⟨⟨g1,g2,v2,g4⟩,hk⟩
     case kb=>exact (hold _ (hX _ zb)).trans kb
     case kk=>exact (hold _ (hX _ zk)).trans kk
     · rintro e W' ⟨hv,pre,hf,hk⟩
       exact ⟨hv,hf,hk⟩
    case hdone =>
     rintro D W ⟨g1,g2,v2,g4⟩ hD
     have hDl:=(Array.getElem?_eq_some_iff.1 hD).1
     have g5:=g4.only (w':=W.putObj D (.deferred none)) (.inl (.inr rfl)) (by omega) (by omega) (by omega) (by omega) only_putObj
     have hp:parses (data.extract (min first data.size) data.size) = ((parses b0).1,(parses b0).2):=by rw [hmn,hb0]
     refine ⟨by simp,.inl ⟨_,_,rfl,run_takeDeferred hD,?_⟩⟩
     exact ⟨.tuple #[],results_none rfl _ _ _,rfl,cs',n',L',hA,fun hh=>absurd hh h47,fun _=>⟨v2,(parses b0).1,(parses b0).2,hp,by rw [hcs2];exact g5.ends⟩⟩
 have HR:=Lib.hid hrest
 clear hrest hK
 cases bg with
 | false =>
  subst hbv
  gi_wp2
  exact HR.out cs n v L W1 (.inl ⟨rfl,rfl,rfl,rfl⟩) hT rfl (by omega) (by omega) kf _ _ _ _ _ _ _ _ _ _ _ _ _ _ _ _ _ _ _ _ _ _ _ _ _ _ _ _ _ _ _ _ _ _ _ _ _ _ _ _ _ _ _ _ _ _ _ _ _ _ _ _ _ _ _ _ _ _ _ _ _ _ _ _ _ _ _ _ _ _ _ _ _ _ _ _ _ _ _ _ _ _ _ _ _ _ _ _ _ _ _ _ _ _ _
 | true =>
  subst hbv
  have hpsz:=hps rfl
  have hT1:=hT.drew
  have kf1:W1.drew.heap[B1 + 2]? = _:=kf
  have hml':((mn:Nat):Int) ≤ ((data.size:Nat):Int):=by omega
  have hxs:(data.extract 0 mn).size ≤ 1000:=by rw [ByteArray.size_extract];omega
  obtain ⟨part,hpart⟩:∃ p,pt ++ data.extract 0 mn = p:=⟨_,rfl⟩
  gi_wp2
  gi_region
  obtain ⟨hT2,ho2⟩:=hT1.setS (so + 4) (.string part)
  have e2:W1.drew.setCell ⟨sb,so + 4,none⟩ (.string part) = (W1.setCell ⟨sb,so + 4,none⟩ (.string part)).drew:=rfl
  have hsf:B1 + 2 ≠ sb:=tne kf hT.sk (by decide)
  have kf2:=(ho2.rest _ hsf).trans kf
  rw [e2] at hT2 kf2
  obtain ⟨W2,hW2⟩:∃ W2,(W1.setCell ⟨sb,so + 4,none⟩ (.string part)).drew = W2:=⟨_,rfl⟩
  rw [hW2] at hT2 kf2 ⊢
  have hps2:part.size ≤ 200000:=by rw [← hpart,ByteArray.size_append];omega
  have hpp:=Lib.hid (show part = pt ++ data.extract 0 (min first data.size) from by rw [hmn];exact hpart.symm)
  obtain ⟨x1,x2,x3,x4,x5,x6,x7⟩:=hT2.cells
  have x8:W2.cell? ⟨sb,so + 4,none⟩ = some (.string part):=(x6 _).trans (by rw [Array.getElem?_setIfInBounds_self_of_lt (by omega)])
  clear x6 hT kf kf1 hT1 y1 y2 y3 y4 y5 y7 y8 y9 f4 f5 hsf hW2 ho2 e2 hW1 hpart x3
  obtain ⟨E,hE⟩:∃ E,Pkt.takeE part = E:=⟨_,rfl⟩
  obtain ⟨pl,hpl⟩:∃ p,Pkt.pL part = p:=⟨_,rfl⟩
  have ht:=take_calls part W2
  rw [hE,hpl] at ht
  gi_wp2_with (refine ⟨trivial,?_⟩;gi_at_call 57;refine (callsIn_wide.2 ht).mono ?_)
  rintro e W3 ⟨rfl,b3⟩
  unfold pkV
  have k4:=heap_alloc_new W3 (.cells #[.bool (Pkt.pC part),.int .i64 ((Pkt.pA part:Nat):Int),.int .i64 ((Pkt.pF part:Nat):Int),.int .i64 ((Pkt.pN part:Nat):Int),.string (Pkt.pD part)] 110)
  have b4:=b3.trans (((Below.refl _ W3).alloc (Nat.le_refl _) (.cells #[.bool (Pkt.pC part),.int .i64 ((Pkt.pA part:Nat):Int),.int .i64 ((Pkt.pF part:Nat):Int),.int .i64 ((Pkt.pN part:Nat):Int),.string (Pkt.pD part)] 110)).mono b3.size)
  obtain ⟨W4,hW4⟩:∃ W4,W3.alloc (.cells #[.bool (Pkt.pC part),.int .i64 ((Pkt.pA part:Nat):Int),.int .i64 ((Pkt.pF part:Nat):Int),.int .i64 ((Pkt.pN part:Nat):Int),.string (Pkt.pD part)] 110) = W4:=⟨_,rfl⟩
  rw [hW4] at k4 b4
  have hT4:=hT2.below b4
  have kf4:=(b4.block _ (hT2.zl _ (.inr rfl))).trans kf2
  obtain ⟨z1,z2,z3,z4,z5,z6,z7⟩:=hT4.cells
  have z8:W4.cell? ⟨sb,so + 4,none⟩ = some (.string part):=(z6 _).trans (by rw [Array.getElem?_setIfInBounds_self_of_lt (by omega)])
  have z9:W4.cell? ⟨sb,so + 3,none⟩ = some (.bool true):=(z6 _).trans (by rw [Array.getElem?_setIfInBounds_ne (by omega)];exact hbg)
  have f4:W4.cell? ⟨B1 + 2,4,none⟩ = some (.int .i64 ((first:Nat):Int)):=cell_of kf4
  have p0:W4.cell? ⟨W3.heap.size,0,none⟩ = some (.bool (Pkt.pC part)):=cell_of k4
  have p1:W4.cell? ⟨W3.heap.size,1,none⟩ = some (.int .i64 ((Pkt.pA part:Nat):Int)):=cell_of k4
  have p2:W4.cell? ⟨W3.heap.size,2,none⟩ = some (.int .i64 ((Pkt.pF part:Nat):Int)):=cell_of k4
  have p3:W4.cell? ⟨W3.heap.size,3,none⟩ = some (.int .i64 ((Pkt.pN part:Nat):Int)):=cell_of k4
  have p4:W4.cell? ⟨W3.heap.size,4,none⟩ = some (.string (Pkt.pD part)):=cell_of k4
  clear z6 hT2 kf2 x1 x2 x4 x5 x7 x8 b3 b4 ht
  have hbad:∀ (hor:E ≠ 4 ∨ first ≠ 2047) (hnd:¬ (E = 0 ∧ pl = part.size)),StepA true pt first so data cs n L ((cs.setIfInBounds (so + 4) (.string part)).setIfInBounds (so + 3) (.bool false)) (n + 1) L:=fun hor hnd=>.inr ⟨rfl,part,hpp.out,.inr (.inl ⟨by rw [hE,hpl];exact hnd,by rw [hE];exact hor,rfl,rfl,rfl⟩)⟩
  by_cases hd1:E = 0 ∧ pl = part.size
  · obtain ⟨rfl,rfl⟩:=hd1
    clear hbad
    have hdv:=hT4.drew.deliver (by omega) part part (by omega)
    unfold pkV at hdv
    have kzf:∀ W5,KeptZ (fun k=>((k = sb ∨ k = B1) ∨ k = B1 + 1) ∨ k = B1 + 2) W4.drew W5 → W5.heap[B1 + 2]? = _:=fun W5 kz=>(kz (B1 + 2) (.inr rfl)).trans kf4
    clear kf4
    gi_wp2
    refine wpIn_wide.2 ?_
    apply region_cut (R:=fun W=>∃ v5,Tk S w (fun k=>((k = sb ∨ k = B1) ∨ k = B1 + 1) ∨ k = B1 + 2) sb so ob B1 (B1 + 1) (cs.setIfInBounds (so + 4) (.string part)) a0 a1 a2 a3 v5 (.int .i64 ((n:Nat):Int)) a6 (L ++ dlv part part) W ∧ KeptZ (fun k=>((k = sb ∨ k = B1) ∨ k = B1 + 1) ∨ k = B1 + 2) W4.drew W)
    case h =>
     go_region_law (refine step_call3 (by rfl) 58 _ _ _ _ _ _ (by rfl) (.pointer (some ⟨ob,0,none⟩)) (.agg #[.bool (Pkt.pC part),.int .i64 ((Pkt.pA part:Nat):Int),.int .i64 ((Pkt.pF part:Nat):Int),.int .i64 ((Pkt.pN part:Nat):Int),.string (Pkt.pD part)]) (.string part) (by rfl) (by rfl) (by rfl) deliver_enter (.tuple #[]) (hdv.mono fun e w' hh=>hh) ?_;rintro W5 ⟨⟨v5,g5⟩,kz5⟩)
     all_goals exact ⟨rfl,v5,g5,kz5⟩
    case h2 =>
     rintro W5 ⟨v5,g5,kz5⟩
     have kf5:=kzf W5 kz5
     obtain ⟨o1,o2,o3,o4,o5,o6,o7⟩:=g5.cells
     have o8:W5.cell? ⟨sb,so + 3,none⟩ = some (.bool true):=(o6 _).trans (by rw [Array.getElem?_setIfInBounds_ne (by omega)];exact hbg)
     obtain ⟨g6,ho6⟩:=g5.setS (so + 3) (.bool false)
     have kf6:=(ho6.rest _ (tne kf5 g5.sk (by decide))).trans kf5
     have HG:=Lib.hid (And.intro g6 kf6)
     clear g5 kf5 g6 kf6 o6 ho6 kz5 hT4
     gi_wp2
     exact HR.out _ n v5 (L ++ dlv part part) _ (.inr ⟨rfl,part,hpp.out,.inl ⟨⟨hE,hpl⟩,rfl,rfl,rfl⟩⟩) HG.out.1 (by rw [Array.size_setIfInBounds,Array.size_setIfInBounds]) (by omega) (by have:=dlv_len part part;rw [List.length_append];omega) HG.out.2 _ _ _ _ _ _ _ _ _ _ _ _ _ _ _ _ _ _ _ _ _ _ _ _ _ _ _ _ _ _ _ _ _ _ _ _ _ _ _ _ _ _ _ _ _ _ _ _ _ _ _ _ _ _ _ _ _ _ _ _ _ _ _ _ _ _ _ _ _ _ _ _ _ _ _ _ _ _ _ _ _ _ _ _ _ _ _ _ _ _ _ _ _ _ _
  · have HB:=Lib.hid hbad
    have HD:=Lib.hid hd1
    clear hbad hd1
    obtain ⟨g5,ho5⟩:=hT4.setS (so + 3) (.bool false)
    have kf5:=(ho5.rest _ (tne kf4 hT4.sk (by decide))).trans kf4
    obtain ⟨g6,kz6⟩:=g5.set5 (.int .i64 ((n + 1:Nat):Int))
    have kf6:=(kz6 (B1 + 2) (.inr rfl)).trans kf5
    have e1:(((n + 1:Nat):Nat):Int) = ((n:Nat):Int) + 1:=by push_cast;rfl
    rw [e1] at g6 kf6
    obtain ⟨o1,o2,o3,o4,o5,o6,o7⟩:=g5.cells
    obtain ⟨W5,hW5⟩:∃ W5,W4.setCell ⟨sb,so + 3,none⟩ (.bool false) = W5:=⟨_,rfl⟩
    rw [hW5] at g6 kf6 o1 o2 o3 o4 o5 o6
    have HG:=Lib.hid (And.intro g6 kf6)
    have HT:=Lib.hid (And.intro hT4 kf4)
    clear g5 kf5 g6 kf6 o6 ho5 kz6 hT4 kf4
    rcases (show E = 0 ∨ E = 4 ∨ E = 6 from by rw [← hE];exact takeE_cases part) with rfl | rfl | rfl
    · have hpn:(((pl:Nat):Int) == ((part.size:Nat):Int)) = false:=by
       have:=HD.out
       simp only [true_and] at this
       simp;omega
      gi_wp2
      rw [← e1] at HG
      exact HR.out _ (n + 1) v L _ (HB.out (.inl (by decide)) HD.out) HG.out.1 (by rw [Array.size_setIfInBounds,Array.size_setIfInBounds]) (by omega) (by omega) HG.out.2 _ _ _ _ _ _ _ _ _ _ _ _ _ _ _ _ _ _ _ _ _ _ _ _ _ _ _ _ _ _ _ _ _ _ _ _ _ _ _ _ _ _ _ _ _ _ _ _ _ _ _ _ _ _ _ _ _ _ _ _ _ _ _ _ _ _ _ _ _ _ _ _ _ _ _ _ _ _ _ _ _ _ _ _ _ _ _ _ _ _ _ _ _ _ _
    · by_cases h47:first = 2047
      · have h47':(((first:Nat):Int) != 2047) = false:=by simp;omega
        have HF:=Lib.hid (show ((first:Nat):Int) = 2047 from by omega)
        clear hW5 o1 o2 o3 o4 o5
        gi_wp2
        rw [← HF.out]
        exact HR.out _ n v L _ (.inr ⟨rfl,part,hpp.out,.inr (.inr ⟨hE,h47,rfl,rfl,rfl⟩)⟩) HT.out.1 (by rw [Array.size_setIfInBounds]) (by omega) (by omega) HT.out.2 _ _ _ _ _ _ _ _ _ _ _ _ _ _ _ _ _ _ _ _ _ _ _ _ _ _ _ _ _ _ _ _ _ _ _ _ _ _ _ _ _ _ _ _ _ _ _ _ _ _ _ _ _ _ _ _ _ _ _ _ _ _ _ _ _ _ _ _ _ _ _ _ _ _ _ _ _ _ _ _ _ _ _ _ _ _ _ _ _ _ _ _ _ _ _
      · have h47':(((first:Nat):Int) != 2047) = true:=by simp;omega
        gi_wp2
        rw [← e1] at HG
        exact HR.out _ (n + 1) v L _ (HB.out (.inr h47) HD.out) HG.out.1 (by rw [Array.size_setIfInBounds,Array.size_setIfInBounds]) (by omega) (by omega) HG.out.2 _ _ _ _ _ _ _ _ _ _ _ _ _ _ _ _ _ _ _ _ _ _ _ _ _ _ _ _ _ _ _ _ _ _ _ _ _ _ _ _ _ _ _ _ _ _ _ _ _ _ _ _ _ _ _ _ _ _ _ _ _ _ _ _ _ _ _ _ _ _ _ _ _ _ _ _ _ _ _ _ _ _ _ _ _ _ _ _ _ _ _ _ _ _ _
    · gi_wp2
      rw [← e1] at HG
      exact HR.out _ (n + 1) v L _ (HB.out (.inl (by decide)) HD.out) HG.out.1 (by rw [Array.size_setIfInBounds,Array.size_setIfInBounds]) (by omega) (by omega) HG.out.2 _ _ _ _ _ _ _ _ _ _ _ _ _ _ _ _ _ _ _ _ _ _ _ _ _ _ _ _ _ _ _ _ _ _ _ _ _ _ _ _ _ _ _ _ _ _ _ _ _ _ _ _ _ _ _ _ _ _ _ _ _ _ _ _ _ _ _ _ _ _ _ _ _ _ _ _ _ _ _ _ _ _ _ _ _ _ _ _ _ _ _ _ _ _ _
end Go.Am.Cha
