/-
 Channels: sending.next: two or more lists grow in one region that draws its order. Own work, printed by gen/mkreg.py.
-/
import Derived.Test.YtlgpalokjckdcaaChaWp
import Derived.Test.YtlgpalokjckdcaaTmfAB
namespace Go.Am.Cha
open Go Go.Am Go.Am.Lib Go.Lib Go.Proofs Go.RowKit
open Go.Am.Own
open Go.Am.Pkt (codeOf)
set_option maxRecDepth 100000
variable {H:Nat → Prop} {W w:World} {B sb mb g cap:Nat} {bk:Nat → Nat} {M:MS} {ok:Bool} {bs ss:Nat → Int} {V:Nat → Value} {R:Nat → RowM}
noncomputable def rg_next_r22:List Oper:=((regOf 22 (codeOf Try.f35)).getD #[]).toList
def js_next_r22 (x0 x1:Value):List Job:=[⟨0,7,8,18,9,x0⟩,⟨1,14,15,21,3,x1⟩]
theorem all_next_r22 (base:Act) (σ:Nat → Value):allT rg_next_r22 base σ = (((((((((((((((((((base.put (some 160) (σ 0)).put (some 161) (σ 1)).put (some 162) (σ 2)).put (some 163) (σ 3)).put (some 164) (σ 4)).put (some 165) (σ 5)).put (some 166) (σ 6)).put (some 167) (σ 7)).put (some 168) (σ 8)).put (some 169) (σ 9)).put (some 170) (σ 10)).put (some 171) (σ 11)).put (some 172) (σ 12)).put (some 173) (σ 13)).put (some 174) (σ 14)).put (some 175) (σ 15)).put (some 176) (σ 16)).put (some 177) (σ 17)).put (some 178) (σ 19)).put (some 179) (σ 20):=by kernel_rfl
set_option maxHeartbeats 6400000 in
theorem next_r22 {Q:Exit → Act → World → Prop} {base:Act} {ns:ByteArray} {nk n0 n1 k0 k1:Nat} {o0 o1:Option Addr} (hsz:base.tmps.size = 191) (b10:base.tmps[10]?.getD undef = .pointer (some ⟨sb,1,none⟩)) (b6:base.tmps[6]?.getD undef = .string ns) (b8:base.tmps[8]?.getD undef = .int .i64 ((nk:Nat):Int)) (hG:Sg H W B sb mb g cap bk M ok bs ss V R w) (hV0:V 0 = .slice o0 n0 k0) (hR0:R 0 = (9,.slice o0 n0 k0,(R 0).2.2)) (hn0:(R 0).2.2.length = n0) (l0:n0 + 1 ≤ maxLen) (r0:(n0 + 1) * 16 ≤ 140737488355328) (hV1:V 1 = .slice o1 n1 k1) (hR1:R 1 = (3,.slice o1 n1 k1,(R 1).2.2)) (hn1:(R 1).2.2.length = n1) (l1:n1 + 1 ≤ maxLen) (r1:(n1 + 1) * 8 ≤ 140737488355328) (fin:∀ σ w',Sg H W B sb mb g cap bk M ok bs ss (jV (js_next_r22 (.string ns) (.int .i64 ((nk:Nat):Int))) (fun _=>true) σ V) (jR (js_next_r22 (.string ns) (.int .i64 ((nk:Nat):Int))) (fun _=>true) σ R) w' → (∃ g' c',σ 8 = .slice (some ⟨g',0,none⟩) (n0 + 1) c') → (∃ g' c',σ 15 = .slice (some ⟨g',0,none⟩) (n1 + 1) c') → Q .normal (allT rg_next_r22 base σ) w'):(Code.region 22 rg_next_r22.toArray true).wp Try.prog Q base w:=by
 obtain ⟨iI,iI1,iI2,iI3,iI4⟩:=Tmf.info3
 obtain ⟨iS,iS1,iS2,iS3,iS4⟩:=infoS
 obtain ⟨vq,hvq⟩:∃ x,([some (.pointer (some ⟨sb,1,none⟩)),some (.pointer (some ⟨sb,1,none⟩)),some (.pointer (some ⟨sb,1,none⟩)),some (.pointer (some ⟨sb,1,none⟩)),some (.pointer (some ⟨sb,1,none⟩)),some (.slice o0 n0 k0),some (.string ns),none,none,some (.pointer (some ⟨sb,1,none⟩)),some (.pointer (some ⟨sb,1,none⟩)),some (.pointer (some ⟨sb,2,none⟩)),some (.slice o1 n1 k1),some (.int .i64 ((nk:Nat):Int)),none,none,some (.pointer (some ⟨sb,1,none⟩)),some (.pointer (some ⟨sb,1,none⟩)),none,some (.pointer (some ⟨sb,1,none⟩)),some (.pointer (some ⟨sb,2,none⟩)),none]:List (Option Value)) = x:=⟨_,rfl⟩
 obtain ⟨J,hJ⟩:∃ x,(js_next_r22 (.string ns) (.int .i64 ((nk:Nat):Int))) = x:=⟨_,rfl⟩
 have hJok:jobsOk J = true:=by rw [← hJ];rfl
 have hJN:jobN J = [7,14,8,15,18,21]:=by rw [← hJ];rfl
 have hj0:(⟨0,7,8,18,9,.string ns⟩:Job) ∈ J:=by rw [← hJ];simp [js_next_r22]
 have hj1:(⟨1,14,15,21,3,.int .i64 ((nk:Nat):Int)⟩:Job) ∈ J:=by rw [← hJ];simp [js_next_r22]
 have q0:vq[0]? = some (some (.pointer (some ⟨sb,1,none⟩))):=by rw [← hvq];rfl
 have q1:vq[1]? = some (some (.pointer (some ⟨sb,1,none⟩))):=by rw [← hvq];rfl
 have q2:vq[2]? = some (some (.pointer (some ⟨sb,1,none⟩))):=by rw [← hvq];rfl
 have q3:vq[3]? = some (some (.pointer (some ⟨sb,1,none⟩))):=by rw [← hvq];rfl
 have q4:vq[4]? = some (some (.pointer (some ⟨sb,1,none⟩))):=by rw [← hvq];rfl
 have q5:vq[5]? = some (some (.slice o0 n0 k0)):=by rw [← hvq];rfl
 have q6:vq[6]? = some (some (.string ns)):=by rw [← hvq];rfl
 have q7:vq[7]? = some (none):=by rw [← hvq];rfl
 have q8:vq[8]? = some (none):=by rw [← hvq];rfl
 have q9:vq[9]? = some (some (.pointer (some ⟨sb,1,none⟩))):=by rw [← hvq];rfl
 have q10:vq[10]? = some (some (.pointer (some ⟨sb,1,none⟩))):=by rw [← hvq];rfl
 have q11:vq[11]? = some (some (.pointer (some ⟨sb,2,none⟩))):=by rw [← hvq];rfl
 have q12:vq[12]? = some (some (.slice o1 n1 k1)):=by rw [← hvq];rfl
 have q13:vq[13]? = some (some (.int .i64 ((nk:Nat):Int))):=by rw [← hvq];rfl
 have q14:vq[14]? = some (none):=by rw [← hvq];rfl
 have q15:vq[15]? = some (none):=by rw [← hvq];rfl
 have q16:vq[16]? = some (some (.pointer (some ⟨sb,1,none⟩))):=by rw [← hvq];rfl
 have q17:vq[17]? = some (some (.pointer (some ⟨sb,1,none⟩))):=by rw [← hvq];rfl
 have q18:vq[18]? = some (none):=by rw [← hvq];rfl
 have q19:vq[19]? = some (some (.pointer (some ⟨sb,1,none⟩))):=by rw [← hvq];rfl
 have q20:vq[20]? = some (some (.pointer (some ⟨sb,2,none⟩))):=by rw [← hvq];rfl
 have q21:vq[21]? = some (none):=by rw [← hvq];rfl
 have hlen:rg_next_r22.length = 22:=by kernel_rfl
 rw [hJ] at fin
 refine wp_region_reg (WI:=fun L σ w=>Qv vq L σ ∧ Pw J H W B sb mb g cap bk M ok bs ss V R L σ w) (by kernel_rfl) (List.range 22) (by kernel_rfl) (by rw [hsz];kernel_rfl) ⟨Qv.start _ _,Pw.start hG.drew⟩ ?_ ?_
 · clear hvq hJ fin hG
   intro i o L σ a w ho hL hw hV hW
   match i,ho with
   | 0,ho =>
    obtain ⟨t,p,f,e⟩:∃ t p f,rg_next_r22[0]? = some ⟨some 160,.move (.tmp 10),t,p,f,none⟩:=⟨_,_,_,rfl⟩
    obtain rfl:=Option.some.inj (e.symm.trans ho)
    clear e ho
    have e0:a.tmps[10]?.getD undef = .pointer (some ⟨sb,1,none⟩):=(hV.old 10 (by kernel_rfl)).trans b10
    exact wp_of_K (.pointer (some ⟨sb,1,none⟩)) w (fun K' hK'=>by go_simp;exact hK') ⟨_,rfl,hW.1.put q0,hW.2.quiet (by rw [hJN];decide)⟩
   | 1,ho =>
    obtain ⟨t,p,f,e⟩:∃ t p f,rg_next_r22[1]? = some ⟨some 161,.move (.tmp 10),t,p,f,none⟩:=⟨_,_,_,rfl⟩
    obtain rfl:=Option.some.inj (e.symm.trans ho)
    clear e ho
    have e0:a.tmps[10]?.getD undef = .pointer (some ⟨sb,1,none⟩):=(hV.old 10 (by kernel_rfl)).trans b10
    exact wp_of_K (.pointer (some ⟨sb,1,none⟩)) w (fun K' hK'=>by go_simp;exact hK') ⟨_,rfl,hW.1.put q1,hW.2.quiet (by rw [hJN];decide)⟩
   | 2,ho =>
    obtain ⟨t,p,f,e⟩:∃ t p f,rg_next_r22[2]? = some ⟨some 162,.move (.tmp 10),t,p,f,none⟩:=⟨_,_,_,rfl⟩
    obtain rfl:=Option.some.inj (e.symm.trans ho)
    clear e ho
    have e0:a.tmps[10]?.getD undef = .pointer (some ⟨sb,1,none⟩):=(hV.old 10 (by kernel_rfl)).trans b10
    exact wp_of_K (.pointer (some ⟨sb,1,none⟩)) w (fun K' hK'=>by go_simp;exact hK') ⟨_,rfl,hW.1.put q2,hW.2.quiet (by rw [hJN];decide)⟩
   | 3,ho =>
    obtain ⟨t,p,f,e⟩:∃ t p f,rg_next_r22[3]? = some ⟨some 163,.nilCheck (.tmp 162),t,p,f,none⟩:=⟨_,_,_,rfl⟩
    obtain rfl:=Option.some.inj (e.symm.trans ho)
    clear e ho
    have e0:a.tmps[162]?.getD undef = .pointer (some ⟨sb,1,none⟩):=val_at (q:=2) (d:=162) hV hW.1 (by kernel_rfl) (hw 2 (by kernel_rfl)) q2
    exact wp_of_K (.pointer (some ⟨sb,1,none⟩)) w (fun K' hK'=>by go_simp;exact hK') ⟨_,rfl,hW.1.put q3,hW.2.quiet (by rw [hJN];decide)⟩
   | 4,ho =>
    obtain ⟨t,p,f,e⟩:∃ t p f,rg_next_r22[4]? = some ⟨some 164,.fieldAddr 45 (.tmp 163) 0,t,p,f,none⟩:=⟨_,_,_,rfl⟩
    obtain rfl:=Option.some.inj (e.symm.trans ho)
    clear e ho
    have e0:a.tmps[163]?.getD undef = .pointer (some ⟨sb,1,none⟩):=val_at (q:=3) (d:=163) hV hW.1 (by kernel_rfl) (hw 3 (by kernel_rfl)) q3
    exact wp_of_K (.pointer (some ⟨sb,1,none⟩)) w (fun K' hK'=>by go_simp;exact hK') ⟨_,rfl,hW.1.put q4,hW.2.quiet (by rw [hJN];decide)⟩
   | 5,ho =>
    obtain ⟨t,p,f,e⟩:∃ t p f,rg_next_r22[5]? = some ⟨some 165,.load 22 (.tmp 164),t,p,f,none⟩:=⟨_,_,_,rfl⟩
    obtain rfl:=Option.some.inj (e.symm.trans ho)
    clear e ho
    have e0:a.tmps[164]?.getD undef = .pointer (some ⟨sb,1,none⟩):=val_at (q:=4) (d:=164) hV hW.1 (by kernel_rfl) (hw 4 (by kernel_rfl)) q4
    have c0:w.cell? ⟨sb,1,none⟩ = some (.slice o0 n0 k0):=(hW.2.cellV hJok hj0 (hV.not hL 18 (by kernel_rfl))).trans (congrArg some hV0)
    exact wp_of_K (.slice o0 n0 k0) w (fun K' hK'=>by go_simp;exact hK') ⟨_,rfl,hW.1.put q5,hW.2.quiet (by rw [hJN];decide)⟩
   | 6,ho =>
    obtain ⟨t,p,f,e⟩:∃ t p f,rg_next_r22[6]? = some ⟨some 166,.move (.tmp 6),t,p,f,none⟩:=⟨_,_,_,rfl⟩
    obtain rfl:=Option.some.inj (e.symm.trans ho)
    clear e ho
    have e0:a.tmps[6]?.getD undef = .string ns:=(hV.old 6 (by kernel_rfl)).trans b6
    exact wp_of_K (.string ns) w (fun K' hK'=>by go_simp;exact hK') ⟨_,rfl,hW.1.put q6,hW.2.quiet (by rw [hJN];decide)⟩
   | 7,ho =>
    obtain ⟨t,p,f,e⟩:∃ t p f,rg_next_r22[7]? = some ⟨some 167,.buildSlice 22 1 #[(0,.tmp 166)],t,p,f,none⟩:=⟨_,_,_,rfl⟩
    obtain rfl:=Option.some.inj (e.symm.trans ho)
    clear e ho
    have e0:a.tmps[166]?.getD undef = .string ns:=val_at (q:=6) (d:=166) hV hW.1 (by kernel_rfl) (hw 6 (by kernel_rfl)) q6
    exact wp_of_K (.slice (some ⟨w.heap.size,0,none⟩) 1 1) (w.alloc (.cells #[.string ns] 9)) (fun K' hK'=>by go_simp;exact hK') ⟨_,rfl,hW.1.skip q7,hW.2.make hJok hj0⟩
   | 8,ho =>
    obtain ⟨t,p,f,e⟩:∃ t p f,rg_next_r22[8]? = some ⟨some 168,.call { callee:=.builtin .append,args:=#[.tmp 165,.tmp 167],argTypes:=#[22,22] },t,p,f,none⟩:=⟨_,_,_,rfl⟩
    obtain rfl:=Option.some.inj (e.symm.trans ho)
    clear e ho
    have e0:a.eval (.tmp 165) = .slice o0 n0 k0:=eval_of (val_at (q:=5) (d:=165) hV hW.1 (by kernel_rfl) (hw 5 (by kernel_rfl)) q5)
    have e1:a.eval (.tmp 167) = σ 7:=eval_of (hV.val 7 167 (by kernel_rfl) (hw 7 (by kernel_rfl)))
    refine Oper.wp_mono ?_ (hW.2.app hJok hj0 rfl Try.underlying22 iS1 iS2 iS3 iS4 rfl hR0 hn0 rfl l0 r0 (hw 7 (by kernel_rfl)) hL (hV.not hL 18 (by kernel_rfl)) e0 e1)
    rintro a' w' ⟨v,hv,hP⟩
    exact ⟨v,hv,hW.1.skip q8,hP⟩
   | 9,ho =>
    obtain ⟨t,p,f,e⟩:∃ t p f,rg_next_r22[9]? = some ⟨some 169,.move (.tmp 10),t,p,f,none⟩:=⟨_,_,_,rfl⟩
    obtain rfl:=Option.some.inj (e.symm.trans ho)
    clear e ho
    have e0:a.tmps[10]?.getD undef = .pointer (some ⟨sb,1,none⟩):=(hV.old 10 (by kernel_rfl)).trans b10
    exact wp_of_K (.pointer (some ⟨sb,1,none⟩)) w (fun K' hK'=>by go_simp;exact hK') ⟨_,rfl,hW.1.put q9,hW.2.quiet (by rw [hJN];decide)⟩
   | 10,ho =>
    obtain ⟨t,p,f,e⟩:∃ t p f,rg_next_r22[10]? = some ⟨some 170,.nilCheck (.tmp 169),t,p,f,none⟩:=⟨_,_,_,rfl⟩
    obtain rfl:=Option.some.inj (e.symm.trans ho)
    clear e ho
    have e0:a.tmps[169]?.getD undef = .pointer (some ⟨sb,1,none⟩):=val_at (q:=9) (d:=169) hV hW.1 (by kernel_rfl) (hw 9 (by kernel_rfl)) q9
    exact wp_of_K (.pointer (some ⟨sb,1,none⟩)) w (fun K' hK'=>by go_simp;exact hK') ⟨_,rfl,hW.1.put q10,hW.2.quiet (by rw [hJN];decide)⟩
   | 11,ho =>
    obtain ⟨t,p,f,e⟩:∃ t p f,rg_next_r22[11]? = some ⟨some 171,.fieldAddr 45 (.tmp 170) 1,t,p,f,none⟩:=⟨_,_,_,rfl⟩
    obtain rfl:=Option.some.inj (e.symm.trans ho)
    clear e ho
    have e0:a.tmps[170]?.getD undef = .pointer (some ⟨sb,1,none⟩):=val_at (q:=10) (d:=170) hV hW.1 (by kernel_rfl) (hw 10 (by kernel_rfl)) q10
    exact wp_of_K (.pointer (some ⟨sb,2,none⟩)) w (fun K' hK'=>by go_simp;exact hK') ⟨_,rfl,hW.1.put q11,hW.2.quiet (by rw [hJN];decide)⟩
   | 12,ho =>
    obtain ⟨t,p,f,e⟩:∃ t p f,rg_next_r22[12]? = some ⟨some 172,.load 43 (.tmp 171),t,p,f,none⟩:=⟨_,_,_,rfl⟩
    obtain rfl:=Option.some.inj (e.symm.trans ho)
    clear e ho
    have e0:a.tmps[171]?.getD undef = .pointer (some ⟨sb,2,none⟩):=val_at (q:=11) (d:=171) hV hW.1 (by kernel_rfl) (hw 11 (by kernel_rfl)) q11
    have c0:w.cell? ⟨sb,2,none⟩ = some (.slice o1 n1 k1):=(hW.2.cellV hJok hj1 (hV.not hL 21 (by kernel_rfl))).trans (congrArg some hV1)
    exact wp_of_K (.slice o1 n1 k1) w (fun K' hK'=>by go_simp;exact hK') ⟨_,rfl,hW.1.put q12,hW.2.quiet (by rw [hJN];decide)⟩
   | 13,ho =>
    obtain ⟨t,p,f,e⟩:∃ t p f,rg_next_r22[13]? = some ⟨some 173,.move (.tmp 8),t,p,f,none⟩:=⟨_,_,_,rfl⟩
    obtain rfl:=Option.some.inj (e.symm.trans ho)
    clear e ho
    have e0:a.tmps[8]?.getD undef = .int .i64 ((nk:Nat):Int):=(hV.old 8 (by kernel_rfl)).trans b8
    exact wp_of_K (.int .i64 ((nk:Nat):Int)) w (fun K' hK'=>by go_simp;exact hK') ⟨_,rfl,hW.1.put q13,hW.2.quiet (by rw [hJN];decide)⟩
   | 14,ho =>
    obtain ⟨t,p,f,e⟩:∃ t p f,rg_next_r22[14]? = some ⟨some 174,.buildSlice 43 1 #[(0,.tmp 173)],t,p,f,none⟩:=⟨_,_,_,rfl⟩
    obtain rfl:=Option.some.inj (e.symm.trans ho)
    clear e ho
    have e0:a.tmps[173]?.getD undef = .int .i64 ((nk:Nat):Int):=val_at (q:=13) (d:=173) hV hW.1 (by kernel_rfl) (hw 13 (by kernel_rfl)) q13
    exact wp_of_K (.slice (some ⟨w.heap.size,0,none⟩) 1 1) (w.alloc (.cells #[.int .i64 ((nk:Nat):Int)] 3)) (fun K' hK'=>by go_simp;exact hK') ⟨_,rfl,hW.1.skip q14,hW.2.make hJok hj1⟩
   | 15,ho =>
    obtain ⟨t,p,f,e⟩:∃ t p f,rg_next_r22[15]? = some ⟨some 175,.call { callee:=.builtin .append,args:=#[.tmp 172,.tmp 174],argTypes:=#[43,43] },t,p,f,none⟩:=⟨_,_,_,rfl⟩
    obtain rfl:=Option.some.inj (e.symm.trans ho)
    clear e ho
    have e0:a.eval (.tmp 172) = .slice o1 n1 k1:=eval_of (val_at (q:=12) (d:=172) hV hW.1 (by kernel_rfl) (hw 12 (by kernel_rfl)) q12)
    have e1:a.eval (.tmp 174) = σ 14:=eval_of (hV.val 14 174 (by kernel_rfl) (hw 14 (by kernel_rfl)))
    refine Oper.wp_mono ?_ (hW.2.app hJok hj1 rfl Try.underlying43 iI1 iI2 iI3 iI4 rfl hR1 hn1 rfl l1 r1 (hw 14 (by kernel_rfl)) hL (hV.not hL 21 (by kernel_rfl)) e0 e1)
    rintro a' w' ⟨v,hv,hP⟩
    exact ⟨v,hv,hW.1.skip q15,hP⟩
   | 16,ho =>
    obtain ⟨t,p,f,e⟩:∃ t p f,rg_next_r22[16]? = some ⟨some 176,.nilCheck (.tmp 160),t,p,f,none⟩:=⟨_,_,_,rfl⟩
    obtain rfl:=Option.some.inj (e.symm.trans ho)
    clear e ho
    have e0:a.tmps[160]?.getD undef = .pointer (some ⟨sb,1,none⟩):=val_at (q:=0) (d:=160) hV hW.1 (by kernel_rfl) (hw 0 (by kernel_rfl)) q0
    exact wp_of_K (.pointer (some ⟨sb,1,none⟩)) w (fun K' hK'=>by go_simp;exact hK') ⟨_,rfl,hW.1.put q16,hW.2.quiet (by rw [hJN];decide)⟩
   | 17,ho =>
    obtain ⟨t,p,f,e⟩:∃ t p f,rg_next_r22[17]? = some ⟨some 177,.fieldAddr 45 (.tmp 176) 0,t,p,f,none⟩:=⟨_,_,_,rfl⟩
    obtain rfl:=Option.some.inj (e.symm.trans ho)
    clear e ho
    have e0:a.tmps[176]?.getD undef = .pointer (some ⟨sb,1,none⟩):=val_at (q:=16) (d:=176) hV hW.1 (by kernel_rfl) (hw 16 (by kernel_rfl)) q16
    exact wp_of_K (.pointer (some ⟨sb,1,none⟩)) w (fun K' hK'=>by go_simp;exact hK') ⟨_,rfl,hW.1.put q17,hW.2.quiet (by rw [hJN];decide)⟩
   | 18,ho =>
    obtain ⟨t,p,f,e⟩:∃ t p f,rg_next_r22[18]? = some ⟨none,.store 22 (.tmp 177) (.tmp 168),t,p,f,none⟩:=⟨_,_,_,rfl⟩
    obtain rfl:=Option.some.inj (e.symm.trans ho)
    clear e ho
    have e0:a.tmps[177]?.getD undef = .pointer (some ⟨sb,1,none⟩):=val_at (q:=17) (d:=177) hV hW.1 (by kernel_rfl) (hw 17 (by kernel_rfl)) q17
    obtain ⟨g',c',eσ⟩:=hW.2.slice hj0 (hw 8 (by kernel_rfl))
    have e1:a.tmps[168]?.getD undef = _:=(hV.val 8 168 (by kernel_rfl) (hw 8 (by kernel_rfl))).trans eσ
    have c0:w.cell? ⟨sb,1,none⟩ = some (.slice o0 n0 k0):=(hW.2.cellV hJok hj0 hL).trans (congrArg some hV0)
    have c1:w.frozen? ⟨sb,1,none⟩ = false:=hW.2.fz 1
    have hS:=hW.2.store hJok hj0 undef
    simp only [eσ] at hS
    exact wp_of_K undef (w.setCell ⟨sb,1,none⟩ (.slice (some ⟨g',0,none⟩) ((R 0).2.2.length + 1) c')) (fun K' hK'=>by clear hR0 hn0 hR1 hn1;go_simp;exact hK') ⟨_,rfl,hW.1.skip q18,hS⟩
   | 19,ho =>
    obtain ⟨t,p,f,e⟩:∃ t p f,rg_next_r22[19]? = some ⟨some 178,.nilCheck (.tmp 161),t,p,f,none⟩:=⟨_,_,_,rfl⟩
    obtain rfl:=Option.some.inj (e.symm.trans ho)
    clear e ho
    have e0:a.tmps[161]?.getD undef = .pointer (some ⟨sb,1,none⟩):=val_at (q:=1) (d:=161) hV hW.1 (by kernel_rfl) (hw 1 (by kernel_rfl)) q1
    exact wp_of_K (.pointer (some ⟨sb,1,none⟩)) w (fun K' hK'=>by go_simp;exact hK') ⟨_,rfl,hW.1.put q19,hW.2.quiet (by rw [hJN];decide)⟩
   | 20,ho =>
    obtain ⟨t,p,f,e⟩:∃ t p f,rg_next_r22[20]? = some ⟨some 179,.fieldAddr 45 (.tmp 178) 1,t,p,f,none⟩:=⟨_,_,_,rfl⟩
    obtain rfl:=Option.some.inj (e.symm.trans ho)
    clear e ho
    have e0:a.tmps[178]?.getD undef = .pointer (some ⟨sb,1,none⟩):=val_at (q:=19) (d:=178) hV hW.1 (by kernel_rfl) (hw 19 (by kernel_rfl)) q19
    exact wp_of_K (.pointer (some ⟨sb,2,none⟩)) w (fun K' hK'=>by go_simp;exact hK') ⟨_,rfl,hW.1.put q20,hW.2.quiet (by rw [hJN];decide)⟩
   | 21,ho =>
    obtain ⟨t,p,f,e⟩:∃ t p f,rg_next_r22[21]? = some ⟨none,.store 43 (.tmp 179) (.tmp 175),t,p,f,none⟩:=⟨_,_,_,rfl⟩
    obtain rfl:=Option.some.inj (e.symm.trans ho)
    clear e ho
    have e0:a.tmps[179]?.getD undef = .pointer (some ⟨sb,2,none⟩):=val_at (q:=20) (d:=179) hV hW.1 (by kernel_rfl) (hw 20 (by kernel_rfl)) q20
    obtain ⟨g',c',eσ⟩:=hW.2.slice hj1 (hw 15 (by kernel_rfl))
    have e1:a.tmps[175]?.getD undef = _:=(hV.val 15 175 (by kernel_rfl) (hw 15 (by kernel_rfl))).trans eσ
    have c0:w.cell? ⟨sb,2,none⟩ = some (.slice o1 n1 k1):=(hW.2.cellV hJok hj1 hL).trans (congrArg some hV1)
    have c1:w.frozen? ⟨sb,2,none⟩ = false:=hW.2.fz 2
    have hS:=hW.2.store hJok hj1 undef
    simp only [eσ] at hS
    exact wp_of_K undef (w.setCell ⟨sb,2,none⟩ (.slice (some ⟨g',0,none⟩) ((R 1).2.2.length + 1) c')) (fun K' hK'=>by clear hR0 hn0 hR1 hn1;go_simp;exact hK') ⟨_,rfl,hW.1.skip q21,hS⟩
   | k + 22,ho=>exact absurd (List.getElem?_eq_some_iff.1 ho).1 (by rw [hlen];omega)
 · intro L σ w' hall hW
   have hL:∀ j ∈ J,L j.p = true ∧ L j.s = true:=by
    intro j hj
    rw [← hJ] at hj
    simp only [js_next_r22,List.mem_cons,List.not_mem_nil,or_false] at hj
    rcases hj with rfl | rfl
    · exact ⟨hall 8 (by rw [hlen];decide),hall 18 (by rw [hlen];decide)⟩
    · exact ⟨hall 15 (by rw [hlen];decide),hall 21 (by rw [hlen];decide)⟩
   obtain ⟨g0,c0,s0⟩:=hW.2.slice hj0 (hL _ hj0).1
   have s0:σ 8 = .slice (some ⟨g0,0,none⟩) (n0 + 1) c0:=by rw [← hn0];exact s0
   obtain ⟨g1,c1,s1⟩:=hW.2.slice hj1 (hL _ hj1).1
   have s1:σ 15 = .slice (some ⟨g1,0,none⟩) (n1 + 1) c1:=by rw [← hn1];exact s1
   exact fin σ w' (hW.2.fin hL) ⟨_,_,s0⟩ ⟨_,_,s1⟩
end Go.Am.Cha
