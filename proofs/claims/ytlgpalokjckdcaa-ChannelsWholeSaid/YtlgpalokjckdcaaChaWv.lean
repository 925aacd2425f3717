/-
 Channels: the law's region 19: a list grows by the packets of an arrival. Own work.
-/
import Derived.Test.YtlgpalokjckdcaaChaWu
import Derived.Test.YtlgpalokjckdcaaChaWp
import Derived.Test.YtlgpalokjckdcaaChaGE
namespace Go.Am.Cha
open Go Go.Am Go.Am.Lib Go.Lib Go.Proofs Go.RowKit
open Go.Am.Own
open Go.Am.Pkt (codeOf)
set_option maxRecDepth 100000
variable {H:Nat → Prop} {W w:World} {B gb db:Nat} {D:Dm} {g:Nat → List L8} {V:Nat → Value}
noncomputable def rg_whole_r19:List Oper:=((regOf 19 (codeOf Try.f4)).getD #[]).toList
theorem lit_whole_r19 (e0 e1 e2 e3 e4 e5 e6 e7 e8 e9 e10 e11 e12 e13 e14 e15 e16 e17 e18 e19 e20 e21 e22 e23 e24 e25 e26 e27 e28 e29 e30 e31 e32 e33 e34 e35 e36 e37 e38 e39 e40 e41 e42 e43 e44 e45 e46 e47 e48 e49 e50 e51 e52 e53 e54 e55 e56 e57 e58 e59 e60 e61 e62 e63 e64 e65 e66 e67 e68 e69 e70 e71 e72 e73 e74 e75 e76 e77 e78 e79 e80 e81 e82 e83 e84 e85 e86 e87 e88 e89 e90 e91 e92 e93 e94 e95 e96 e97 e98 e99 e100 e101 e102 e103 e104 e105 e106 e107 e108 e109 e110 e111 e112 e113 e114 e115 e116 e117 e118 e119 e120 e121 e122 e123 e124 e125 e126 e127 e128 e129 e130 e131 e132 e133 e134 e135 e136 e137 e138 e139 e140 e141 e142 e143 e144 e145 e146 e147 e148 e149 e150 e151 e152 e153 e154 e155 e156 e157 e158 e159 e160 e161 e162 e163 e164 e165 e166 e167 e168 e169 e170 e171 e172 e173 e174 e175 e176 e177 e178 e179 e180 e181 e182 e183:Value) (d:List Deferred) (σ:Nat → Value):allT rg_whole_r19 { tmps:=#[e0,e1,e2,e3,e4,e5,e6,e7,e8,e9,e10,e11,e12,e13,e14,e15,e16,e17,e18,e19,e20,e21,e22,e23,e24,e25,e26,e27,e28,e29,e30,e31,e32,e33,e34,e35,e36,e37,e38,e39,e40,e41,e42,e43,e44,e45,e46,e47,e48,e49,e50,e51,e52,e53,e54,e55,e56,e57,e58,e59,e60,e61,e62,e63,e64,e65,e66,e67,e68,e69,e70,e71,e72,e73,e74,e75,e76,e77,e78,e79,e80,e81,e82,e83,e84,e85,e86,e87,e88,e89,e90,e91,e92,e93,e94,e95,e96,e97,e98,e99,e100,e101,e102,e103,e104,e105,e106,e107,e108,e109,e110,e111,e112,e113,e114,e115,e116,e117,e118,e119,e120,e121,e122,e123,e124,e125,e126,e127,e128,e129,e130,e131,e132,e133,e134,e135,e136,e137,e138,e139,e140,e141,e142,e143,e144,e145,e146,e147,e148,e149,e150,e151,e152,e153,e154,e155,e156,e157,e158,e159,e160,e161,e162,e163,e164,e165,e166,e167,e168,e169,e170,e171,e172,e173,e174,e175,e176,e177,e178,e179,e180,e181,e182,e183],defers:=d } σ = { tmps:=#[e0,e1,e2,e3,e4,e5,e6,e7,e8,e9,e10,e11,e12,e13,e14,e15,e16,e17,e18,e19,e20,e21,e22,e23,e24,e25,e26,e27,e28,e29,e30,e31,e32,e33,e34,e35,e36,e37,e38,e39,e40,e41,e42,e43,e44,e45,e46,e47,e48,e49,e50,e51,e52,e53,e54,e55,e56,e57,e58,e59,e60,e61,e62,e63,e64,e65,e66,e67,e68,e69,e70,e71,e72,e73,e74,e75,e76,e77,e78,e79,e80,e81,e82,e83,e84,e85,e86,e87,e88,e89,e90,e91,e92,e93,e94,e95,e96,e97,e98,e99,e100,e101,e102,e103,e104,e105,e106,e107,e108,σ 0,σ 1,σ 2,σ 3,σ 4,σ 5,σ 6,σ 7,σ 8,σ 9,e119,e120,e121,e122,e123,e124,e125,e126,e127,e128,e129,e130,e131,e132,e133,e134,e135,e136,e137,e138,e139,e140,e141,e142,e143,e144,e145,e146,e147,e148,e149,e150,e151,e152,e153,e154,e155,e156,e157,e158,e159,e160,e161,e162,e163,e164,e165,e166,e167,e168,e169,e170,e171,e172,e173,e174,e175,e176,e177,e178,e179,e180,e181,e182,e183],defers:=d }:=by kernel_rfl
set_option maxHeartbeats 6400000 in
theorem whole_r19 {Q:Exit → Act → World → Prop} {base:Act} {A:Arr} {av:Value} {ab k:Nat} (hsz:base.tmps.size = 184) (b12:base.tmps[12]?.getD undef = .pointer (some ⟨gb,0,none⟩)) (b14:base.tmps[14]?.getD undef = .pointer (some ⟨ab,0,none⟩))
 (hX:Lw H W B gb db D g V V w) (hA:W.heap[ab]? = some (.cells (arrC A av) 33 (0,0))) (hHa:H ab) {B2:Nat} (hav:W.ownsRow B2 9 1 av A.pk.length (cellS A.pk)) (hHv:∀ j,av.ownBlock = some j → H j) (hAk:A.ch = k) (hk:k < 8) (hlen:(g k).length + A.pk.length ≤ 1000)
 (fin:∀ σ w',Lw H W B gb db D (updL g k (g k ++ A.pk)) (updW V k (σ 8)) (updW V k (σ 8)) w' → Q .normal (allT rg_whole_r19 base σ) w'):(Code.region 19 rg_whole_r19.toArray true).wp Try.prog Q base w:=by
 obtain ⟨iS,iS1,iS2,iS3,iS4⟩:=infoS
 obtain ⟨vq,hvq⟩:∃ x,([some (.pointer (some ⟨ab,0,none⟩)),some (.int .i64 ((k:Nat):Int)),some (.pointer (some ⟨ab,0,none⟩)),some (.int .i64 ((k:Nat):Int)),some (.pointer (some ⟨gb,k,none⟩)),some (V k),some (.pointer (some ⟨ab,4,none⟩)),some av,none,some (.pointer (some ⟨gb,k,none⟩)),none]:List (Option Value)) = x:=⟨_,rfl⟩
 have q0:vq[0]? = some (some (.pointer (some ⟨ab,0,none⟩))):=by rw [← hvq];rfl
 have q1:vq[1]? = some (some (.int .i64 ((k:Nat):Int))):=by rw [← hvq];rfl
 have q2:vq[2]? = some (some (.pointer (some ⟨ab,0,none⟩))):=by rw [← hvq];rfl
 have q3:vq[3]? = some (some (.int .i64 ((k:Nat):Int))):=by rw [← hvq];rfl
 have q4:vq[4]? = some (some (.pointer (some ⟨gb,k,none⟩))):=by rw [← hvq];rfl
 have q5:vq[5]? = some (some (V k)):=by rw [← hvq];rfl
 have q6:vq[6]? = some (some (.pointer (some ⟨ab,4,none⟩))):=by rw [← hvq];rfl
 have q7:vq[7]? = some (some av):=by rw [← hvq];rfl
 have q8:vq[8]? = some none:=by rw [← hvq];rfl
 have q9:vq[9]? = some (some (.pointer (some ⟨gb,k,none⟩))):=by rw [← hvq];rfl
 have q10:vq[10]? = some none:=by rw [← hvq];rfl
 have hlenR:rg_whole_r19.length = 11:=by kernel_rfl
 have hk':((k:Nat):Int) < 8:=by omega
 have hcA:∀ {w L1 L2 L3},Lw H W B gb db D L1 L2 L3 w → w.cell? ⟨ab,0,none⟩ = some (.int .i64 ((k:Nat):Int)) ∧ w.cell? ⟨ab,4,none⟩ = some av:=fun h=>by
  have h1:=(h.block ab hHa).trans hA
  rw [← hAk]
  exact ⟨cell_of h1,cell_of h1⟩
 refine wp_region_reg (WI:=fun L σ w=>Qv vq L σ ∧ Lw H W B gb db D (if L 8 = true then updL g k (g k ++ A.pk) else g) (if L 10 = true then updW V k (σ 8) else V) (if L 8 = true then updW V k (σ 8) else V) w ∧ (L 8 = true → ∃ o n c,σ 8 = .slice o n c)) (by kernel_rfl) (List.range 11) (by kernel_rfl) (by rw [hsz];kernel_rfl) ⟨Qv.start _ _,hX.drew,fun h=>by cases h⟩ ?_ ?_
 · clear hvq fin hX
   intro i o L σ a w ho hL hw hV hW
   match i,ho with
   | 0,ho =>
    obtain ⟨t,p,f,e⟩:∃ t p f,rg_whole_r19[0]? = some ⟨some 109,.fieldAddr 33 (.tmp 14) 0,t,p,f,none⟩:=⟨_,_,_,rfl⟩
    obtain rfl:=Option.some.inj (e.symm.trans ho)
    clear e ho
    have e0:a.tmps[14]?.getD undef = .pointer (some ⟨ab,0,none⟩):=(hV.old 14 (by kernel_rfl)).trans b14
    exact wp_of_K (.pointer (some ⟨ab,0,none⟩)) w (fun K' hK'=>by go_simp;exact hK') ⟨_,rfl,hW.1.put q0,hW.2⟩
   | 1,ho =>
    obtain ⟨t,p,f,e⟩:∃ t p f,rg_whole_r19[1]? = some ⟨some 110,.load 3 (.tmp 109),t,p,f,none⟩:=⟨_,_,_,rfl⟩
    obtain rfl:=Option.some.inj (e.symm.trans ho)
    clear e ho
    have e0:a.tmps[109]?.getD undef = .pointer (some ⟨ab,0,none⟩):=val_at (q:=0) (d:=109) hV hW.1 (by kernel_rfl) (hw 0 (by kernel_rfl)) q0
    have c0:=(hcA hW.2.1).1
    exact wp_of_K (.int .i64 ((k:Nat):Int)) w (fun K' hK'=>by go_simp;exact hK') ⟨_,rfl,hW.1.put q1,hW.2⟩
   | 2,ho =>
    obtain ⟨t,p,f,e⟩:∃ t p f,rg_whole_r19[2]? = some ⟨some 111,.fieldAddr 33 (.tmp 14) 0,t,p,f,none⟩:=⟨_,_,_,rfl⟩
    obtain rfl:=Option.some.inj (e.symm.trans ho)
    clear e ho
    have e0:a.tmps[14]?.getD undef = .pointer (some ⟨ab,0,none⟩):=(hV.old 14 (by kernel_rfl)).trans b14
    exact wp_of_K (.pointer (some ⟨ab,0,none⟩)) w (fun K' hK'=>by go_simp;exact hK') ⟨_,rfl,hW.1.put q2,hW.2⟩
   | 3,ho =>
    obtain ⟨t,p,f,e⟩:∃ t p f,rg_whole_r19[3]? = some ⟨some 112,.load 3 (.tmp 111),t,p,f,none⟩:=⟨_,_,_,rfl⟩
    obtain rfl:=Option.some.inj (e.symm.trans ho)
    clear e ho
    have e0:a.tmps[111]?.getD undef = .pointer (some ⟨ab,0,none⟩):=val_at (q:=2) (d:=111) hV hW.1 (by kernel_rfl) (hw 2 (by kernel_rfl)) q2
    have c0:=(hcA hW.2.1).1
    exact wp_of_K (.int .i64 ((k:Nat):Int)) w (fun K' hK'=>by go_simp;exact hK') ⟨_,rfl,hW.1.put q3,hW.2⟩
   | 4,ho =>
    obtain ⟨t,p,f,e⟩:∃ t p f,rg_whole_r19[4]? = some ⟨some 113,.indexAddr 50 (.tmp 12) (.tmp 112),t,p,f,none⟩:=⟨_,_,_,rfl⟩
    obtain rfl:=Option.some.inj (e.symm.trans ho)
    clear e ho
    have e0:a.tmps[12]?.getD undef = .pointer (some ⟨gb,0,none⟩):=(hV.old 12 (by kernel_rfl)).trans b12
    have e1:a.tmps[112]?.getD undef = .int .i64 ((k:Nat):Int):=val_at (q:=3) (d:=112) hV hW.1 (by kernel_rfl) (hw 3 (by kernel_rfl)) q3
    exact wp_of_K (.pointer (some ⟨gb,k,none⟩)) w (fun K' hK'=>by go_simp;exact hK') ⟨_,rfl,hW.1.put q4,hW.2⟩
   | 5,ho =>
    obtain ⟨t,p,f,e⟩:∃ t p f,rg_whole_r19[5]? = some ⟨some 114,.load 22 (.tmp 113),t,p,f,none⟩:=⟨_,_,_,rfl⟩
    obtain rfl:=Option.some.inj (e.symm.trans ho)
    clear e ho
    have e0:a.tmps[113]?.getD undef = .pointer (some ⟨gb,k,none⟩):=val_at (q:=4) (d:=113) hV hW.1 (by kernel_rfl) (hw 4 (by kernel_rfl)) q4
    have h10:=hV.not hL 10 (by kernel_rfl)
    have c0:w.cell? ⟨gb,k,none⟩ = some (V k):=by
     have h:=hW.2.1.gc
     rw [h10] at h
     exact (cell_of h).trans (gotC_at _ hk)
    exact wp_of_K (V k) w (fun K' hK'=>by go_simp;exact hK') ⟨_,rfl,hW.1.put q5,hW.2⟩
   | 6,ho =>
    obtain ⟨t,p,f,e⟩:∃ t p f,rg_whole_r19[6]? = some ⟨some 115,.fieldAddr 33 (.tmp 14) 4,t,p,f,none⟩:=⟨_,_,_,rfl⟩
    obtain rfl:=Option.some.inj (e.symm.trans ho)
    clear e ho
    have e0:a.tmps[14]?.getD undef = .pointer (some ⟨ab,0,none⟩):=(hV.old 14 (by kernel_rfl)).trans b14
    exact wp_of_K (.pointer (some ⟨ab,4,none⟩)) w (fun K' hK'=>by go_simp;exact hK') ⟨_,rfl,hW.1.put q6,hW.2⟩
   | 7,ho =>
    obtain ⟨t,p,f,e⟩:∃ t p f,rg_whole_r19[7]? = some ⟨some 116,.load 22 (.tmp 115),t,p,f,none⟩:=⟨_,_,_,rfl⟩
    obtain rfl:=Option.some.inj (e.symm.trans ho)
    clear e ho
    have e0:a.tmps[115]?.getD undef = .pointer (some ⟨ab,4,none⟩):=val_at (q:=6) (d:=115) hV hW.1 (by kernel_rfl) (hw 6 (by kernel_rfl)) q6
    have c0:=(hcA hW.2.1).2
    exact wp_of_K av w (fun K' hK'=>by go_simp;exact hK') ⟨_,rfl,hW.1.put q7,hW.2⟩
   | 8,ho =>
    obtain ⟨t,p,f,e⟩:∃ t p f,rg_whole_r19[8]? = some ⟨some 117,.call { callee:=.builtin .append,args:=#[.tmp 114,.tmp 116],argTypes:=#[22,22] },t,p,f,none⟩:=⟨_,_,_,rfl⟩
    obtain rfl:=Option.some.inj (e.symm.trans ho)
    clear e ho
    have e0:a.eval (.tmp 114) = V k:=eval_of (val_at (q:=5) (d:=114) hV hW.1 (by kernel_rfl) (hw 5 (by kernel_rfl)) q5)
    have e1:a.eval (.tmp 116) = av:=eval_of (val_at (q:=7) (d:=116) hV hW.1 (by kernel_rfl) (hw 7 (by kernel_rfl)) q7)
    have h10:=hV.not hL 10 (by kernel_rfl)
    have hX:=hW.2.1
    rw [hL,h10] at hX
    have hX:Lw H W B gb db D g V V w:=hX
    have hown:=hX.own k hk
    have hm:maxLen = 9223372036854775807:=rfl
    have hfin:∀ v' w',Lw H W B gb db D (updL g k (g k ++ A.pk)) V (updW V k v') w' → (∃ o n c,v' = .slice o n c) → (∃ v,a.put (some 117) v' = a.put (some 117) v ∧ (Qv vq (upB L 8) (upV σ 8 v) ∧ Lw H W B gb db D (if upB L 8 8 = true then updL g k (g k ++ A.pk) else g) (if upB L 8 10 = true then updW V k (upV σ 8 v 8) else V) (if upB L 8 8 = true then updW V k (upV σ 8 v 8) else V) w' ∧ (upB L 8 8 = true → ∃ o n c,upV σ 8 v 8 = .slice o n c))):=fun v' w' h1 h2=>by
     refine ⟨v',rfl,hW.1.skip q8,?_,fun _=>by rw [upV_same];exact h2⟩
     rw [upB_same,upV_same,show upB L 8 10 = false from (upB_other (by decide)).trans h10]
     exact h1
    rcases hav.2 with ⟨hn1,hn2⟩ | ⟨ga,ca,cur,hs1,hs2,hs3,hs4,hs5,hs6,hs7⟩
    · have hpk:A.pk = []:=List.eq_nil_of_length_eq_zero hn2
      obtain ⟨o,c,hv⟩:=ownsRow_slice hown
      have hcap:(g k).length ≤ c:=by
       rcases hown.2 with ⟨h1,h2⟩ | ⟨g9,c9,cur9,h1,-,-,h2,-⟩
       · omega
       · rw [hv] at h1;injection h1 with h3 h4 h5;omega
      have hrun:=run_append_none (P:=Try.prog) (w:=w) (t:=22) (ty:=t) Try.underlying22 iS1 o (g k).length c hcap
      rw [hv] at e0
      rw [hn1] at e1
      unfold Oper.wp execOp
      simp only [resolve,invoke,builtin,Sem.run_bind,Sem.run_pure,Result.andThen_ok,List.map_toArray,List.map_cons,List.map_nil,e0,e1,hrun]
      refine hfin _ _ ?_ ⟨_,_,_,rfl⟩
      have e2:updL g k (g k ++ A.pk) = g:=by
       funext j
       unfold updL
       split
       · rename_i e;rw [e,hpk,List.append_nil]
       · rfl
      have e3:updW V k (.slice o (g k).length c) = V:=by
       funext j
       unfold updW
       split
       · rename_i e;rw [e,hv]
       · rfl
      rw [e2,e3];exact hX
    · have hga:H ga:=hHv ga (by rw [hs1];rfl)
      have hava:=ownsRow_keep (w':=w) hav fun j hj=>hX.block j (hHv j hj)
      have h:=step_append_src (P:=Try.prog) (w:=w) (ops:=#[]) (o:=⟨some 117,.call { callee:=.builtin .append,args:=#[.tmp 114,.tmp 116],argTypes:=#[22,22] },t,p,f,none⟩) (a:=a) (Q:=Q) (E:=True) (K:=fun a' w'=>∃ v,a' = a.put (some 117) v ∧ (Qv vq (upB L 8) (upV σ 8 v) ∧ Lw H W B gb db D (if upB L 8 8 = true then updL g k (g k ++ A.pk) else g) (if upB L 8 10 = true then updW V k (upV σ 8 v 8) else V) (if upB L 8 8 = true then updW V k (upV σ 8 v 8) else V) w' ∧ (upB L 8 8 = true → ∃ o n c,upV σ 8 v 8 = .slice o n c))) rfl _ _ _ rfl B 9 iS (.string ⟨#[]⟩) 16 Try.underlying22 iS1 iS2 iS3 iS4 rfl (V k) (g k).length (cellS (g k)) e0 hown ⟨ga,0,none⟩ A.pk.length ca (cellS A.pk) (e1.trans hs1) (Tmf.cellS_len _) (by
       intro j u hu
       exact hava.cells (by rw [hs1];rfl) j u hu) (by
       intro y hy
       unfold cellS at hy
       obtain ⟨x,-,rfl⟩:=List.mem_map.1 hy
       rfl) (by omega) (by omega) hX.hB (fun v' w' h1 h2 h3=>hfin v' w' (hX.push hk h1 h2 h3) (by
       obtain ⟨o,c,hv⟩:=ownsRow_slice h1
       exact ⟨_,_,_,hv⟩))
      split at h
      · exact h
      · rename_i hh
        exact absurd (by simp [Region.wanted]) hh
   | 9,ho =>
    obtain ⟨t,p,f,e⟩:∃ t p f,rg_whole_r19[9]? = some ⟨some 118,.indexAddr 50 (.tmp 12) (.tmp 110),t,p,f,none⟩:=⟨_,_,_,rfl⟩
    obtain rfl:=Option.some.inj (e.symm.trans ho)
    clear e ho
    have e0:a.tmps[12]?.getD undef = .pointer (some ⟨gb,0,none⟩):=(hV.old 12 (by kernel_rfl)).trans b12
    have e1:a.tmps[110]?.getD undef = .int .i64 ((k:Nat):Int):=val_at (q:=1) (d:=110) hV hW.1 (by kernel_rfl) (hw 1 (by kernel_rfl)) q1
    exact wp_of_K (.pointer (some ⟨gb,k,none⟩)) w (fun K' hK'=>by go_simp;exact hK') ⟨_,rfl,hW.1.put q9,hW.2⟩
   | 10,ho =>
    obtain ⟨t,p,f,e⟩:∃ t p f,rg_whole_r19[10]? = some ⟨none,.store 22 (.tmp 118) (.tmp 117),t,p,f,none⟩:=⟨_,_,_,rfl⟩
    obtain rfl:=Option.some.inj (e.symm.trans ho)
    clear e ho
    have e0:a.tmps[118]?.getD undef = .pointer (some ⟨gb,k,none⟩):=val_at (q:=9) (d:=118) hV hW.1 (by kernel_rfl) (hw 9 (by kernel_rfl)) q9
    have h8:L 8 = true:=hw 8 (by kernel_rfl)
    obtain ⟨oo,nn,cc,eσ⟩:=hW.2.2 h8
    have e1:a.tmps[117]?.getD undef = .slice oo nn cc:=(hV.val 8 117 (by kernel_rfl) h8).trans eσ
    have hX:=hW.2.1
    rw [hL,h8] at hX
    have hX:Lw H W B gb db D (updL g k (g k ++ A.pk)) V (updW V k (σ 8)) w:=hX
    have c0:w.cell? ⟨gb,k,none⟩ = some (V k):=(cell_of hX.gc).trans (gotC_at _ hk)
    have c1:=fz_of hX.gc k
    have hP:=hX.put (u:=σ 8) hk
    have hres:Lw H W B gb db D (if upB L 10 8 = true then updL g k (g k ++ A.pk) else g) (if upB L 10 10 = true then updW V k (upV σ 10 undef 8) else V) (if upB L 10 8 = true then updW V k (upV σ 10 undef 8) else V) (w.setCell ⟨gb,k,none⟩ (.slice oo nn cc)):=by
     rw [upB_same,show upB L 10 8 = true from (upB_other (by decide)).trans h8,show upV σ 10 undef 8 = σ 8 from upV_other (by decide),← eσ]
     exact hP
    have hr2:upB L 10 8 = true → ∃ o n c,upV σ 10 undef 8 = .slice o n c:=fun _=>⟨oo,nn,cc,(upV_other (by decide)).trans eσ⟩
    have hQ:Qv vq (upB L 10) (upV σ 10 undef):=hW.1.skip q10
    clear hP hX hW eσ
    exact wp_of_K undef (w.setCell ⟨gb,k,none⟩ (.slice oo nn cc)) (fun K' hK'=>by clear hres hr2 hQ;go_simp;exact hK') ⟨_,rfl,hQ,hres,hr2⟩
   | j + 11,ho=>exact absurd (List.getElem?_eq_some_iff.1 ho).1 (by rw [hlenR];omega)
 · intro L σ w' hall hW
   have h8:L 8 = true:=hall 8 (by rw [hlenR];decide)
   have h10:L 10 = true:=hall 10 (by rw [hlenR];decide)
   have hX:=hW.2.1
   rw [h8,h10] at hX
   exact fin σ w' hX
end Go.Am.Cha
