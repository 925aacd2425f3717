/-
 Channels: transmit: two or more lists grow in one region that draws its order. Own work, printed by gen/mkreg.py.
-/
import Derived.Test.YtlgpalokjckdcaaChaWp
import Derived.Test.YtlgpalokjckdcaaTmfAB
namespace Go.Am.Cha
open Go Go.Am Go.Am.Lib Go.Lib Go.Proofs Go.RowKit
open Go.Am.Own
open Go.Am.Pkt (codeOf)
set_option maxRecDepth 100000
variable {H:Nat → Prop} {W w:World} {B sb mb g cap:Nat} {bk:Nat → Nat} {M:MS} {ok:Bool} {bs ss:Nat → Int} {V:Nat → Value} {R:Nat → RowM}
noncomputable def rg_tran_r12:List Oper:=((regOf 12 (codeOf Try.f14)).getD #[]).toList
def js_tran_r12 (x0 x1 x2 x3:Value):List Job:=[⟨2,10,11,37,9,x0⟩,⟨3,18,19,41,3,x1⟩,⟨4,25,26,45,3,x2⟩,⟨5,32,33,49,3,x3⟩]
theorem lit_tran_r12 (e0 e1 e2 e3 e4 e5 e6 e7 e8 e9 e10 e11 e12 e13 e14 e15 e16 e17 e18 e19 e20 e21 e22 e23 e24 e25 e26 e27 e28 e29 e30 e31 e32 e33 e34 e35 e36 e37 e38 e39 e40 e41 e42 e43 e44 e45 e46 e47 e48 e49 e50 e51 e52 e53 e54 e55 e56 e57 e58 e59 e60 e61 e62 e63 e64 e65 e66 e67 e68 e69 e70 e71 e72 e73 e74 e75 e76 e77 e78 e79 e80 e81 e82 e83 e84 e85 e86 e87 e88 e89 e90 e91 e92 e93 e94 e95 e96 e97 e98 e99 e100 e101 e102 e103 e104 e105 e106 e107 e108 e109 e110 e111 e112 e113 e114 e115 e116 e117 e118 e119 e120 e121 e122 e123 e124 e125 e126 e127 e128 e129 e130 e131 e132 e133 e134 e135 e136 e137 e138 e139 e140 e141 e142 e143 e144 e145 e146 e147 e148 e149 e150 e151 e152 e153 e154 e155 e156 e157 e158 e159 e160 e161 e162 e163 e164 e165 e166 e167 e168 e169 e170 e171 e172 e173 e174 e175 e176 e177 e178 e179 e180 e181 e182 e183 e184 e185 e186 e187 e188 e189 e190 e191 e192 e193 e194 e195 e196:Value) (d:List Deferred) (σ:Nat → Value):allT rg_tran_r12 { tmps:=#[e0,e1,e2,e3,e4,e5,e6,e7,e8,e9,e10,e11,e12,e13,e14,e15,e16,e17,e18,e19,e20,e21,e22,e23,e24,e25,e26,e27,e28,e29,e30,e31,e32,e33,e34,e35,e36,e37,e38,e39,e40,e41,e42,e43,e44,e45,e46,e47,e48,e49,e50,e51,e52,e53,e54,e55,e56,e57,e58,e59,e60,e61,e62,e63,e64,e65,e66,e67,e68,e69,e70,e71,e72,e73,e74,e75,e76,e77,e78,e79,e80,e81,e82,e83,e84,e85,e86,e87,e88,e89,e90,e91,e92,e93,e94,e95,e96,e97,e98,e99,e100,e101,e102,e103,e104,e105,e106,e107,e108,e109,e110,e111,e112,e113,e114,e115,e116,e117,e118,e119,e120,e121,e122,e123,e124,e125,e126,e127,e128,e129,e130,e131,e132,e133,e134,e135,e136,e137,e138,e139,e140,e141,e142,e143,e144,e145,e146,e147,e148,e149,e150,e151,e152,e153,e154,e155,e156,e157,e158,e159,e160,e161,e162,e163,e164,e165,e166,e167,e168,e169,e170,e171,e172,e173,e174,e175,e176,e177,e178,e179,e180,e181,e182,e183,e184,e185,e186,e187,e188,e189,e190,e191,e192,e193,e194,e195,e196],defers:=d } σ = { tmps:=#[e0,e1,e2,e3,e4,e5,e6,e7,e8,e9,e10,e11,e12,e13,e14,e15,e16,e17,e18,e19,e20,e21,e22,e23,e24,e25,e26,e27,e28,e29,e30,e31,e32,e33,e34,e35,e36,e37,e38,e39,e40,e41,e42,e43,e44,e45,e46,e47,e48,e49,e50,e51,e52,e53,e54,e55,e56,e57,e58,e59,e60,e61,e62,e63,e64,e65,e66,e67,e68,e69,e70,e71,e72,σ 0,σ 1,σ 2,σ 3,σ 4,σ 5,σ 6,σ 7,σ 8,σ 9,σ 10,σ 11,σ 12,σ 13,σ 14,σ 15,σ 16,σ 17,σ 18,σ 19,σ 20,σ 21,σ 22,σ 23,σ 24,σ 25,σ 26,σ 27,σ 28,σ 29,σ 30,σ 31,σ 32,σ 33,σ 34,σ 35,σ 36,σ 38,σ 39,σ 40,σ 42,σ 43,σ 44,σ 46,σ 47,σ 48,e119,e120,e121,e122,e123,e124,e125,e126,e127,e128,e129,e130,e131,e132,e133,e134,e135,e136,e137,e138,e139,e140,e141,e142,e143,e144,e145,e146,e147,e148,e149,e150,e151,e152,e153,e154,e155,e156,e157,e158,e159,e160,e161,e162,e163,e164,e165,e166,e167,e168,e169,e170,e171,e172,e173,e174,e175,e176,e177,e178,e179,e180,e181,e182,e183,e184,e185,e186,e187,e188,e189,e190,e191,e192,e193,e194,e195,e196],defers:=d }:=by kernel_rfl
set_option maxHeartbeats 6400000 in
theorem tran_r12 {Q:Exit → Act → World → Prop} {base:Act} {ps:ByteArray} {c n2 n3 n4 n5 k2 k3 k4 k5:Nat} {o2 o3 o4 o5:Option Addr} (hsz:base.tmps.size = 197) (b7:base.tmps[7]?.getD undef = .pointer (some ⟨sb,0,none⟩)) (b9:base.tmps[9]?.getD undef = .int .i64 ((c:Nat):Int)) (b10:base.tmps[10]?.getD undef = .string ps) (hG:Sg H W B sb mb g cap bk M ok bs ss V R w) (hV0:V 2 = .slice o2 n2 k2) (hR0:R 2 = (9,.slice o2 n2 k2,(R 2).2.2)) (hn0:(R 2).2.2.length = n2) (l0:n2 + 1 ≤ maxLen) (r0:(n2 + 1) * 16 ≤ 140737488355328) (hV1:V 3 = .slice o3 n3 k3) (hR1:R 3 = (3,.slice o3 n3 k3,(R 3).2.2)) (hn1:(R 3).2.2.length = n3) (l1:n3 + 1 ≤ maxLen) (r1:(n3 + 1) * 8 ≤ 140737488355328) (hV2:V 4 = .slice o4 n4 k4) (hR2:R 4 = (3,.slice o4 n4 k4,(R 4).2.2)) (hn2:(R 4).2.2.length = n4) (l2:n4 + 1 ≤ maxLen) (r2:(n4 + 1) * 8 ≤ 140737488355328) (hV3:V 5 = .slice o5 n5 k5) (hR3:R 5 = (3,.slice o5 n5 k5,(R 5).2.2)) (hn3:(R 5).2.2.length = n5) (l3:n5 + 1 ≤ maxLen) (r3:(n5 + 1) * 8 ≤ 140737488355328) (fin:∀ σ w',Sg H W B sb mb g cap bk M ok bs ss (jV (js_tran_r12 (.string ps) (.int .i64 ((c:Nat):Int)) (.int .i64 (-1)) (.int .i64 (-1))) (fun _=>true) σ V) (jR (js_tran_r12 (.string ps) (.int .i64 ((c:Nat):Int)) (.int .i64 (-1)) (.int .i64 (-1))) (fun _=>true) σ R) w' → (∃ g' c',σ 11 = .slice (some ⟨g',0,none⟩) (n2 + 1) c') → (∃ g' c',σ 19 = .slice (some ⟨g',0,none⟩) (n3 + 1) c') → (∃ g' c',σ 26 = .slice (some ⟨g',0,none⟩) (n4 + 1) c') → (∃ g' c',σ 33 = .slice (some ⟨g',0,none⟩) (n5 + 1) c') → Q .normal (allT rg_tran_r12 base σ) w'):(Code.region 12 rg_tran_r12.toArray true).wp Try.prog Q base w:=by
 obtain ⟨iI,iI1,iI2,iI3,iI4⟩:=Tmf.info3
 obtain ⟨iS,iS1,iS2,iS3,iS4⟩:=infoS
 obtain ⟨vq,hvq⟩:∃ x,([some (.pointer (some ⟨sb,0,none⟩)),some (.pointer (some ⟨sb,0,none⟩)),some (.pointer (some ⟨sb,0,none⟩)),some (.pointer (some ⟨sb,0,none⟩)),some (.pointer (some ⟨sb,0,none⟩)),some (.pointer (some ⟨sb,0,none⟩)),some (.pointer (some ⟨sb,1,none⟩)),some (.pointer (some ⟨sb,3,none⟩)),some (.slice o2 n2 k2),some (.string ps),none,none,some (.pointer (some ⟨sb,0,none⟩)),some (.pointer (some ⟨sb,0,none⟩)),some (.pointer (some ⟨sb,1,none⟩)),some (.pointer (some ⟨sb,4,none⟩)),some (.slice o3 n3 k3),some (.int .i64 ((c:Nat):Int)),none,none,some (.pointer (some ⟨sb,0,none⟩)),some (.pointer (some ⟨sb,0,none⟩)),some (.pointer (some ⟨sb,1,none⟩)),some (.pointer (some ⟨sb,5,none⟩)),some (.slice o4 n4 k4),none,none,some (.pointer (some ⟨sb,0,none⟩)),some (.pointer (some ⟨sb,0,none⟩)),some (.pointer (some ⟨sb,1,none⟩)),some (.pointer (some ⟨sb,6,none⟩)),some (.slice o5 n5 k5),none,none,some (.pointer (some ⟨sb,0,none⟩)),some (.pointer (some ⟨sb,1,none⟩)),some (.pointer (some ⟨sb,3,none⟩)),none,some (.pointer (some ⟨sb,0,none⟩)),some (.pointer (some ⟨sb,1,none⟩)),some (.pointer (some ⟨sb,4,none⟩)),none,some (.pointer (some ⟨sb,0,none⟩)),some (.pointer (some ⟨sb,1,none⟩)),some (.pointer (some ⟨sb,5,none⟩)),none,some (.pointer (some ⟨sb,0,none⟩)),some (.pointer (some ⟨sb,1,none⟩)),some (.pointer (some ⟨sb,6,none⟩)),none]:List (Option Value)) = x:=⟨_,rfl⟩
 obtain ⟨J,hJ⟩:∃ x,(js_tran_r12 (.string ps) (.int .i64 ((c:Nat):Int)) (.int .i64 (-1)) (.int .i64 (-1))) = x:=⟨_,rfl⟩
 have hJok:jobsOk J = true:=by rw [← hJ];rfl
 have hJN:jobN J = [10,18,25,32,11,19,26,33,37,41,45,49]:=by rw [← hJ];rfl
 have hj0:(⟨2,10,11,37,9,.string ps⟩:Job) ∈ J:=by rw [← hJ];simp [js_tran_r12]
 have hj1:(⟨3,18,19,41,3,.int .i64 ((c:Nat):Int)⟩:Job) ∈ J:=by rw [← hJ];simp [js_tran_r12]
 have hj2:(⟨4,25,26,45,3,.int .i64 (-1)⟩:Job) ∈ J:=by rw [← hJ];simp [js_tran_r12]
 have hj3:(⟨5,32,33,49,3,.int .i64 (-1)⟩:Job) ∈ J:=by rw [← hJ];simp [js_tran_r12]
 have q0:vq[0]? = some (some (.pointer (some ⟨sb,0,none⟩))):=by rw [← hvq];rfl
 have q1:vq[1]? = some (some (.pointer (some ⟨sb,0,none⟩))):=by rw [← hvq];rfl
 have q2:vq[2]? = some (some (.pointer (some ⟨sb,0,none⟩))):=by rw [← hvq];rfl
 have q3:vq[3]? = some (some (.pointer (some ⟨sb,0,none⟩))):=by rw [← hvq];rfl
 have q4:vq[4]? = some (some (.pointer (some ⟨sb,0,none⟩))):=by rw [← hvq];rfl
 have q5:vq[5]? = some (some (.pointer (some ⟨sb,0,none⟩))):=by rw [← hvq];rfl
 have q6:vq[6]? = some (some (.pointer (some ⟨sb,1,none⟩))):=by rw [← hvq];rfl
 have q7:vq[7]? = some (some (.pointer (some ⟨sb,3,none⟩))):=by rw [← hvq];rfl
 have q8:vq[8]? = some (some (.slice o2 n2 k2)):=by rw [← hvq];rfl
 have q9:vq[9]? = some (some (.string ps)):=by rw [← hvq];rfl
 have q10:vq[10]? = some (none):=by rw [← hvq];rfl
 have q11:vq[11]? = some (none):=by rw [← hvq];rfl
 have q12:vq[12]? = some (some (.pointer (some ⟨sb,0,none⟩))):=by rw [← hvq];rfl
 have q13:vq[13]? = some (some (.pointer (some ⟨sb,0,none⟩))):=by rw [← hvq];rfl
 have q14:vq[14]? = some (some (.pointer (some ⟨sb,1,none⟩))):=by rw [← hvq];rfl
 have q15:vq[15]? = some (some (.pointer (some ⟨sb,4,none⟩))):=by rw [← hvq];rfl
 have q16:vq[16]? = some (some (.slice o3 n3 k3)):=by rw [← hvq];rfl
 have q17:vq[17]? = some (some (.int .i64 ((c:Nat):Int))):=by rw [← hvq];rfl
 have q18:vq[18]? = some (none):=by rw [← hvq];rfl
 have q19:vq[19]? = some (none):=by rw [← hvq];rfl
 have q20:vq[20]? = some (some (.pointer (some ⟨sb,0,none⟩))):=by rw [← hvq];rfl
 have q21:vq[21]? = some (some (.pointer (some ⟨sb,0,none⟩))):=by rw [← hvq];rfl
 have q22:vq[22]? = some (some (.pointer (some ⟨sb,1,none⟩))):=by rw [← hvq];rfl
 have q23:vq[23]? = some (some (.pointer (some ⟨sb,5,none⟩))):=by rw [← hvq];rfl
 have q24:vq[24]? = some (some (.slice o4 n4 k4)):=by rw [← hvq];rfl
 have q25:vq[25]? = some (none):=by rw [← hvq];rfl
 have q26:vq[26]? = some (none):=by rw [← hvq];rfl
 have q27:vq[27]? = some (some (.pointer (some ⟨sb,0,none⟩))):=by rw [← hvq];rfl
 have q28:vq[28]? = some (some (.pointer (some ⟨sb,0,none⟩))):=by rw [← hvq];rfl
 have q29:vq[29]? = some (some (.pointer (some ⟨sb,1,none⟩))):=by rw [← hvq];rfl
 have q30:vq[30]? = some (some (.pointer (some ⟨sb,6,none⟩))):=by rw [← hvq];rfl
 have q31:vq[31]? = some (some (.slice o5 n5 k5)):=by rw [← hvq];rfl
 have q32:vq[32]? = some (none):=by rw [← hvq];rfl
 have q33:vq[33]? = some (none):=by rw [← hvq];rfl
 have q34:vq[34]? = some (some (.pointer (some ⟨sb,0,none⟩))):=by rw [← hvq];rfl
 have q35:vq[35]? = some (some (.pointer (some ⟨sb,1,none⟩))):=by rw [← hvq];rfl
 have q36:vq[36]? = some (some (.pointer (some ⟨sb,3,none⟩))):=by rw [← hvq];rfl
 have q37:vq[37]? = some (none):=by rw [← hvq];rfl
 have q38:vq[38]? = some (some (.pointer (some ⟨sb,0,none⟩))):=by rw [← hvq];rfl
 have q39:vq[39]? = some (some (.pointer (some ⟨sb,1,none⟩))):=by rw [← hvq];rfl
 have q40:vq[40]? = some (some (.pointer (some ⟨sb,4,none⟩))):=by rw [← hvq];rfl
 have q41:vq[41]? = some (none):=by rw [← hvq];rfl
 have q42:vq[42]? = some (some (.pointer (some ⟨sb,0,none⟩))):=by rw [← hvq];rfl
 have q43:vq[43]? = some (some (.pointer (some ⟨sb,1,none⟩))):=by rw [← hvq];rfl
 have q44:vq[44]? = some (some (.pointer (some ⟨sb,5,none⟩))):=by rw [← hvq];rfl
 have q45:vq[45]? = some (none):=by rw [← hvq];rfl
 have q46:vq[46]? = some (some (.pointer (some ⟨sb,0,none⟩))):=by rw [← hvq];rfl
 have q47:vq[47]? = some (some (.pointer (some ⟨sb,1,none⟩))):=by rw [← hvq];rfl
 have q48:vq[48]? = some (some (.pointer (some ⟨sb,6,none⟩))):=by rw [← hvq];rfl
 have q49:vq[49]? = some (none):=by rw [← hvq];rfl
 have hlen:rg_tran_r12.length = 50:=by kernel_rfl
 rw [hJ] at fin
 refine wp_region_reg (WI:=fun L σ w=>Qv vq L σ ∧ Pw J H W B sb mb g cap bk M ok bs ss V R L σ w) (by kernel_rfl) (List.range 50) (by kernel_rfl) (by rw [hsz];kernel_rfl) ⟨Qv.start _ _,Pw.start hG.drew⟩ ?_ ?_
 · clear hvq hJ fin hG
   intro i o L σ a w ho hL hw hV hW
   match i,ho with
   | 0,ho =>
    obtain ⟨t,p,f,e⟩:∃ t p f,rg_tran_r12[0]? = some ⟨some 73,.move (.tmp 7),t,p,f,none⟩:=⟨_,_,_,rfl⟩
    obtain rfl:=Option.some.inj (e.symm.trans ho)
    clear e ho
    have e0:a.tmps[7]?.getD undef = .pointer (some ⟨sb,0,none⟩):=(hV.old 7 (by kernel_rfl)).trans b7
    exact wp_of_K (.pointer (some ⟨sb,0,none⟩)) w (fun K' hK'=>by go_simp;exact hK') ⟨_,rfl,hW.1.put q0,hW.2.quiet (by rw [hJN];decide)⟩
   | 1,ho =>
    obtain ⟨t,p,f,e⟩:∃ t p f,rg_tran_r12[1]? = some ⟨some 74,.move (.tmp 7),t,p,f,none⟩:=⟨_,_,_,rfl⟩
    obtain rfl:=Option.some.inj (e.symm.trans ho)
    clear e ho
    have e0:a.tmps[7]?.getD undef = .pointer (some ⟨sb,0,none⟩):=(hV.old 7 (by kernel_rfl)).trans b7
    exact wp_of_K (.pointer (some ⟨sb,0,none⟩)) w (fun K' hK'=>by go_simp;exact hK') ⟨_,rfl,hW.1.put q1,hW.2.quiet (by rw [hJN];decide)⟩
   | 2,ho =>
    obtain ⟨t,p,f,e⟩:∃ t p f,rg_tran_r12[2]? = some ⟨some 75,.move (.tmp 7),t,p,f,none⟩:=⟨_,_,_,rfl⟩
    obtain rfl:=Option.some.inj (e.symm.trans ho)
    clear e ho
    have e0:a.tmps[7]?.getD undef = .pointer (some ⟨sb,0,none⟩):=(hV.old 7 (by kernel_rfl)).trans b7
    exact wp_of_K (.pointer (some ⟨sb,0,none⟩)) w (fun K' hK'=>by go_simp;exact hK') ⟨_,rfl,hW.1.put q2,hW.2.quiet (by rw [hJN];decide)⟩
   | 3,ho =>
    obtain ⟨t,p,f,e⟩:∃ t p f,rg_tran_r12[3]? = some ⟨some 76,.move (.tmp 7),t,p,f,none⟩:=⟨_,_,_,rfl⟩
    obtain rfl:=Option.some.inj (e.symm.trans ho)
    clear e ho
    have e0:a.tmps[7]?.getD undef = .pointer (some ⟨sb,0,none⟩):=(hV.old 7 (by kernel_rfl)).trans b7
    exact wp_of_K (.pointer (some ⟨sb,0,none⟩)) w (fun K' hK'=>by go_simp;exact hK') ⟨_,rfl,hW.1.put q3,hW.2.quiet (by rw [hJN];decide)⟩
   | 4,ho =>
    obtain ⟨t,p,f,e⟩:∃ t p f,rg_tran_r12[4]? = some ⟨some 77,.move (.tmp 7),t,p,f,none⟩:=⟨_,_,_,rfl⟩
    obtain rfl:=Option.some.inj (e.symm.trans ho)
    clear e ho
    have e0:a.tmps[7]?.getD undef = .pointer (some ⟨sb,0,none⟩):=(hV.old 7 (by kernel_rfl)).trans b7
    exact wp_of_K (.pointer (some ⟨sb,0,none⟩)) w (fun K' hK'=>by go_simp;exact hK') ⟨_,rfl,hW.1.put q4,hW.2.quiet (by rw [hJN];decide)⟩
   | 5,ho =>
    obtain ⟨t,p,f,e⟩:∃ t p f,rg_tran_r12[5]? = some ⟨some 78,.nilCheck (.tmp 77),t,p,f,none⟩:=⟨_,_,_,rfl⟩
    obtain rfl:=Option.some.inj (e.symm.trans ho)
    clear e ho
    have e0:a.tmps[77]?.getD undef = .pointer (some ⟨sb,0,none⟩):=val_at (q:=4) (d:=77) hV hW.1 (by kernel_rfl) (hw 4 (by kernel_rfl)) q4
    exact wp_of_K (.pointer (some ⟨sb,0,none⟩)) w (fun K' hK'=>by go_simp;exact hK') ⟨_,rfl,hW.1.put q5,hW.2.quiet (by rw [hJN];decide)⟩
   | 6,ho =>
    obtain ⟨t,p,f,e⟩:∃ t p f,rg_tran_r12[6]? = some ⟨some 79,.fieldAddr 96 (.tmp 78) 1,t,p,f,none⟩:=⟨_,_,_,rfl⟩
    obtain rfl:=Option.some.inj (e.symm.trans ho)
    clear e ho
    have e0:a.tmps[78]?.getD undef = .pointer (some ⟨sb,0,none⟩):=val_at (q:=5) (d:=78) hV hW.1 (by kernel_rfl) (hw 5 (by kernel_rfl)) q5
    exact wp_of_K (.pointer (some ⟨sb,1,none⟩)) w (fun K' hK'=>by go_simp;exact hK') ⟨_,rfl,hW.1.put q6,hW.2.quiet (by rw [hJN];decide)⟩
   | 7,ho =>
    obtain ⟨t,p,f,e⟩:∃ t p f,rg_tran_r12[7]? = some ⟨some 80,.fieldAddr 45 (.tmp 79) 2,t,p,f,none⟩:=⟨_,_,_,rfl⟩
    obtain rfl:=Option.some.inj (e.symm.trans ho)
    clear e ho
    have e0:a.tmps[79]?.getD undef = .pointer (some ⟨sb,1,none⟩):=val_at (q:=6) (d:=79) hV hW.1 (by kernel_rfl) (hw 6 (by kernel_rfl)) q6
    exact wp_of_K (.pointer (some ⟨sb,3,none⟩)) w (fun K' hK'=>by go_simp;exact hK') ⟨_,rfl,hW.1.put q7,hW.2.quiet (by rw [hJN];decide)⟩
   | 8,ho =>
    obtain ⟨t,p,f,e⟩:∃ t p f,rg_tran_r12[8]? = some ⟨some 81,.load 22 (.tmp 80),t,p,f,none⟩:=⟨_,_,_,rfl⟩
    obtain rfl:=Option.some.inj (e.symm.trans ho)
    clear e ho
    have e0:a.tmps[80]?.getD undef = .pointer (some ⟨sb,3,none⟩):=val_at (q:=7) (d:=80) hV hW.1 (by kernel_rfl) (hw 7 (by kernel_rfl)) q7
    have c0:w.cell? ⟨sb,3,none⟩ = some (.slice o2 n2 k2):=(hW.2.cellV hJok hj0 (hV.not hL 37 (by kernel_rfl))).trans (congrArg some hV0)
    exact wp_of_K (.slice o2 n2 k2) w (fun K' hK'=>by go_simp;exact hK') ⟨_,rfl,hW.1.put q8,hW.2.quiet (by rw [hJN];decide)⟩
   | 9,ho =>
    obtain ⟨t,p,f,e⟩:∃ t p f,rg_tran_r12[9]? = some ⟨some 82,.move (.tmp 10),t,p,f,none⟩:=⟨_,_,_,rfl⟩
    obtain rfl:=Option.some.inj (e.symm.trans ho)
    clear e ho
    have e0:a.tmps[10]?.getD undef = .string ps:=(hV.old 10 (by kernel_rfl)).trans b10
    exact wp_of_K (.string ps) w (fun K' hK'=>by go_simp;exact hK') ⟨_,rfl,hW.1.put q9,hW.2.quiet (by rw [hJN];decide)⟩
   | 10,ho =>
    obtain ⟨t,p,f,e⟩:∃ t p f,rg_tran_r12[10]? = some ⟨some 83,.buildSlice 22 1 #[(0,.tmp 82)],t,p,f,none⟩:=⟨_,_,_,rfl⟩
    obtain rfl:=Option.some.inj (e.symm.trans ho)
    clear e ho
    have e0:a.tmps[82]?.getD undef = .string ps:=val_at (q:=9) (d:=82) hV hW.1 (by kernel_rfl) (hw 9 (by kernel_rfl)) q9
    exact wp_of_K (.slice (some ⟨w.heap.size,0,none⟩) 1 1) (w.alloc (.cells #[.string ps] 9)) (fun K' hK'=>by go_simp;exact hK') ⟨_,rfl,hW.1.skip q10,hW.2.make hJok hj0⟩
   | 11,ho =>
    obtain ⟨t,p,f,e⟩:∃ t p f,rg_tran_r12[11]? = some ⟨some 84,.call { callee:=.builtin .append,args:=#[.tmp 81,.tmp 83],argTypes:=#[22,22] },t,p,f,none⟩:=⟨_,_,_,rfl⟩
    obtain rfl:=Option.some.inj (e.symm.trans ho)
    clear e ho
    have e0:a.eval (.tmp 81) = .slice o2 n2 k2:=eval_of (val_at (q:=8) (d:=81) hV hW.1 (by kernel_rfl) (hw 8 (by kernel_rfl)) q8)
    have e1:a.eval (.tmp 83) = σ 10:=eval_of (hV.val 10 83 (by kernel_rfl) (hw 10 (by kernel_rfl)))
    refine Oper.wp_mono ?_ (hW.2.app hJok hj0 rfl Try.underlying22 iS1 iS2 iS3 iS4 rfl hR0 hn0 rfl l0 r0 (hw 10 (by kernel_rfl)) hL (hV.not hL 37 (by kernel_rfl)) e0 e1)
    rintro a' w' ⟨v,hv,hP⟩
    exact ⟨v,hv,hW.1.skip q11,hP⟩
   | 12,ho =>
    obtain ⟨t,p,f,e⟩:∃ t p f,rg_tran_r12[12]? = some ⟨some 85,.move (.tmp 7),t,p,f,none⟩:=⟨_,_,_,rfl⟩
    obtain rfl:=Option.some.inj (e.symm.trans ho)
    clear e ho
    have e0:a.tmps[7]?.getD undef = .pointer (some ⟨sb,0,none⟩):=(hV.old 7 (by kernel_rfl)).trans b7
    exact wp_of_K (.pointer (some ⟨sb,0,none⟩)) w (fun K' hK'=>by go_simp;exact hK') ⟨_,rfl,hW.1.put q12,hW.2.quiet (by rw [hJN];decide)⟩
   | 13,ho =>
    obtain ⟨t,p,f,e⟩:∃ t p f,rg_tran_r12[13]? = some ⟨some 86,.nilCheck (.tmp 85),t,p,f,none⟩:=⟨_,_,_,rfl⟩
    obtain rfl:=Option.some.inj (e.symm.trans ho)
    clear e ho
    have e0:a.tmps[85]?.getD undef = .pointer (some ⟨sb,0,none⟩):=val_at (q:=12) (d:=85) hV hW.1 (by kernel_rfl) (hw 12 (by kernel_rfl)) q12
    exact wp_of_K (.pointer (some ⟨sb,0,none⟩)) w (fun K' hK'=>by go_simp;exact hK') ⟨_,rfl,hW.1.put q13,hW.2.quiet (by rw [hJN];decide)⟩
   | 14,ho =>
    obtain ⟨t,p,f,e⟩:∃ t p f,rg_tran_r12[14]? = some ⟨some 87,.fieldAddr 96 (.tmp 86) 1,t,p,f,none⟩:=⟨_,_,_,rfl⟩
    obtain rfl:=Option.some.inj (e.symm.trans ho)
    clear e ho
    have e0:a.tmps[86]?.getD undef = .pointer (some ⟨sb,0,none⟩):=val_at (q:=13) (d:=86) hV hW.1 (by kernel_rfl) (hw 13 (by kernel_rfl)) q13
    exact wp_of_K (.pointer (some ⟨sb,1,none⟩)) w (fun K' hK'=>by go_simp;exact hK') ⟨_,rfl,hW.1.put q14,hW.2.quiet (by rw [hJN];decide)⟩
   | 15,ho =>
    obtain ⟨t,p,f,e⟩:∃ t p f,rg_tran_r12[15]? = some ⟨some 88,.fieldAddr 45 (.tmp 87) 3,t,p,f,none⟩:=⟨_,_,_,rfl⟩
    obtain rfl:=Option.some.inj (e.symm.trans ho)
    clear e ho
    have e0:a.tmps[87]?.getD undef = .pointer (some ⟨sb,1,none⟩):=val_at (q:=14) (d:=87) hV hW.1 (by kernel_rfl) (hw 14 (by kernel_rfl)) q14
    exact wp_of_K (.pointer (some ⟨sb,4,none⟩)) w (fun K' hK'=>by go_simp;exact hK') ⟨_,rfl,hW.1.put q15,hW.2.quiet (by rw [hJN];decide)⟩
   | 16,ho =>
    obtain ⟨t,p,f,e⟩:∃ t p f,rg_tran_r12[16]? = some ⟨some 89,.load 43 (.tmp 88),t,p,f,none⟩:=⟨_,_,_,rfl⟩
    obtain rfl:=Option.some.inj (e.symm.trans ho)
    clear e ho
    have e0:a.tmps[88]?.getD undef = .pointer (some ⟨sb,4,none⟩):=val_at (q:=15) (d:=88) hV hW.1 (by kernel_rfl) (hw 15 (by kernel_rfl)) q15
    have c0:w.cell? ⟨sb,4,none⟩ = some (.slice o3 n3 k3):=(hW.2.cellV hJok hj1 (hV.not hL 41 (by kernel_rfl))).trans (congrArg some hV1)
    exact wp_of_K (.slice o3 n3 k3) w (fun K' hK'=>by go_simp;exact hK') ⟨_,rfl,hW.1.put q16,hW.2.quiet (by rw [hJN];decide)⟩
   | 17,ho =>
    obtain ⟨t,p,f,e⟩:∃ t p f,rg_tran_r12[17]? = some ⟨some 90,.move (.tmp 9),t,p,f,none⟩:=⟨_,_,_,rfl⟩
    obtain rfl:=Option.some.inj (e.symm.trans ho)
    clear e ho
    have e0:a.tmps[9]?.getD undef = .int .i64 ((c:Nat):Int):=(hV.old 9 (by kernel_rfl)).trans b9
    exact wp_of_K (.int .i64 ((c:Nat):Int)) w (fun K' hK'=>by go_simp;exact hK') ⟨_,rfl,hW.1.put q17,hW.2.quiet (by rw [hJN];decide)⟩
   | 18,ho =>
    obtain ⟨t,p,f,e⟩:∃ t p f,rg_tran_r12[18]? = some ⟨some 91,.buildSlice 43 1 #[(0,.tmp 90)],t,p,f,none⟩:=⟨_,_,_,rfl⟩
    obtain rfl:=Option.some.inj (e.symm.trans ho)
    clear e ho
    have e0:a.tmps[90]?.getD undef = .int .i64 ((c:Nat):Int):=val_at (q:=17) (d:=90) hV hW.1 (by kernel_rfl) (hw 17 (by kernel_rfl)) q17
    exact wp_of_K (.slice (some ⟨w.heap.size,0,none⟩) 1 1) (w.alloc (.cells #[.int .i64 ((c:Nat):Int)] 3)) (fun K' hK'=>by go_simp;exact hK') ⟨_,rfl,hW.1.skip q18,hW.2.make hJok hj1⟩
   | 19,ho =>
    obtain ⟨t,p,f,e⟩:∃ t p f,rg_tran_r12[19]? = some ⟨some 92,.call { callee:=.builtin .append,args:=#[.tmp 89,.tmp 91],argTypes:=#[43,43] },t,p,f,none⟩:=⟨_,_,_,rfl⟩
    obtain rfl:=Option.some.inj (e.symm.trans ho)
    clear e ho
    have e0:a.eval (.tmp 89) = .slice o3 n3 k3:=eval_of (val_at (q:=16) (d:=89) hV hW.1 (by kernel_rfl) (hw 16 (by kernel_rfl)) q16)
    have e1:a.eval (.tmp 91) = σ 18:=eval_of (hV.val 18 91 (by kernel_rfl) (hw 18 (by kernel_rfl)))
    refine Oper.wp_mono ?_ (hW.2.app hJok hj1 rfl Try.underlying43 iI1 iI2 iI3 iI4 rfl hR1 hn1 rfl l1 r1 (hw 18 (by kernel_rfl)) hL (hV.not hL 41 (by kernel_rfl)) e0 e1)
    rintro a' w' ⟨v,hv,hP⟩
    exact ⟨v,hv,hW.1.skip q19,hP⟩
   | 20,ho =>
    obtain ⟨t,p,f,e⟩:∃ t p f,rg_tran_r12[20]? = some ⟨some 93,.move (.tmp 7),t,p,f,none⟩:=⟨_,_,_,rfl⟩
    obtain rfl:=Option.some.inj (e.symm.trans ho)
    clear e ho
    have e0:a.tmps[7]?.getD undef = .pointer (some ⟨sb,0,none⟩):=(hV.old 7 (by kernel_rfl)).trans b7
    exact wp_of_K (.pointer (some ⟨sb,0,none⟩)) w (fun K' hK'=>by go_simp;exact hK') ⟨_,rfl,hW.1.put q20,hW.2.quiet (by rw [hJN];decide)⟩
   | 21,ho =>
    obtain ⟨t,p,f,e⟩:∃ t p f,rg_tran_r12[21]? = some ⟨some 94,.nilCheck (.tmp 93),t,p,f,none⟩:=⟨_,_,_,rfl⟩
    obtain rfl:=Option.some.inj (e.symm.trans ho)
    clear e ho
    have e0:a.tmps[93]?.getD undef = .pointer (some ⟨sb,0,none⟩):=val_at (q:=20) (d:=93) hV hW.1 (by kernel_rfl) (hw 20 (by kernel_rfl)) q20
    exact wp_of_K (.pointer (some ⟨sb,0,none⟩)) w (fun K' hK'=>by go_simp;exact hK') ⟨_,rfl,hW.1.put q21,hW.2.quiet (by rw [hJN];decide)⟩
   | 22,ho =>
    obtain ⟨t,p,f,e⟩:∃ t p f,rg_tran_r12[22]? = some ⟨some 95,.fieldAddr 96 (.tmp 94) 1,t,p,f,none⟩:=⟨_,_,_,rfl⟩
    obtain rfl:=Option.some.inj (e.symm.trans ho)
    clear e ho
    have e0:a.tmps[94]?.getD undef = .pointer (some ⟨sb,0,none⟩):=val_at (q:=21) (d:=94) hV hW.1 (by kernel_rfl) (hw 21 (by kernel_rfl)) q21
    exact wp_of_K (.pointer (some ⟨sb,1,none⟩)) w (fun K' hK'=>by go_simp;exact hK') ⟨_,rfl,hW.1.put q22,hW.2.quiet (by rw [hJN];decide)⟩
   | 23,ho =>
    obtain ⟨t,p,f,e⟩:∃ t p f,rg_tran_r12[23]? = some ⟨some 96,.fieldAddr 45 (.tmp 95) 4,t,p,f,none⟩:=⟨_,_,_,rfl⟩
    obtain rfl:=Option.some.inj (e.symm.trans ho)
    clear e ho
    have e0:a.tmps[95]?.getD undef = .pointer (some ⟨sb,1,none⟩):=val_at (q:=22) (d:=95) hV hW.1 (by kernel_rfl) (hw 22 (by kernel_rfl)) q22
    exact wp_of_K (.pointer (some ⟨sb,5,none⟩)) w (fun K' hK'=>by go_simp;exact hK') ⟨_,rfl,hW.1.put q23,hW.2.quiet (by rw [hJN];decide)⟩
   | 24,ho =>
    obtain ⟨t,p,f,e⟩:∃ t p f,rg_tran_r12[24]? = some ⟨some 97,.load 43 (.tmp 96),t,p,f,none⟩:=⟨_,_,_,rfl⟩
    obtain rfl:=Option.some.inj (e.symm.trans ho)
    clear e ho
    have e0:a.tmps[96]?.getD undef = .pointer (some ⟨sb,5,none⟩):=val_at (q:=23) (d:=96) hV hW.1 (by kernel_rfl) (hw 23 (by kernel_rfl)) q23
    have c0:w.cell? ⟨sb,5,none⟩ = some (.slice o4 n4 k4):=(hW.2.cellV hJok hj2 (hV.not hL 45 (by kernel_rfl))).trans (congrArg some hV2)
    exact wp_of_K (.slice o4 n4 k4) w (fun K' hK'=>by go_simp;exact hK') ⟨_,rfl,hW.1.put q24,hW.2.quiet (by rw [hJN];decide)⟩
   | 25,ho =>
    obtain ⟨t,p,f,e⟩:∃ t p f,rg_tran_r12[25]? = some ⟨some 98,.buildSlice 43 1 #[(0,.const (.int .i64 (-1)))],t,p,f,none⟩:=⟨_,_,_,rfl⟩
    obtain rfl:=Option.some.inj (e.symm.trans ho)
    clear e ho
    exact wp_of_K (.slice (some ⟨w.heap.size,0,none⟩) 1 1) (w.alloc (.cells #[.int .i64 (-1)] 3)) (fun K' hK'=>by go_simp;exact hK') ⟨_,rfl,hW.1.skip q25,hW.2.make hJok hj2⟩
   | 26,ho =>
    obtain ⟨t,p,f,e⟩:∃ t p f,rg_tran_r12[26]? = some ⟨some 99,.call { callee:=.builtin .append,args:=#[.tmp 97,.tmp 98],argTypes:=#[43,43] },t,p,f,none⟩:=⟨_,_,_,rfl⟩
    obtain rfl:=Option.some.inj (e.symm.trans ho)
    clear e ho
    have e0:a.eval (.tmp 97) = .slice o4 n4 k4:=eval_of (val_at (q:=24) (d:=97) hV hW.1 (by kernel_rfl) (hw 24 (by kernel_rfl)) q24)
    have e1:a.eval (.tmp 98) = σ 25:=eval_of (hV.val 25 98 (by kernel_rfl) (hw 25 (by kernel_rfl)))
    refine Oper.wp_mono ?_ (hW.2.app hJok hj2 rfl Try.underlying43 iI1 iI2 iI3 iI4 rfl hR2 hn2 rfl l2 r2 (hw 25 (by kernel_rfl)) hL (hV.not hL 45 (by kernel_rfl)) e0 e1)
    rintro a' w' ⟨v,hv,hP⟩
    exact ⟨v,hv,hW.1.skip q26,hP⟩
   | 27,ho =>
    obtain ⟨t,p,f,e⟩:∃ t p f,rg_tran_r12[27]? = some ⟨some 100,.move (.tmp 7),t,p,f,none⟩:=⟨_,_,_,rfl⟩
    obtain rfl:=Option.some.inj (e.symm.trans ho)
    clear e ho
    have e0:a.tmps[7]?.getD undef = .pointer (some ⟨sb,0,none⟩):=(hV.old 7 (by kernel_rfl)).trans b7
    exact wp_of_K (.pointer (some ⟨sb,0,none⟩)) w (fun K' hK'=>by go_simp;exact hK') ⟨_,rfl,hW.1.put q27,hW.2.quiet (by rw [hJN];decide)⟩
   | 28,ho =>
    obtain ⟨t,p,f,e⟩:∃ t p f,rg_tran_r12[28]? = some ⟨some 101,.nilCheck (.tmp 100),t,p,f,none⟩:=⟨_,_,_,rfl⟩
    obtain rfl:=Option.some.inj (e.symm.trans ho)
    clear e ho
    have e0:a.tmps[100]?.getD undef = .pointer (some ⟨sb,0,none⟩):=val_at (q:=27) (d:=100) hV hW.1 (by kernel_rfl) (hw 27 (by kernel_rfl)) q27
    exact wp_of_K (.pointer (some ⟨sb,0,none⟩)) w (fun K' hK'=>by go_simp;exact hK') ⟨_,rfl,hW.1.put q28,hW.2.quiet (by rw [hJN];decide)⟩
   | 29,ho =>
    obtain ⟨t,p,f,e⟩:∃ t p f,rg_tran_r12[29]? = some ⟨some 102,.fieldAddr 96 (.tmp 101) 1,t,p,f,none⟩:=⟨_,_,_,rfl⟩
    obtain rfl:=Option.some.inj (e.symm.trans ho)
    clear e ho
    have e0:a.tmps[101]?.getD undef = .pointer (some ⟨sb,0,none⟩):=val_at (q:=28) (d:=101) hV hW.1 (by kernel_rfl) (hw 28 (by kernel_rfl)) q28
    exact wp_of_K (.pointer (some ⟨sb,1,none⟩)) w (fun K' hK'=>by go_simp;exact hK') ⟨_,rfl,hW.1.put q29,hW.2.quiet (by rw [hJN];decide)⟩
   | 30,ho =>
    obtain ⟨t,p,f,e⟩:∃ t p f,rg_tran_r12[30]? = some ⟨some 103,.fieldAddr 45 (.tmp 102) 5,t,p,f,none⟩:=⟨_,_,_,rfl⟩
    obtain rfl:=Option.some.inj (e.symm.trans ho)
    clear e ho
    have e0:a.tmps[102]?.getD undef = .pointer (some ⟨sb,1,none⟩):=val_at (q:=29) (d:=102) hV hW.1 (by kernel_rfl) (hw 29 (by kernel_rfl)) q29
    exact wp_of_K (.pointer (some ⟨sb,6,none⟩)) w (fun K' hK'=>by go_simp;exact hK') ⟨_,rfl,hW.1.put q30,hW.2.quiet (by rw [hJN];decide)⟩
   | 31,ho =>
    obtain ⟨t,p,f,e⟩:∃ t p f,rg_tran_r12[31]? = some ⟨some 104,.load 43 (.tmp 103),t,p,f,none⟩:=⟨_,_,_,rfl⟩
    obtain rfl:=Option.some.inj (e.symm.trans ho)
    clear e ho
    have e0:a.tmps[103]?.getD undef = .pointer (some ⟨sb,6,none⟩):=val_at (q:=30) (d:=103) hV hW.1 (by kernel_rfl) (hw 30 (by kernel_rfl)) q30
    have c0:w.cell? ⟨sb,6,none⟩ = some (.slice o5 n5 k5):=(hW.2.cellV hJok hj3 (hV.not hL 49 (by kernel_rfl))).trans (congrArg some hV3)
    exact wp_of_K (.slice o5 n5 k5) w (fun K' hK'=>by go_simp;exact hK') ⟨_,rfl,hW.1.put q31,hW.2.quiet (by rw [hJN];decide)⟩
   | 32,ho =>
    obtain ⟨t,p,f,e⟩:∃ t p f,rg_tran_r12[32]? = some ⟨some 105,.buildSlice 43 1 #[(0,.const (.int .i64 (-1)))],t,p,f,none⟩:=⟨_,_,_,rfl⟩
    obtain rfl:=Option.some.inj (e.symm.trans ho)
    clear e ho
    exact wp_of_K (.slice (some ⟨w.heap.size,0,none⟩) 1 1) (w.alloc (.cells #[.int .i64 (-1)] 3)) (fun K' hK'=>by go_simp;exact hK') ⟨_,rfl,hW.1.skip q32,hW.2.make hJok hj3⟩
   | 33,ho =>
    obtain ⟨t,p,f,e⟩:∃ t p f,rg_tran_r12[33]? = some ⟨some 106,.call { callee:=.builtin .append,args:=#[.tmp 104,.tmp 105],argTypes:=#[43,43] },t,p,f,none⟩:=⟨_,_,_,rfl⟩
    obtain rfl:=Option.some.inj (e.symm.trans ho)
    clear e ho
    have e0:a.eval (.tmp 104) = .slice o5 n5 k5:=eval_of (val_at (q:=31) (d:=104) hV hW.1 (by kernel_rfl) (hw 31 (by kernel_rfl)) q31)
    have e1:a.eval (.tmp 105) = σ 32:=eval_of (hV.val 32 105 (by kernel_rfl) (hw 32 (by kernel_rfl)))
    refine Oper.wp_mono ?_ (hW.2.app hJok hj3 rfl Try.underlying43 iI1 iI2 iI3 iI4 rfl hR3 hn3 rfl l3 r3 (hw 32 (by kernel_rfl)) hL (hV.not hL 49 (by kernel_rfl)) e0 e1)
    rintro a' w' ⟨v,hv,hP⟩
    exact ⟨v,hv,hW.1.skip q33,hP⟩
   | 34,ho =>
    obtain ⟨t,p,f,e⟩:∃ t p f,rg_tran_r12[34]? = some ⟨some 107,.nilCheck (.tmp 73),t,p,f,none⟩:=⟨_,_,_,rfl⟩
    obtain rfl:=Option.some.inj (e.symm.trans ho)
    clear e ho
    have e0:a.tmps[73]?.getD undef = .pointer (some ⟨sb,0,none⟩):=val_at (q:=0) (d:=73) hV hW.1 (by kernel_rfl) (hw 0 (by kernel_rfl)) q0
    exact wp_of_K (.pointer (some ⟨sb,0,none⟩)) w (fun K' hK'=>by go_simp;exact hK') ⟨_,rfl,hW.1.put q34,hW.2.quiet (by rw [hJN];decide)⟩
   | 35,ho =>
    obtain ⟨t,p,f,e⟩:∃ t p f,rg_tran_r12[35]? = some ⟨some 108,.fieldAddr 96 (.tmp 107) 1,t,p,f,none⟩:=⟨_,_,_,rfl⟩
    obtain rfl:=Option.some.inj (e.symm.trans ho)
    clear e ho
    have e0:a.tmps[107]?.getD undef = .pointer (some ⟨sb,0,none⟩):=val_at (q:=34) (d:=107) hV hW.1 (by kernel_rfl) (hw 34 (by kernel_rfl)) q34
    exact wp_of_K (.pointer (some ⟨sb,1,none⟩)) w (fun K' hK'=>by go_simp;exact hK') ⟨_,rfl,hW.1.put q35,hW.2.quiet (by rw [hJN];decide)⟩
   | 36,ho =>
    obtain ⟨t,p,f,e⟩:∃ t p f,rg_tran_r12[36]? = some ⟨some 109,.fieldAddr 45 (.tmp 108) 2,t,p,f,none⟩:=⟨_,_,_,rfl⟩
    obtain rfl:=Option.some.inj (e.symm.trans ho)
    clear e ho
    have e0:a.tmps[108]?.getD undef = .pointer (some ⟨sb,1,none⟩):=val_at (q:=35) (d:=108) hV hW.1 (by kernel_rfl) (hw 35 (by kernel_rfl)) q35
    exact wp_of_K (.pointer (some ⟨sb,3,none⟩)) w (fun K' hK'=>by go_simp;exact hK') ⟨_,rfl,hW.1.put q36,hW.2.quiet (by rw [hJN];decide)⟩
   | 37,ho =>
    obtain ⟨t,p,f,e⟩:∃ t p f,rg_tran_r12[37]? = some ⟨none,.store 22 (.tmp 109) (.tmp 84),t,p,f,none⟩:=⟨_,_,_,rfl⟩
    obtain rfl:=Option.some.inj (e.symm.trans ho)
    clear e ho
    have e0:a.tmps[109]?.getD undef = .pointer (some ⟨sb,3,none⟩):=val_at (q:=36) (d:=109) hV hW.1 (by kernel_rfl) (hw 36 (by kernel_rfl)) q36
    obtain ⟨g',c',eσ⟩:=hW.2.slice hj0 (hw 11 (by kernel_rfl))
    have e1:a.tmps[84]?.getD undef = _:=(hV.val 11 84 (by kernel_rfl) (hw 11 (by kernel_rfl))).trans eσ
    have c0:w.cell? ⟨sb,3,none⟩ = some (.slice o2 n2 k2):=(hW.2.cellV hJok hj0 hL).trans (congrArg some hV0)
    have c1:w.frozen? ⟨sb,3,none⟩ = false:=hW.2.fz 3
    have hS:=hW.2.store hJok hj0 undef
    simp only [eσ] at hS
    exact wp_of_K undef (w.setCell ⟨sb,3,none⟩ (.slice (some ⟨g',0,none⟩) ((R 2).2.2.length + 1) c')) (fun K' hK'=>by clear hR0 hn0 hR1 hn1 hR2 hn2 hR3 hn3;go_simp;exact hK') ⟨_,rfl,hW.1.skip q37,hS⟩
   | 38,ho =>
    obtain ⟨t,p,f,e⟩:∃ t p f,rg_tran_r12[38]? = some ⟨some 110,.nilCheck (.tmp 74),t,p,f,none⟩:=⟨_,_,_,rfl⟩
    obtain rfl:=Option.some.inj (e.symm.trans ho)
    clear e ho
    have e0:a.tmps[74]?.getD undef = .pointer (some ⟨sb,0,none⟩):=val_at (q:=1) (d:=74) hV hW.1 (by kernel_rfl) (hw 1 (by kernel_rfl)) q1
    exact wp_of_K (.pointer (some ⟨sb,0,none⟩)) w (fun K' hK'=>by go_simp;exact hK') ⟨_,rfl,hW.1.put q38,hW.2.quiet (by rw [hJN];decide)⟩
   | 39,ho =>
    obtain ⟨t,p,f,e⟩:∃ t p f,rg_tran_r12[39]? = some ⟨some 111,.fieldAddr 96 (.tmp 110) 1,t,p,f,none⟩:=⟨_,_,_,rfl⟩
    obtain rfl:=Option.some.inj (e.symm.trans ho)
    clear e ho
    have e0:a.tmps[110]?.getD undef = .pointer (some ⟨sb,0,none⟩):=val_at (q:=38) (d:=110) hV hW.1 (by kernel_rfl) (hw 38 (by kernel_rfl)) q38
    exact wp_of_K (.pointer (some ⟨sb,1,none⟩)) w (fun K' hK'=>by go_simp;exact hK') ⟨_,rfl,hW.1.put q39,hW.2.quiet (by rw [hJN];decide)⟩
   | 40,ho =>
    obtain ⟨t,p,f,e⟩:∃ t p f,rg_tran_r12[40]? = some ⟨some 112,.fieldAddr 45 (.tmp 111) 3,t,p,f,none⟩:=⟨_,_,_,rfl⟩
    obtain rfl:=Option.some.inj (e.symm.trans ho)
    clear e ho
    have e0:a.tmps[111]?.getD undef = .pointer (some ⟨sb,1,none⟩):=val_at (q:=39) (d:=111) hV hW.1 (by kernel_rfl) (hw 39 (by kernel_rfl)) q39
    exact wp_of_K (.pointer (some ⟨sb,4,none⟩)) w (fun K' hK'=>by go_simp;exact hK') ⟨_,rfl,hW.1.put q40,hW.2.quiet (by rw [hJN];decide)⟩
   | 41,ho =>
    obtain ⟨t,p,f,e⟩:∃ t p f,rg_tran_r12[41]? = some ⟨none,.store 43 (.tmp 112) (.tmp 92),t,p,f,none⟩:=⟨_,_,_,rfl⟩
    obtain rfl:=Option.some.inj (e.symm.trans ho)
    clear e ho
    have e0:a.tmps[112]?.getD undef = .pointer (some ⟨sb,4,none⟩):=val_at (q:=40) (d:=112) hV hW.1 (by kernel_rfl) (hw 40 (by kernel_rfl)) q40
    obtain ⟨g',c',eσ⟩:=hW.2.slice hj1 (hw 19 (by kernel_rfl))
    have e1:a.tmps[92]?.getD undef = _:=(hV.val 19 92 (by kernel_rfl) (hw 19 (by kernel_rfl))).trans eσ
    have c0:w.cell? ⟨sb,4,none⟩ = some (.slice o3 n3 k3):=(hW.2.cellV hJok hj1 hL).trans (congrArg some hV1)
    have c1:w.frozen? ⟨sb,4,none⟩ = false:=hW.2.fz 4
    have hS:=hW.2.store hJok hj1 undef
    simp only [eσ] at hS
    exact wp_of_K undef (w.setCell ⟨sb,4,none⟩ (.slice (some ⟨g',0,none⟩) ((R 3).2.2.length + 1) c')) (fun K' hK'=>by clear hR0 hn0 hR1 hn1 hR2 hn2 hR3 hn3;go_simp;exact hK') ⟨_,rfl,hW.1.skip q41,hS⟩
   | 42,ho =>
    obtain ⟨t,p,f,e⟩:∃ t p f,rg_tran_r12[42]? = some ⟨some 113,.nilCheck (.tmp 75),t,p,f,none⟩:=⟨_,_,_,rfl⟩
    obtain rfl:=Option.some.inj (e.symm.trans ho)
    clear e ho
    have e0:a.tmps[75]?.getD undef = .pointer (some ⟨sb,0,none⟩):=val_at (q:=2) (d:=75) hV hW.1 (by kernel_rfl) (hw 2 (by kernel_rfl)) q2
    exact wp_of_K (.pointer (some ⟨sb,0,none⟩)) w (fun K' hK'=>by go_simp;exact hK') ⟨_,rfl,hW.1.put q42,hW.2.quiet (by rw [hJN];decide)⟩
   | 43,ho =>
    obtain ⟨t,p,f,e⟩:∃ t p f,rg_tran_r12[43]? = some ⟨some 114,.fieldAddr 96 (.tmp 113) 1,t,p,f,none⟩:=⟨_,_,_,rfl⟩
    obtain rfl:=Option.some.inj (e.symm.trans ho)
    clear e ho
    have e0:a.tmps[113]?.getD undef = .pointer (some ⟨sb,0,none⟩):=val_at (q:=42) (d:=113) hV hW.1 (by kernel_rfl) (hw 42 (by kernel_rfl)) q42
    exact wp_of_K (.pointer (some ⟨sb,1,none⟩)) w (fun K' hK'=>by go_simp;exact hK') ⟨_,rfl,hW.1.put q43,hW.2.quiet (by rw [hJN];decide)⟩
   | 44,ho =>
    obtain ⟨t,p,f,e⟩:∃ t p f,rg_tran_r12[44]? = some ⟨some 115,.fieldAddr 45 (.tmp 114) 4,t,p,f,none⟩:=⟨_,_,_,rfl⟩
    obtain rfl:=Option.some.inj (e.symm.trans ho)
    clear e ho
    have e0:a.tmps[114]?.getD undef = .pointer (some ⟨sb,1,none⟩):=val_at (q:=43) (d:=114) hV hW.1 (by kernel_rfl) (hw 43 (by kernel_rfl)) q43
    exact wp_of_K (.pointer (some ⟨sb,5,none⟩)) w (fun K' hK'=>by go_simp;exact hK') ⟨_,rfl,hW.1.put q44,hW.2.quiet (by rw [hJN];decide)⟩
   | 45,ho =>
    obtain ⟨t,p,f,e⟩:∃ t p f,rg_tran_r12[45]? = some ⟨none,.store 43 (.tmp 115) (.tmp 99),t,p,f,none⟩:=⟨_,_,_,rfl⟩
    obtain rfl:=Option.some.inj (e.symm.trans ho)
    clear e ho
    have e0:a.tmps[115]?.getD undef = .pointer (some ⟨sb,5,none⟩):=val_at (q:=44) (d:=115) hV hW.1 (by kernel_rfl) (hw 44 (by kernel_rfl)) q44
    obtain ⟨g',c',eσ⟩:=hW.2.slice hj2 (hw 26 (by kernel_rfl))
    have e1:a.tmps[99]?.getD undef = _:=(hV.val 26 99 (by kernel_rfl) (hw 26 (by kernel_rfl))).trans eσ
    have c0:w.cell? ⟨sb,5,none⟩ = some (.slice o4 n4 k4):=(hW.2.cellV hJok hj2 hL).trans (congrArg some hV2)
    have c1:w.frozen? ⟨sb,5,none⟩ = false:=hW.2.fz 5
    have hS:=hW.2.store hJok hj2 undef
    simp only [eσ] at hS
    exact wp_of_K undef (w.setCell ⟨sb,5,none⟩ (.slice (some ⟨g',0,none⟩) ((R 4).2.2.length + 1) c')) (fun K' hK'=>by clear hR0 hn0 hR1 hn1 hR2 hn2 hR3 hn3;go_simp;exact hK') ⟨_,rfl,hW.1.skip q45,hS⟩
   | 46,ho =>
    obtain ⟨t,p,f,e⟩:∃ t p f,rg_tran_r12[46]? = some ⟨some 116,.nilCheck (.tmp 76),t,p,f,none⟩:=⟨_,_,_,rfl⟩
    obtain rfl:=Option.some.inj (e.symm.trans ho)
    clear e ho
    have e0:a.tmps[76]?.getD undef = .pointer (some ⟨sb,0,none⟩):=val_at (q:=3) (d:=76) hV hW.1 (by kernel_rfl) (hw 3 (by kernel_rfl)) q3
    exact wp_of_K (.pointer (some ⟨sb,0,none⟩)) w (fun K' hK'=>by go_simp;exact hK') ⟨_,rfl,hW.1.put q46,hW.2.quiet (by rw [hJN];decide)⟩
   | 47,ho =>
    obtain ⟨t,p,f,e⟩:∃ t p f,rg_tran_r12[47]? = some ⟨some 117,.fieldAddr 96 (.tmp 116) 1,t,p,f,none⟩:=⟨_,_,_,rfl⟩
    obtain rfl:=Option.some.inj (e.symm.trans ho)
    clear e ho
    have e0:a.tmps[116]?.getD undef = .pointer (some ⟨sb,0,none⟩):=val_at (q:=46) (d:=116) hV hW.1 (by kernel_rfl) (hw 46 (by kernel_rfl)) q46
    exact wp_of_K (.pointer (some ⟨sb,1,none⟩)) w (fun K' hK'=>by go_simp;exact hK') ⟨_,rfl,hW.1.put q47,hW.2.quiet (by rw [hJN];decide)⟩
   | 48,ho =>
    obtain ⟨t,p,f,e⟩:∃ t p f,rg_tran_r12[48]? = some ⟨some 118,.fieldAddr 45 (.tmp 117) 5,t,p,f,none⟩:=⟨_,_,_,rfl⟩
    obtain rfl:=Option.some.inj (e.symm.trans ho)
    clear e ho
    have e0:a.tmps[117]?.getD undef = .pointer (some ⟨sb,1,none⟩):=val_at (q:=47) (d:=117) hV hW.1 (by kernel_rfl) (hw 47 (by kernel_rfl)) q47
    exact wp_of_K (.pointer (some ⟨sb,6,none⟩)) w (fun K' hK'=>by go_simp;exact hK') ⟨_,rfl,hW.1.put q48,hW.2.quiet (by rw [hJN];decide)⟩
   | 49,ho =>
    obtain ⟨t,p,f,e⟩:∃ t p f,rg_tran_r12[49]? = some ⟨none,.store 43 (.tmp 118) (.tmp 106),t,p,f,none⟩:=⟨_,_,_,rfl⟩
    obtain rfl:=Option.some.inj (e.symm.trans ho)
    clear e ho
    have e0:a.tmps[118]?.getD undef = .pointer (some ⟨sb,6,none⟩):=val_at (q:=48) (d:=118) hV hW.1 (by kernel_rfl) (hw 48 (by kernel_rfl)) q48
    obtain ⟨g',c',eσ⟩:=hW.2.slice hj3 (hw 33 (by kernel_rfl))
    have e1:a.tmps[106]?.getD undef = _:=(hV.val 33 106 (by kernel_rfl) (hw 33 (by kernel_rfl))).trans eσ
    have c0:w.cell? ⟨sb,6,none⟩ = some (.slice o5 n5 k5):=(hW.2.cellV hJok hj3 hL).trans (congrArg some hV3)
    have c1:w.frozen? ⟨sb,6,none⟩ = false:=hW.2.fz 6
    have hS:=hW.2.store hJok hj3 undef
    simp only [eσ] at hS
    exact wp_of_K undef (w.setCell ⟨sb,6,none⟩ (.slice (some ⟨g',0,none⟩) ((R 5).2.2.length + 1) c')) (fun K' hK'=>by clear hR0 hn0 hR1 hn1 hR2 hn2 hR3 hn3;go_simp;exact hK') ⟨_,rfl,hW.1.skip q49,hS⟩
   | k + 50,ho=>exact absurd (List.getElem?_eq_some_iff.1 ho).1 (by rw [hlen];omega)
 · intro L σ w' hall hW
   have hL:∀ j ∈ J,L j.p = true ∧ L j.s = true:=by
    intro j hj
    rw [← hJ] at hj
    simp only [js_tran_r12,List.mem_cons,List.not_mem_nil,or_false] at hj
    rcases hj with rfl | rfl | rfl | rfl
    · exact ⟨hall 11 (by rw [hlen];decide),hall 37 (by rw [hlen];decide)⟩
    · exact ⟨hall 19 (by rw [hlen];decide),hall 41 (by rw [hlen];decide)⟩
    · exact ⟨hall 26 (by rw [hlen];decide),hall 45 (by rw [hlen];decide)⟩
    · exact ⟨hall 33 (by rw [hlen];decide),hall 49 (by rw [hlen];decide)⟩
   obtain ⟨g0,c0,s0⟩:=hW.2.slice hj0 (hL _ hj0).1
   have s0:σ 11 = .slice (some ⟨g0,0,none⟩) (n2 + 1) c0:=by rw [← hn0];exact s0
   obtain ⟨g1,c1,s1⟩:=hW.2.slice hj1 (hL _ hj1).1
   have s1:σ 19 = .slice (some ⟨g1,0,none⟩) (n3 + 1) c1:=by rw [← hn1];exact s1
   obtain ⟨g2,c2,s2⟩:=hW.2.slice hj2 (hL _ hj2).1
   have s2:σ 26 = .slice (some ⟨g2,0,none⟩) (n4 + 1) c2:=by rw [← hn2];exact s2
   obtain ⟨g3,c3,s3⟩:=hW.2.slice hj3 (hL _ hj3).1
   have s3:σ 33 = .slice (some ⟨g3,0,none⟩) (n5 + 1) c3:=by rw [← hn3];exact s3
   exact fin σ w' (hW.2.fin hL) ⟨_,_,s0⟩ ⟨_,_,s1⟩ ⟨_,_,s2⟩ ⟨_,_,s3⟩
noncomputable def rg_tran_r13:List Oper:=((regOf 13 (codeOf Try.f14)).getD #[]).toList
def js_tran_r13 (x0:Value):List Job:=[⟨6,11,12,15,3,x0⟩]
theorem lit_tran_r13 (e0 e1 e2 e3 e4 e5 e6 e7 e8 e9 e10 e11 e12 e13 e14 e15 e16 e17 e18 e19 e20 e21 e22 e23 e24 e25 e26 e27 e28 e29 e30 e31 e32 e33 e34 e35 e36 e37 e38 e39 e40 e41 e42 e43 e44 e45 e46 e47 e48 e49 e50 e51 e52 e53 e54 e55 e56 e57 e58 e59 e60 e61 e62 e63 e64 e65 e66 e67 e68 e69 e70 e71 e72 e73 e74 e75 e76 e77 e78 e79 e80 e81 e82 e83 e84 e85 e86 e87 e88 e89 e90 e91 e92 e93 e94 e95 e96 e97 e98 e99 e100 e101 e102 e103 e104 e105 e106 e107 e108 e109 e110 e111 e112 e113 e114 e115 e116 e117 e118 e119 e120 e121 e122 e123 e124 e125 e126 e127 e128 e129 e130 e131 e132 e133 e134 e135 e136 e137 e138 e139 e140 e141 e142 e143 e144 e145 e146 e147 e148 e149 e150 e151 e152 e153 e154 e155 e156 e157 e158 e159 e160 e161 e162 e163 e164 e165 e166 e167 e168 e169 e170 e171 e172 e173 e174 e175 e176 e177 e178 e179 e180 e181 e182 e183 e184 e185 e186 e187 e188 e189 e190 e191 e192 e193 e194 e195 e196:Value) (d:List Deferred) (σ:Nat → Value):allT rg_tran_r13 { tmps:=#[e0,e1,e2,e3,e4,e5,e6,e7,e8,e9,e10,e11,e12,e13,e14,e15,e16,e17,e18,e19,e20,e21,e22,e23,e24,e25,e26,e27,e28,e29,e30,e31,e32,e33,e34,e35,e36,e37,e38,e39,e40,e41,e42,e43,e44,e45,e46,e47,e48,e49,e50,e51,e52,e53,e54,e55,e56,e57,e58,e59,e60,e61,e62,e63,e64,e65,e66,e67,e68,e69,e70,e71,e72,e73,e74,e75,e76,e77,e78,e79,e80,e81,e82,e83,e84,e85,e86,e87,e88,e89,e90,e91,e92,e93,e94,e95,e96,e97,e98,e99,e100,e101,e102,e103,e104,e105,e106,e107,e108,e109,e110,e111,e112,e113,e114,e115,e116,e117,e118,e119,e120,e121,e122,e123,e124,e125,e126,e127,e128,e129,e130,e131,e132,e133,e134,e135,e136,e137,e138,e139,e140,e141,e142,e143,e144,e145,e146,e147,e148,e149,e150,e151,e152,e153,e154,e155,e156,e157,e158,e159,e160,e161,e162,e163,e164,e165,e166,e167,e168,e169,e170,e171,e172,e173,e174,e175,e176,e177,e178,e179,e180,e181,e182,e183,e184,e185,e186,e187,e188,e189,e190,e191,e192,e193,e194,e195,e196],defers:=d } σ = { tmps:=#[e0,e1,e2,e3,e4,e5,e6,e7,e8,e9,e10,e11,e12,e13,e14,e15,e16,e17,e18,e19,e20,e21,e22,e23,e24,e25,e26,e27,e28,e29,e30,e31,e32,e33,e34,e35,e36,e37,e38,e39,e40,e41,e42,e43,e44,e45,e46,e47,e48,e49,e50,e51,e52,e53,e54,e55,e56,e57,e58,e59,e60,e61,e62,e63,e64,e65,e66,e67,e68,e69,e70,e71,e72,e73,e74,e75,e76,e77,e78,e79,e80,e81,e82,e83,e84,e85,e86,e87,e88,e89,e90,e91,e92,e93,e94,e95,e96,e97,e98,e99,e100,e101,e102,e103,e104,e105,e106,e107,e108,e109,e110,e111,e112,e113,e114,e115,e116,e117,e118,σ 0,σ 1,σ 2,σ 3,σ 4,σ 5,σ 6,σ 7,σ 8,σ 9,σ 10,σ 11,σ 12,σ 13,σ 14,e134,e135,e136,e137,e138,e139,e140,e141,e142,e143,e144,e145,e146,e147,e148,e149,e150,e151,e152,e153,e154,e155,e156,e157,e158,e159,e160,e161,e162,e163,e164,e165,e166,e167,e168,e169,e170,e171,e172,e173,e174,e175,e176,e177,e178,e179,e180,e181,e182,e183,e184,e185,e186,e187,e188,e189,e190,e191,e192,e193,e194,e195,e196],defers:=d }:=by kernel_rfl
set_option maxHeartbeats 6400000 in
theorem tran_r13 {Q:Exit → Act → World → Prop} {base:Act} {c n6 k6:Nat} {o6:Option Addr} (hc:c < 8) (hc2:((c:Nat):Int) < 8) (hsz:base.tmps.size = 197) (b7:base.tmps[7]?.getD undef = .pointer (some ⟨sb,0,none⟩)) (b9:base.tmps[9]?.getD undef = .int .i64 ((c:Nat):Int)) (hG:Sg H W B sb mb g cap bk M ok bs ss V R w) (hV0:V 6 = .slice o6 n6 k6) (hR0:R 6 = (3,.slice o6 n6 k6,(R 6).2.2)) (hn0:(R 6).2.2.length = n6) (l0:n6 + 1 ≤ maxLen) (r0:(n6 + 1) * 8 ≤ 140737488355328) (fin:∀ σ w',Sg H W B sb mb g cap bk M ok bs ss (jV (js_tran_r13 (.int .i64 (bs c))) (fun _=>true) σ V) (jR (js_tran_r13 (.int .i64 (bs c))) (fun _=>true) σ R) w' → (∃ g' c',σ 12 = .slice (some ⟨g',0,none⟩) (n6 + 1) c') → Q .normal (allT rg_tran_r13 base σ) w'):(Code.region 13 rg_tran_r13.toArray true).wp Try.prog Q base w:=by
 obtain ⟨iI,iI1,iI2,iI3,iI4⟩:=Tmf.info3
 obtain ⟨vq,hvq⟩:∃ x,([some (.pointer (some ⟨sb,0,none⟩)),some (.pointer (some ⟨sb,0,none⟩)),some (.pointer (some ⟨sb,0,none⟩)),some (.pointer (some ⟨sb,24,none⟩)),some (.slice o6 n6 k6),some (.pointer (some ⟨sb,0,none⟩)),some (.int .i64 ((c:Nat):Int)),some (.pointer (some ⟨sb,0,none⟩)),some (.pointer (some ⟨sb,8,none⟩)),some (.pointer (some ⟨sb,8 + c,none⟩)),some (.int .i64 (bs c)),none,none,some (.pointer (some ⟨sb,0,none⟩)),some (.pointer (some ⟨sb,24,none⟩)),none]:List (Option Value)) = x:=⟨_,rfl⟩
 obtain ⟨J,hJ⟩:∃ x,(js_tran_r13 (.int .i64 (bs c))) = x:=⟨_,rfl⟩
 have hJok:jobsOk J = true:=by rw [← hJ];rfl
 have hJN:jobN J = [11,12,15]:=by rw [← hJ];rfl
 have hj0:(⟨6,11,12,15,3,.int .i64 (bs c)⟩:Job) ∈ J:=by rw [← hJ];simp [js_tran_r13]
 have q0:vq[0]? = some (some (.pointer (some ⟨sb,0,none⟩))):=by rw [← hvq];rfl
 have q1:vq[1]? = some (some (.pointer (some ⟨sb,0,none⟩))):=by rw [← hvq];rfl
 have q2:vq[2]? = some (some (.pointer (some ⟨sb,0,none⟩))):=by rw [← hvq];rfl
 have q3:vq[3]? = some (some (.pointer (some ⟨sb,24,none⟩))):=by rw [← hvq];rfl
 have q4:vq[4]? = some (some (.slice o6 n6 k6)):=by rw [← hvq];rfl
 have q5:vq[5]? = some (some (.pointer (some ⟨sb,0,none⟩))):=by rw [← hvq];rfl
 have q6:vq[6]? = some (some (.int .i64 ((c:Nat):Int))):=by rw [← hvq];rfl
 have q7:vq[7]? = some (some (.pointer (some ⟨sb,0,none⟩))):=by rw [← hvq];rfl
 have q8:vq[8]? = some (some (.pointer (some ⟨sb,8,none⟩))):=by rw [← hvq];rfl
 have q9:vq[9]? = some (some (.pointer (some ⟨sb,8 + c,none⟩))):=by rw [← hvq];rfl
 have q10:vq[10]? = some (some (.int .i64 (bs c))):=by rw [← hvq];rfl
 have q11:vq[11]? = some (none):=by rw [← hvq];rfl
 have q12:vq[12]? = some (none):=by rw [← hvq];rfl
 have q13:vq[13]? = some (some (.pointer (some ⟨sb,0,none⟩))):=by rw [← hvq];rfl
 have q14:vq[14]? = some (some (.pointer (some ⟨sb,24,none⟩))):=by rw [← hvq];rfl
 have q15:vq[15]? = some (none):=by rw [← hvq];rfl
 have hlen:rg_tran_r13.length = 16:=by kernel_rfl
 rw [hJ] at fin
 refine wp_region_reg (WI:=fun L σ w=>Qv vq L σ ∧ Pw J H W B sb mb g cap bk M ok bs ss V R L σ w) (by kernel_rfl) (List.range 16) (by kernel_rfl) (by rw [hsz];kernel_rfl) ⟨Qv.start _ _,Pw.start hG.drew⟩ ?_ ?_
 · clear hvq hJ fin hG
   intro i o L σ a w ho hL hw hV hW
   match i,ho with
   | 0,ho =>
    obtain ⟨t,p,f,e⟩:∃ t p f,rg_tran_r13[0]? = some ⟨some 119,.move (.tmp 7),t,p,f,none⟩:=⟨_,_,_,rfl⟩
    obtain rfl:=Option.some.inj (e.symm.trans ho)
    clear e ho
    have e0:a.tmps[7]?.getD undef = .pointer (some ⟨sb,0,none⟩):=(hV.old 7 (by kernel_rfl)).trans b7
    exact wp_of_K (.pointer (some ⟨sb,0,none⟩)) w (fun K' hK'=>by go_simp;exact hK') ⟨_,rfl,hW.1.put q0,hW.2.quiet (by rw [hJN];decide)⟩
   | 1,ho =>
    obtain ⟨t,p,f,e⟩:∃ t p f,rg_tran_r13[1]? = some ⟨some 120,.move (.tmp 7),t,p,f,none⟩:=⟨_,_,_,rfl⟩
    obtain rfl:=Option.some.inj (e.symm.trans ho)
    clear e ho
    have e0:a.tmps[7]?.getD undef = .pointer (some ⟨sb,0,none⟩):=(hV.old 7 (by kernel_rfl)).trans b7
    exact wp_of_K (.pointer (some ⟨sb,0,none⟩)) w (fun K' hK'=>by go_simp;exact hK') ⟨_,rfl,hW.1.put q1,hW.2.quiet (by rw [hJN];decide)⟩
   | 2,ho =>
    obtain ⟨t,p,f,e⟩:∃ t p f,rg_tran_r13[2]? = some ⟨some 121,.nilCheck (.tmp 120),t,p,f,none⟩:=⟨_,_,_,rfl⟩
    obtain rfl:=Option.some.inj (e.symm.trans ho)
    clear e ho
    have e0:a.tmps[120]?.getD undef = .pointer (some ⟨sb,0,none⟩):=val_at (q:=1) (d:=120) hV hW.1 (by kernel_rfl) (hw 1 (by kernel_rfl)) q1
    exact wp_of_K (.pointer (some ⟨sb,0,none⟩)) w (fun K' hK'=>by go_simp;exact hK') ⟨_,rfl,hW.1.put q2,hW.2.quiet (by rw [hJN];decide)⟩
   | 3,ho =>
    obtain ⟨t,p,f,e⟩:∃ t p f,rg_tran_r13[3]? = some ⟨some 122,.fieldAddr 96 (.tmp 121) 4,t,p,f,none⟩:=⟨_,_,_,rfl⟩
    obtain rfl:=Option.some.inj (e.symm.trans ho)
    clear e ho
    have e0:a.tmps[121]?.getD undef = .pointer (some ⟨sb,0,none⟩):=val_at (q:=2) (d:=121) hV hW.1 (by kernel_rfl) (hw 2 (by kernel_rfl)) q2
    exact wp_of_K (.pointer (some ⟨sb,24,none⟩)) w (fun K' hK'=>by go_simp;exact hK') ⟨_,rfl,hW.1.put q3,hW.2.quiet (by rw [hJN];decide)⟩
   | 4,ho =>
    obtain ⟨t,p,f,e⟩:∃ t p f,rg_tran_r13[4]? = some ⟨some 123,.load 43 (.tmp 122),t,p,f,none⟩:=⟨_,_,_,rfl⟩
    obtain rfl:=Option.some.inj (e.symm.trans ho)
    clear e ho
    have e0:a.tmps[122]?.getD undef = .pointer (some ⟨sb,24,none⟩):=val_at (q:=3) (d:=122) hV hW.1 (by kernel_rfl) (hw 3 (by kernel_rfl)) q3
    have c0:w.cell? ⟨sb,24,none⟩ = some (.slice o6 n6 k6):=(hW.2.cellV hJok hj0 (hV.not hL 15 (by kernel_rfl))).trans (congrArg some hV0)
    exact wp_of_K (.slice o6 n6 k6) w (fun K' hK'=>by go_simp;exact hK') ⟨_,rfl,hW.1.put q4,hW.2.quiet (by rw [hJN];decide)⟩
   | 5,ho =>
    obtain ⟨t,p,f,e⟩:∃ t p f,rg_tran_r13[5]? = some ⟨some 124,.move (.tmp 7),t,p,f,none⟩:=⟨_,_,_,rfl⟩
    obtain rfl:=Option.some.inj (e.symm.trans ho)
    clear e ho
    have e0:a.tmps[7]?.getD undef = .pointer (some ⟨sb,0,none⟩):=(hV.old 7 (by kernel_rfl)).trans b7
    exact wp_of_K (.pointer (some ⟨sb,0,none⟩)) w (fun K' hK'=>by go_simp;exact hK') ⟨_,rfl,hW.1.put q5,hW.2.quiet (by rw [hJN];decide)⟩
   | 6,ho =>
    obtain ⟨t,p,f,e⟩:∃ t p f,rg_tran_r13[6]? = some ⟨some 125,.move (.tmp 9),t,p,f,none⟩:=⟨_,_,_,rfl⟩
    obtain rfl:=Option.some.inj (e.symm.trans ho)
    clear e ho
    have e0:a.tmps[9]?.getD undef = .int .i64 ((c:Nat):Int):=(hV.old 9 (by kernel_rfl)).trans b9
    exact wp_of_K (.int .i64 ((c:Nat):Int)) w (fun K' hK'=>by go_simp;exact hK') ⟨_,rfl,hW.1.put q6,hW.2.quiet (by rw [hJN];decide)⟩
   | 7,ho =>
    obtain ⟨t,p,f,e⟩:∃ t p f,rg_tran_r13[7]? = some ⟨some 126,.nilCheck (.tmp 124),t,p,f,none⟩:=⟨_,_,_,rfl⟩
    obtain rfl:=Option.some.inj (e.symm.trans ho)
    clear e ho
    have e0:a.tmps[124]?.getD undef = .pointer (some ⟨sb,0,none⟩):=val_at (q:=5) (d:=124) hV hW.1 (by kernel_rfl) (hw 5 (by kernel_rfl)) q5
    exact wp_of_K (.pointer (some ⟨sb,0,none⟩)) w (fun K' hK'=>by go_simp;exact hK') ⟨_,rfl,hW.1.put q7,hW.2.quiet (by rw [hJN];decide)⟩
   | 8,ho =>
    obtain ⟨t,p,f,e⟩:∃ t p f,rg_tran_r13[8]? = some ⟨some 127,.fieldAddr 96 (.tmp 126) 2,t,p,f,none⟩:=⟨_,_,_,rfl⟩
    obtain rfl:=Option.some.inj (e.symm.trans ho)
    clear e ho
    have e0:a.tmps[126]?.getD undef = .pointer (some ⟨sb,0,none⟩):=val_at (q:=7) (d:=126) hV hW.1 (by kernel_rfl) (hw 7 (by kernel_rfl)) q7
    exact wp_of_K (.pointer (some ⟨sb,8,none⟩)) w (fun K' hK'=>by go_simp;exact hK') ⟨_,rfl,hW.1.put q8,hW.2.quiet (by rw [hJN];decide)⟩
   | 9,ho =>
    obtain ⟨t,p,f,e⟩:∃ t p f,rg_tran_r13[9]? = some ⟨some 128,.indexAddr 38 (.tmp 127) (.tmp 125),t,p,f,none⟩:=⟨_,_,_,rfl⟩
    obtain rfl:=Option.some.inj (e.symm.trans ho)
    clear e ho
    have e0:a.tmps[127]?.getD undef = .pointer (some ⟨sb,8,none⟩):=val_at (q:=8) (d:=127) hV hW.1 (by kernel_rfl) (hw 8 (by kernel_rfl)) q8
    have e1:a.tmps[125]?.getD undef = .int .i64 ((c:Nat):Int):=val_at (q:=6) (d:=125) hV hW.1 (by kernel_rfl) (hw 6 (by kernel_rfl)) q6
    exact wp_of_K (.pointer (some ⟨sb,8 + c,none⟩)) w (fun K' hK'=>by go_simp;exact hK') ⟨_,rfl,hW.1.put q9,hW.2.quiet (by rw [hJN];decide)⟩
   | 10,ho =>
    obtain ⟨t,p,f,e⟩:∃ t p f,rg_tran_r13[10]? = some ⟨some 129,.load 3 (.tmp 128),t,p,f,none⟩:=⟨_,_,_,rfl⟩
    obtain rfl:=Option.some.inj (e.symm.trans ho)
    clear e ho
    have e0:a.tmps[128]?.getD undef = .pointer (some ⟨sb,8 + c,none⟩):=val_at (q:=9) (d:=128) hV hW.1 (by kernel_rfl) (hw 9 (by kernel_rfl)) q9
    have c0:w.cell? ⟨sb,8 + c,none⟩ = some (.int .i64 (bs c)):=hW.2.cellB hc
    exact wp_of_K (.int .i64 (bs c)) w (fun K' hK'=>by go_simp;exact hK') ⟨_,rfl,hW.1.put q10,hW.2.quiet (by rw [hJN];decide)⟩
   | 11,ho =>
    obtain ⟨t,p,f,e⟩:∃ t p f,rg_tran_r13[11]? = some ⟨some 130,.buildSlice 43 1 #[(0,.tmp 129)],t,p,f,none⟩:=⟨_,_,_,rfl⟩
    obtain rfl:=Option.some.inj (e.symm.trans ho)
    clear e ho
    have e0:a.tmps[129]?.getD undef = .int .i64 (bs c):=val_at (q:=10) (d:=129) hV hW.1 (by kernel_rfl) (hw 10 (by kernel_rfl)) q10
    exact wp_of_K (.slice (some ⟨w.heap.size,0,none⟩) 1 1) (w.alloc (.cells #[.int .i64 (bs c)] 3)) (fun K' hK'=>by go_simp;exact hK') ⟨_,rfl,hW.1.skip q11,hW.2.make hJok hj0⟩
   | 12,ho =>
    obtain ⟨t,p,f,e⟩:∃ t p f,rg_tran_r13[12]? = some ⟨some 131,.call { callee:=.builtin .append,args:=#[.tmp 123,.tmp 130],argTypes:=#[43,43] },t,p,f,none⟩:=⟨_,_,_,rfl⟩
    obtain rfl:=Option.some.inj (e.symm.trans ho)
    clear e ho
    have e0:a.eval (.tmp 123) = .slice o6 n6 k6:=eval_of (val_at (q:=4) (d:=123) hV hW.1 (by kernel_rfl) (hw 4 (by kernel_rfl)) q4)
    have e1:a.eval (.tmp 130) = σ 11:=eval_of (hV.val 11 130 (by kernel_rfl) (hw 11 (by kernel_rfl)))
    refine Oper.wp_mono ?_ (hW.2.app hJok hj0 rfl Try.underlying43 iI1 iI2 iI3 iI4 rfl hR0 hn0 rfl l0 r0 (hw 11 (by kernel_rfl)) hL (hV.not hL 15 (by kernel_rfl)) e0 e1)
    rintro a' w' ⟨v,hv,hP⟩
    exact ⟨v,hv,hW.1.skip q12,hP⟩
   | 13,ho =>
    obtain ⟨t,p,f,e⟩:∃ t p f,rg_tran_r13[13]? = some ⟨some 132,.nilCheck (.tmp 119),t,p,f,none⟩:=⟨_,_,_,rfl⟩
    obtain rfl:=Option.some.inj (e.symm.trans ho)
    clear e ho
    have e0:a.tmps[119]?.getD undef = .pointer (some ⟨sb,0,none⟩):=val_at (q:=0) (d:=119) hV hW.1 (by kernel_rfl) (hw 0 (by kernel_rfl)) q0
    exact wp_of_K (.pointer (some ⟨sb,0,none⟩)) w (fun K' hK'=>by go_simp;exact hK') ⟨_,rfl,hW.1.put q13,hW.2.quiet (by rw [hJN];decide)⟩
   | 14,ho =>
    obtain ⟨t,p,f,e⟩:∃ t p f,rg_tran_r13[14]? = some ⟨some 133,.fieldAddr 96 (.tmp 132) 4,t,p,f,none⟩:=⟨_,_,_,rfl⟩
    obtain rfl:=Option.some.inj (e.symm.trans ho)
    clear e ho
    have e0:a.tmps[132]?.getD undef = .pointer (some ⟨sb,0,none⟩):=val_at (q:=13) (d:=132) hV hW.1 (by kernel_rfl) (hw 13 (by kernel_rfl)) q13
    exact wp_of_K (.pointer (some ⟨sb,24,none⟩)) w (fun K' hK'=>by go_simp;exact hK') ⟨_,rfl,hW.1.put q14,hW.2.quiet (by rw [hJN];decide)⟩
   | 15,ho =>
    obtain ⟨t,p,f,e⟩:∃ t p f,rg_tran_r13[15]? = some ⟨none,.store 43 (.tmp 133) (.tmp 131),t,p,f,none⟩:=⟨_,_,_,rfl⟩
    obtain rfl:=Option.some.inj (e.symm.trans ho)
    clear e ho
    have e0:a.tmps[133]?.getD undef = .pointer (some ⟨sb,24,none⟩):=val_at (q:=14) (d:=133) hV hW.1 (by kernel_rfl) (hw 14 (by kernel_rfl)) q14
    obtain ⟨g',c',eσ⟩:=hW.2.slice hj0 (hw 12 (by kernel_rfl))
    have e1:a.tmps[131]?.getD undef = _:=(hV.val 12 131 (by kernel_rfl) (hw 12 (by kernel_rfl))).trans eσ
    have c0:w.cell? ⟨sb,24,none⟩ = some (.slice o6 n6 k6):=(hW.2.cellV hJok hj0 hL).trans (congrArg some hV0)
    have c1:w.frozen? ⟨sb,24,none⟩ = false:=hW.2.fz 24
    have hS:=hW.2.store hJok hj0 undef
    simp only [eσ] at hS
    exact wp_of_K undef (w.setCell ⟨sb,24,none⟩ (.slice (some ⟨g',0,none⟩) ((R 6).2.2.length + 1) c')) (fun K' hK'=>by clear hR0 hn0;go_simp;exact hK') ⟨_,rfl,hW.1.skip q15,hS⟩
   | k + 16,ho=>exact absurd (List.getElem?_eq_some_iff.1 ho).1 (by rw [hlen];omega)
 · intro L σ w' hall hW
   have hL:∀ j ∈ J,L j.p = true ∧ L j.s = true:=by
    intro j hj
    rw [← hJ] at hj
    simp only [js_tran_r13,List.mem_cons,List.not_mem_nil,or_false] at hj
    rcases hj with rfl
    · exact ⟨hall 12 (by rw [hlen];decide),hall 15 (by rw [hlen];decide)⟩
   obtain ⟨g0,c0,s0⟩:=hW.2.slice hj0 (hL _ hj0).1
   have s0:σ 12 = .slice (some ⟨g0,0,none⟩) (n6 + 1) c0:=by rw [← hn0];exact s0
   exact fin σ w' (hW.2.fin hL) ⟨_,_,s0⟩
end Go.Am.Cha
