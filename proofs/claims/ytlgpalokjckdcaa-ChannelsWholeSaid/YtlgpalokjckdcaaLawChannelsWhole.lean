/-
 PROVED: Try's 'channelsWhole': without the reference: if all frames arrive, in order, some of them twice, all packets arrive, each once, those of a channel in order; nothing is lost or broken: its row. CONDITIONS: those of the row and no other. Own work; the closing after the guide's toys.
-/
import Derived.Test.YtlgpalokjckdcaaChaWz
import Derived.Test.YtlgpalokjckdcaaAmY
import Derived.Test.YtlgpalokjckdcaaOwnD
import Derived.Test.YtlgpalokjckdcaaPClose
namespace Go.Proofs.Ytlgpalokjckdcaa.channelsWhole
open Go Go.Am Go.ChangeShapes Go.WideShapes Go.ChangeAt Go.RowKit
set_option maxRecDepth 100000


theorem contract (H:Type) (enc:TypeId × Value → H) (W:World) (base:Nat) (args:Array Value) (ds gs:List (DataW H)) (before:List MemPlace)
 (hval:∀ (j:Nat) t v,Try.f4.params[j]? = some t → args[j]? = some v → Value.okWide Try.prog W .any base t v)
 (hW:DataW.Whole enc Try.prog Try.f4.params.toList Rows.channelsWholeSpec.vars false W args.toList ds gs before) (hsz:(DataW.weightsEach Try.prog (Try.f4.params.toList ++ (OpenSpec.ofChange Rows.channelsWholeSpec).bare.plain.varTypes Try.prog) (ds ++ gs)).all (· ≤ reachBytes) = true) (_hL:laidMetH Try.prog Rows.channelsWholeRow.laid W) :
 Calls Try.prog 4 args W fun e W'=>∃ v,e = .returned v ∧ Rows.channelsWholeSpec.post enc Try.prog Try.f4 false true false false W args v W':=by
 have hW':=hW
 obtain ⟨p,q,hA0,hV,hpq,hfz,hnd⟩:=hW
 have hA:DataW.TrodAll enc Try.prog W 0 (fun _=>true) true Try.f4.params.toList args.toList ds p:=hA0
 rw [Try.params4] at hA hval
 obtain ⟨v0,vs0,d0,ds0,p0,q0,hargs0,rfl,rfl,h0,r0⟩:=trodAll_cons hA
 obtain ⟨v1,vs1,d1,ds1,p1,q1,hargs1,rfl,rfl,h1,r1⟩:=trodAll_cons r0
 obtain ⟨v2,vs2,d2,ds2,p2,q2,hargs2,rfl,rfl,h2,r2⟩:=trodAll_cons r1
 obtain ⟨hlast,rfl,rfl⟩:=trodAll_nil r2
 subst hlast
 subst hargs2
 subst hargs1
 obtain rfl:args = #[v0,v1,v2]:=by cases args;simp_all
 obtain ⟨rfl,rfl⟩:=trodVars_none hV
 clear hA0 hpq
 have fin:∀ W',Below W.heap.size W W' → Rows.channelsWholeSpec.post enc Try.prog Try.f4 false true false false W #[v0,v1,v2] (.bool true) W':=fun W' hg=>post_law Close.laidOut (by kernel_rfl) rfl hW' rfl rfl rfl (by kernel_rfl) Try.underlying4 hg
 clear hW'
 obtain ⟨c0,z0,P0,Q0,rfl⟩:=Cha.setting_inW (hval 0 40 v0 rfl rfl) h0
 clear hsz
 obtain ⟨bo,m,cap2,F,rfl,hbs⟩:=Own.bools_in Try.underlying42 Try.underlying4 (by kernel_rfl) (hval 2 42 v2 rfl rfl) h2
 have htw:Cha.TwM W bo m:=fun i hi=>(hbs i hi).imp fun a h=>⟨F i,h⟩
 have walk:Calls Try.prog 4 #[.agg (Cha.setC c0 z0 P0 Q0),v1,.slice bo m cap2] W fun e W'=>e = .returned (.bool true) ∧ Below W.heap.size W W':=by
  rcases structs_arg Try.underlying41 Try.underlying98 (by kernel_rfl) (by kernel_rfl) (hval 1 41 v1 rfl rfl) h1 with rfl | ⟨a,len,cap,row,sz,n,V,rfl,hle,hmax,hsp,hsh,hcell,hf⟩
  · exact Cha.whole_walk c0 z0 P0 Q0 none bo 0 0 m cap2 (fun i hi=>absurd hi (Nat.not_lt_zero i)) htw
  · refine Cha.whole_walk c0 z0 P0 Q0 (some a) bo len cap m cap2 (fun i hi=>?_) htw
    have hi':i < cap:=Nat.lt_of_lt_of_le hi hle
    have g0:=hcell (i * 3) (by show i * 3 < cap * 3;omega)
    have g1:=hcell (i * 3 + 1) (by show i * 3 + 1 < cap * 3;omega)
    have g2:=hcell (i * 3 + 2) (by show i * 3 + 2 < cap * 3;omega)
    obtain ⟨_,e0⟩:=hf i hi' 0 _ rfl
    obtain ⟨y0,q0,_,_⟩:=DataW.trod_int Try.underlying3 e0
    injection q0 with q0 _
    obtain ⟨_,e1⟩:=hf i hi' 1 _ rfl
    obtain ⟨y1,q1,_,_⟩:=DataW.trod_int Try.underlying3 e1
    injection q1 with q1 _
    obtain ⟨_,e2⟩:=hf i hi' 2 _ rfl
    obtain ⟨y2,q2,_,_⟩:=DataW.trod_int Try.underlying3 e2
    injection q2 with q2 _
    have q0':V (i * 3) = .int .i64 y0:=q0
    have q1':V (i * 3 + 1) = .int .i64 y1:=q1
    have q2':V (i * 3 + 2) = .int .i64 y2:=q2
    rw [q0'] at g0
    rw [q1'] at g1
    rw [q2'] at g2
    have hadd:∀ j,(⟨(a.add (i * 3)).block,(a.add (i * 3)).off + (j + 1),none⟩:Addr) = a.add (i * 3 + (j + 1)):=by
     intro j
     unfold Addr.add
     rw [if_neg (show ¬ i * 3 + (j + 1) = 0 by omega)]
     split
     · rename_i h0;rw [h0,Nat.zero_add]
     · simp only [Nat.add_assoc]
    refine ⟨a,y0,y1,y2,rfl,g0,?_,?_,World.block_lt_of_cell? W _ g0⟩
    · rw [hadd 0];exact g1
    · rw [hadd 1];exact g2
 exact walk.mono fun e W' ⟨he,hg⟩=>by
  subst he
  exact ⟨_,rfl,fin W' hg⟩

theorem laid_met (os:Os):laidMet Try.prog Rows.channelsWholeRow.laid ((Close.laidWorld os).forCall (fun _ _=>0) ⟨#[],#[.agg #[.int .i64 0,.int .i64 0,.int .i64 0,.int .i64 0,.int .i64 0,.int .i64 0,.int .i64 0,.int .i64 0,.int .i64 0,.int .i64 0,.int .i64 0,.int .i64 0,.int .i64 0,.int .i64 0,.int .i64 0,.int .i64 0,.int .i64 0,.int .i64 0],.slice none 0 0,.slice none 0 0],[]⟩).memory :=
 ⟨[],rfl,List.nodup_nil,fun _ _ h=>by cases h⟩
theorem reads (os:Os) {H:Type} (enc:TypeId × Value → H):∃ places,DataW.whole enc Try.prog ((Close.laidWorld os).forCall (fun _ _=>0) ⟨#[],#[.agg #[.int .i64 0,.int .i64 0,.int .i64 0,.int .i64 0,.int .i64 0,.int .i64 0,.int .i64 0,.int .i64 0,.int .i64 0,.int .i64 0,.int .i64 0,.int .i64 0,.int .i64 0,.int .i64 0,.int .i64 0,.int .i64 0,.int .i64 0,.int .i64 0],.slice none 0 0,.slice none 0 0],[]⟩).memory Try.f4.params.toList Rows.channelsWholeSpec.vars false (#[.agg #[.int .i64 0,.int .i64 0,.int .i64 0,.int .i64 0,.int .i64 0,.int .i64 0,.int .i64 0,.int .i64 0,.int .i64 0,.int .i64 0,.int .i64 0,.int .i64 0,.int .i64 0,.int .i64 0,.int .i64 0,.int .i64 0,.int .i64 0,.int .i64 0],.slice none 0 0,.slice none 0 0]:Array Value).toList 8 = some ([.agg [.lit (.int .i64 0),.lit (.int .i64 0),.agg [.lit (.int .i64 0),.lit (.int .i64 0),.lit (.int .i64 0),.lit (.int .i64 0),.lit (.int .i64 0),.lit (.int .i64 0),.lit (.int .i64 0),.lit (.int .i64 0)],.agg [.lit (.int .i64 0),.lit (.int .i64 0),.lit (.int .i64 0),.lit (.int .i64 0),.lit (.int .i64 0),.lit (.int .i64 0),.lit (.int .i64 0),.lit (.int .i64 0)]],.nil,.nil],[],places) :=
 ⟨[],by kernel_rfl⟩

theorem light:Close.light Try.prog Try.f4 Rows.channelsWholeSpec Rows.channelsWholeRow = true:=by kernel_rfl
theorem place:(Rows.channelsWholeRow.inPlace == Try.prog.inPlace 4) = true:=by kernel_rfl
theorem follow:(Rows.channelsWholeRow.unfollowed == Try.prog.unfollowed 4) = true:=by kernel_rfl
theorem recur:(Rows.channelsWholeRow.recurses == Try.prog.recurses 4) = true:=by kernel_rfl
theorem names:(Rows.channelsWholeRow.named == Try.prog.varsNamed 4) = true:=by kernel_rfl
theorem lifted (os:Os) (started:os.Started) (H:Type) (enc:TypeId × Value → H) (F:Stop.Interp) :
 ReturnsInHanded {} Try.checked os 4 .any ((OpenSpec.ofChange Rows.channelsWholeSpec).preRow enc Try.prog Try.f4 Rows.channelsWholeRow.domain false Rows.channelsWholeRow.laid) (((OpenSpec.ofChange Rows.channelsWholeSpec).at F).post enc Try.prog Try.f4 false true false false):=by
 obtain ⟨places,hx⟩:=reads os enc
 refine returnsInHanded_of_row (C:=Try.checked) (s:=OpenSpec.ofChange Rows.channelsWholeSpec) Close.own started (by kernel_rfl) Try.func4
  (witness_row_at (enc:=enc) (C:=Try.checked) false (Close.laidWorld os) #[.agg #[.int .i64 0,.int .i64 0,.int .i64 0,.int .i64 0,.int .i64 0,.int .i64 0,.int .i64 0,.int .i64 0,.int .i64 0,.int .i64 0,.int .i64 0,.int .i64 0,.int .i64 0,.int .i64 0,.int .i64 0,.int .i64 0,.int .i64 0,.int .i64 0],.slice none 0 0,.slice none 0 0] rfl (by kernel_rfl) (by kernel_rfl) (by kernel_rfl)
   (OpenSpec.preRow_of_cond 8 hx (by kernel_rfl) (fun k hk=>by cases hk) (by kernel_rfl) (laid_met os))) ?_
 intro W base args ds gs before hval hW _ _ hsz hL _ _
 exact contract H enc W base args ds gs before hval hW hsz hL

theorem facts:joinedFacts Try.prog 4 Try.f4 Rows.channelsWholeSpec Rows.channelsWholeRow = true :=
 Close.joined_of light Close.laidOut Close.mapsRow place follow recur names
  (Eq.trans (congrArg (· == Try.prog.plainKeys) (rfl:Rows.channelsWholeRow.plainKeys = Rows.channelsDemuxRow.plainKeys)) Close.keys) Close.heard Close.enter
  (Eq.trans (congrArg (· == Try.prog.liftsFinal) (rfl:Rows.channelsWholeRow.lifted = Rows.channelsDemuxRow.lifted)) Close.lifts)
  (Eq.trans (congrArg (fun x=>Try.prog.make == some x) (rfl:Rows.channelsWholeRow.make = Rows.channelsDemuxRow.make)) Close.makes)
theorem said:Rows.ChannelsWholeSaid :=
 OpenClaim.holds_of_cond 4 Try.f4 rfl rfl rfl rfl rfl rfl rfl ⟨rfl,rfl,rfl,rfl,rfl⟩ rfl rfl rfl rfl rfl (by kernel_rfl) Try.func4 facts
  (of_decide_eq_true (by kernel_rfl)) (by unfold Func.isWrapper;first | (rw [if_pos (by decide +kernel)];kernel_rfl) | (rw [if_neg (by decide +kernel)];exact ⟨rfl,rfl⟩))
  (fun os started H enc _ F=>by rw [OpenClaim.pre_eq_preRow];exact lifted os started H enc F)

end Go.Proofs.Ytlgpalokjckdcaa.channelsWhole
namespace Go.Proofs.Ytlgpalokjckdcaa
open Go
/-- The row. -/
theorem channelsWhole_said:Rows.ChannelsWholeSaid:=channelsWhole.said
end Go.Proofs.Ytlgpalokjckdcaa
