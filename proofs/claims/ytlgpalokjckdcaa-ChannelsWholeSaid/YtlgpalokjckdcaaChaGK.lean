/-
  Channels: the closed values of shown. Own work.
-/
import Derived.Test.YtlgpalokjckdcaaChaGJ
namespace Go.Am.Cha
open Go Go.Am Go.Am.Lib Go.Lib Go.Proofs Go.RowKit
open Go.Am.Own
open Go.Am.Tmf (FS FAt FC OkF idleL putT putTE addE fs0)
set_option maxRecDepth 100000

instance instBA:DecidableEq ByteArray:=fun a b=>decidable_of_iff (a.data = b.data) ⟨fun h=>ByteArray.ext h,fun h=>by rw [h]⟩
def okfB (N:Nat) (x:FS):Bool:=decide (32 ≤ x.size) && decide (x.size ≤ 200) && decide (x.idle ≤ x.q.length) && decide (x.q.length ≤ 66000) && decide (x.st.length ≤ N) && x.st.all (fun a=>decide (a ≤ 2 ^ 30)) && decide (N ≤ 2 ^ 20)
theorem okfB_ok {N:Nat} {x:FS} (h:okfB N x = true):OkF x N:=by
 unfold okfB at h
 simp only [Bool.and_eq_true,decide_eq_true_eq,List.all_eq_true] at h
 obtain ⟨⟨⟨⟨⟨⟨h1,h2⟩,h3⟩,h4⟩,h5⟩,h6⟩,h7⟩:=h
 exact ⟨h1,h2,h3,h4,h5,h6,h7⟩
def oksB (N sz:Nat) (s:Sr):Bool:=okfB N s.x && decide (s.x.size = sz) && decide (s.pr ≤ 7) && decide (1 ≤ s.sh ∧ s.sh ≤ 100) && decide (s.cr ≤ 100) && decide (s.ct < 256)
def okmB (N:Nat) (M:MS):Bool:=decide (M.craft ≤ 255) && decide (32 ≤ M.size) && decide (M.size ≤ 200) && decide (M.master < 256) && (List.range 8).all fun k=>oksB N M.size (M.f k)
theorem okmB_ok {N:Nat} {M:MS} (h:okmB N M = true):OkM N M:=by
 unfold okmB at h
 simp only [Bool.and_eq_true,decide_eq_true_eq,List.all_eq_true,List.mem_range] at h
 obtain ⟨⟨⟨⟨h1,h2⟩,h3⟩,h4⟩,h5⟩:=h
 have h6:∀ k,k < 8 → OkF (M.f k).x N ∧ (M.f k).x.size = M.size ∧ (M.f k).pr ≤ 7 ∧ (1 ≤ (M.f k).sh ∧ (M.f k).sh ≤ 100) ∧ (M.f k).cr ≤ 100 ∧ (M.f k).ct < 256:=by
  intro k hk
  have:=h5 k hk
  unfold oksB at this
  simp only [Bool.and_eq_true,decide_eq_true_eq] at this
  obtain ⟨⟨⟨⟨⟨g1,g2⟩,g3⟩,g4⟩,g5⟩,g6⟩:=this
  exact ⟨okfB_ok g1,g2,g3,g4,g5,g6⟩
 exact ⟨h1,h2,h3,h4,fun k hk=>(h6 k hk).1,fun k hk=>(h6 k hk).2.1,fun k hk=>(h6 k hk).2.2.1,fun k hk=>(h6 k hk).2.2.2.1,fun k hk=>(h6 k hk).2.2.2.2.1,fun k hk=>(h6 k hk).2.2.2.2.2⟩
def m0:MS:=⟨1,32,0,sr0 32 (fun _=>0) (evQ 2)⟩
def z70:ByteArray:=madeN 70 1
def z40:ByteArray:=madeN 40 2
def ma0:MS:=addM m0 0 z70
def stepK (M:MS) (k:Nat):MS:=tickM (fieldM (chooseM M) k) k
def ms0:MS:=addM ma0 1 z40
def ms1:MS:=stepK ms0 0
def ms2:MS:=stepK ms1 0
def ms3:MS:=stepK ms2 1
def ms4:MS:=stepK ms3 0
def ms5:MS:=stepK ms4 1
def ms6:MS:=tickM ms5 7
def fr0:ByteArray:=⟨#[0,64,0,0,0,0,0,3,192,1,0,63,1,0,0,0,0,0,0,0,0,0,0,0,0,0,0,0,0,0,0,0,0,0,0,0,0,0,0,0,0,9,22,183]⟩
def fr1:ByteArray:=⟨#[0,64,1,1,7,255,0,0,0,0,0,0,0,0,0,0,0,0,0,0,0,0,0,0,0,0,0,0,0,0,0,0,0,0,0,0,0,0,0,0,0,9,122,158]⟩
def fr2:ByteArray:=⟨#[0,72,2,0,0,0,0,3,192,2,0,33,2,0,0,0,0,0,0,0,0,0,0,0,0,0,0,0,0,0,0,0,0,0,0,0,0,0,0,0,0,9,151,222]⟩
def fr3:ByteArray:=⟨#[0,64,3,2,0,6,0,0,0,0,0,0,7,255,192,0,0,19,0,0,0,0,0,0,0,0,0,0,0,0,0,0,0,0,0,0,0,0,0,0,0,9,212,149]⟩
def fr4:ByteArray:=⟨#[0,72,4,1,0,8,0,0,0,0,0,0,0,0,7,255,192,0,0,17,0,0,0,0,0,0,0,0,0,0,0,0,0,0,0,0,0,0,0,0,0,9,6,58]⟩
def fr5:ByteArray:=⟨#[0,120,5,0,7,254,85,85,85,85,85,85,85,85,85,85,85,85,85,85,85,85,85,85,85,85,85,85,85,85,85,85,85,85,85,85,85,85,0,0,0,9,231,198]⟩
def da0:ByteArray:=⟨#[0,3,192,1,0,63,1,0,0,0,0,0,0,0,0,0,0,0,0,0,0,0,0,0,0,0,0,0,0,0,0,0]⟩
def da1:ByteArray:=⟨#[0,0,0,0,0,0,0,0,0,0,0,0,0,0,0,0,0,0,0,0,0,0,0,0,0,0,0,0,0,0,0,0]⟩
def da2:ByteArray:=⟨#[0,3,192,2,0,33,2,0,0,0,0,0,0,0,0,0,0,0,0,0,0,0,0,0,0,0,0,0,0,0,0,0]⟩
def da3:ByteArray:=⟨#[0,0,0,0,0,0,7,255,192,0,0,19,0,0,0,0,0,0,0,0,0,0,0,0,0,0,0,0,0,0,0,0]⟩
def da4:ByteArray:=⟨#[0,0,0,0,0,0,0,0,7,255,192,0,0,17,0,0,0,0,0,0,0,0,0,0,0,0,0,0,0,0,0,0]⟩
def ds0:Dm:=dm0 1 32
def ds1:Dm:=(feedG ds0 fr0).1
def ds2:Dm:=(feedG ds1 fr1).1
def ds3:Dm:=(feedG ds2 fr2).1
def ds4:Dm:=(feedG ds3 fr3).1
def ds5:Dm:=(feedG ds4 fr4).1
def ds6:Dm:=(feedG ds5 fr5).1
theorem v_add:addE (m0.f 0).x z70 = 0 ∧ addE (ma0.f 1).x z40 = 0 ∧ z70.size ≤ 2 ^ 40 ∧ z40.size ≤ 2 ^ 40:=by decide +kernel
theorem v_ok0:okmB 20 m0 = true:=by decide +kernel
theorem v_oka:okmB 20 ma0 = true:=by decide +kernel
theorem v_m0:okmB 20 ms0 = true:=by decide +kernel
theorem v_m1:okmB 20 ms1 = true:=by decide +kernel
theorem v_m2:okmB 20 ms2 = true:=by decide +kernel
theorem v_m3:okmB 20 ms3 = true:=by decide +kernel
theorem v_m4:okmB 20 ms4 = true:=by decide +kernel
theorem v_m5:okmB 20 ms5 = true:=by decide +kernel
theorem v_m6:okmB 20 ms6 = true:=by decide +kernel
theorem v_w6:(ms6.f 0).x.wait = 0:=by decide +kernel
theorem v_c0:chosen ms0 = 0 ∧ ((chooseM ms0).f 0).x.first idleL = 0 ∧ (((chooseM ms0).f 0).x.data idleL) = da0.data.toList ∧ ((fieldM (chooseM ms0) 0).f 0).ct = 0 ∧ waitJ ms0 8 ≠ [] ∧ ms0.craft = 1 ∧ ms0.master = 0:=by decide +kernel
theorem v_f0:putT 1 0 0 0 0 da0 9 = fr0 ∧ putTE 1 0 0 0 0 da0 = 0:=by decide +kernel
theorem v_c1:chosen ms1 = 0 ∧ ((chooseM ms1).f 0).x.first idleL = 2047 ∧ (((chooseM ms1).f 0).x.data idleL) = da1.data.toList ∧ ((fieldM (chooseM ms1) 0).f 0).ct = 1 ∧ waitJ ms1 8 ≠ [] ∧ ms1.craft = 1 ∧ ms1.master = 1:=by decide +kernel
theorem v_f1:putT 1 0 1 1 2047 da1 9 = fr1 ∧ putTE 1 0 1 1 2047 da1 = 0:=by decide +kernel
theorem v_c2:chosen ms2 = 1 ∧ ((chooseM ms2).f 1).x.first idleL = 0 ∧ (((chooseM ms2).f 1).x.data idleL) = da2.data.toList ∧ ((fieldM (chooseM ms2) 1).f 1).ct = 0 ∧ waitJ ms2 8 ≠ [] ∧ ms2.craft = 1 ∧ ms2.master = 2:=by decide +kernel
theorem v_f2:putT 1 1 2 0 0 da2 9 = fr2 ∧ putTE 1 1 2 0 0 da2 = 0:=by decide +kernel
theorem v_c3:chosen ms3 = 0 ∧ ((chooseM ms3).f 0).x.first idleL = 6 ∧ (((chooseM ms3).f 0).x.data idleL) = da3.data.toList ∧ ((fieldM (chooseM ms3) 0).f 0).ct = 2 ∧ waitJ ms3 8 ≠ [] ∧ ms3.craft = 1 ∧ ms3.master = 3:=by decide +kernel
theorem v_f3:putT 1 0 3 2 6 da3 9 = fr3 ∧ putTE 1 0 3 2 6 da3 = 0:=by decide +kernel
theorem v_c4:chosen ms4 = 1 ∧ ((chooseM ms4).f 1).x.first idleL = 8 ∧ (((chooseM ms4).f 1).x.data idleL) = da4.data.toList ∧ ((fieldM (chooseM ms4) 1).f 1).ct = 1 ∧ waitJ ms4 8 ≠ [] ∧ ms4.craft = 1 ∧ ms4.master = 4:=by decide +kernel
theorem v_f4:putT 1 1 4 1 8 da4 9 = fr4 ∧ putTE 1 1 4 1 8 da4 = 0:=by decide +kernel
theorem v_c5:waitJ ms5 8 = [] ∧ ms5.craft = 1 ∧ ms5.master = 5 ∧ (ms5.f 7).ct = 0 ∧ ms5.size = 32:=by decide +kernel
theorem v_f5:putT 1 7 5 0 2046 (uuu 32) 9 = fr5 ∧ putTE 1 7 5 0 2046 (uuu 32) = 0:=by decide +kernel
theorem v_d0:feedE ds0 fr0 = 0 ∧ (feedG ds0 fr0).2.ch = 0 ∧ (feedG ds0 fr0).2.wd = 9 ∧ (feedG ds0 fr0).2.lost = 0 ∧ (feedG ds0 fr0).2.missed = 0 ∧ (feedG ds0 fr0).2.br = 0 ∧ (feedG ds0 fr0).2.pk.length = 0:=by decide +kernel
theorem v_d1:feedE ds1 fr1 = 0 ∧ (feedG ds1 fr1).2.ch = 0 ∧ (feedG ds1 fr1).2.wd = 9 ∧ (feedG ds1 fr1).2.lost = 0 ∧ (feedG ds1 fr1).2.missed = 0 ∧ (feedG ds1 fr1).2.br = 0 ∧ (feedG ds1 fr1).2.pk.length = 0:=by decide +kernel
theorem v_d2:feedE ds2 fr2 = 0 ∧ (feedG ds2 fr2).2.ch = 1 ∧ (feedG ds2 fr2).2.wd = 9 ∧ (feedG ds2 fr2).2.lost = 0 ∧ (feedG ds2 fr2).2.missed = 0 ∧ (feedG ds2 fr2).2.br = 0 ∧ (feedG ds2 fr2).2.pk.length = 0:=by decide +kernel
theorem v_d3:feedE ds3 fr3 = 0 ∧ (feedG ds3 fr3).2.ch = 0 ∧ (feedG ds3 fr3).2.wd = 9 ∧ (feedG ds3 fr3).2.lost = 0 ∧ (feedG ds3 fr3).2.missed = 0 ∧ (feedG ds3 fr3).2.br = 0 ∧ (feedG ds3 fr3).2.pk.length = 1:=by decide +kernel
theorem v_d4:feedE ds4 fr4 = 0 ∧ (feedG ds4 fr4).2.ch = 1 ∧ (feedG ds4 fr4).2.wd = 9 ∧ (feedG ds4 fr4).2.lost = 0 ∧ (feedG ds4 fr4).2.missed = 0 ∧ (feedG ds4 fr4).2.br = 0 ∧ (feedG ds4 fr4).2.pk.length = 1:=by decide +kernel
theorem v_d5:feedE ds5 fr5 = 0 ∧ (feedG ds5 fr5).2.ch = 7 ∧ (feedG ds5 fr5).2.wd = 9 ∧ (feedG ds5 fr5).2.lost = 0 ∧ (feedG ds5 fr5).2.missed = 0 ∧ (feedG ds5 fr5).2.br = 0 ∧ (feedG ds5 fr5).2.pk.length = 0:=by decide +kernel
end Go.Am.Cha

namespace Go.Am.Cha
open Go Go.Am Go.Am.Lib Go.Lib Go.Proofs Go.RowKit
open Go.Am.Own
open Go.Am.Tmf (FS FAt FC OkF idleL putT putTE addE fs0)
set_option maxRecDepth 100000

def msF:Nat → MS | 0=>ms0 | 1=>ms1 | 2=>ms2 | 3=>ms3 | 4=>ms4 | 5=>ms5 | _=>ms6
def dsF:Nat → Dm | 0=>ds0 | 1=>ds1 | 2=>ds2 | 3=>ds3 | 4=>ds4 | 5=>ds5 | _=>ds6
def frF:Nat → ByteArray | 0=>fr0 | 1=>fr1 | 2=>fr2 | 3=>fr3 | 4=>fr4 | _=>fr5
def wantF:Nat → Nat | 0=>0 | 1=>0 | 2=>1 | 3=>0 | 4=>1 | _=>7
def pkF:Nat → Nat | 3=>1 | 4=>1 | _=>0
variable {S:Nat → Prop} {mb g cap sb:Nat} {bk:Nat → Nat} {w:World}
theorem nx0 (h:MC S mb g cap bk ms0 w):Calls Try.prog 21 #[.pointer (some ⟨mb,0,none⟩),.int .u32 9] w fun e w'=>e = .returned (.tuple #[.string fr0,.int .i64 0]) ∧ MC S mb g cap bk ms1 w' ∧ FrS S w w':=by
 have hc:=v_c0
 have h1:=next_full h (okmB_ok v_m0) hc.2.2.2.2.1 9 (by decide) (k:=0) (fi:=0) (ct:=0) (D:=da0) hc.1 hc.2.1 (by rw [hc.2.2.1]) (by decide) (by decide) hc.2.2.2.1
 rw [hc.2.2.2.2.2.1,hc.2.2.2.2.2.2] at h1
 refine h1.mono fun e w' hh=>⟨hh.1.trans ?_,hh.2⟩
 have e1:putT ((1:Nat):Int) ((0:Nat):Int) ((0:Nat):Int) ((0:Nat):Int) ((0:Nat):Int) da0 ((9:Nat):Int) = fr0:=v_f0.1
 have e2:putTE ((1:Nat):Int) ((0:Nat):Int) ((0:Nat):Int) ((0:Nat):Int) ((0:Nat):Int) da0 = 0:=v_f0.2
 rw [e1,e2]
theorem nx1 (h:MC S mb g cap bk ms1 w):Calls Try.prog 21 #[.pointer (some ⟨mb,0,none⟩),.int .u32 9] w fun e w'=>e = .returned (.tuple #[.string fr1,.int .i64 0]) ∧ MC S mb g cap bk ms2 w' ∧ FrS S w w':=by
 have hc:=v_c1
 have h1:=next_full h (okmB_ok v_m1) hc.2.2.2.2.1 9 (by decide) (k:=0) (fi:=2047) (ct:=1) (D:=da1) hc.1 hc.2.1 (by rw [hc.2.2.1]) (by decide) (by decide) hc.2.2.2.1
 rw [hc.2.2.2.2.2.1,hc.2.2.2.2.2.2] at h1
 refine h1.mono fun e w' hh=>⟨hh.1.trans ?_,hh.2⟩
 have e1:putT ((1:Nat):Int) ((0:Nat):Int) ((1:Nat):Int) ((1:Nat):Int) ((2047:Nat):Int) da1 ((9:Nat):Int) = fr1:=v_f1.1
 have e2:putTE ((1:Nat):Int) ((0:Nat):Int) ((1:Nat):Int) ((1:Nat):Int) ((2047:Nat):Int) da1 = 0:=v_f1.2
 rw [e1,e2]
theorem nx2 (h:MC S mb g cap bk ms2 w):Calls Try.prog 21 #[.pointer (some ⟨mb,0,none⟩),.int .u32 9] w fun e w'=>e = .returned (.tuple #[.string fr2,.int .i64 0]) ∧ MC S mb g cap bk ms3 w' ∧ FrS S w w':=by
 have hc:=v_c2
 have h1:=next_full h (okmB_ok v_m2) hc.2.2.2.2.1 9 (by decide) (k:=1) (fi:=0) (ct:=0) (D:=da2) hc.1 hc.2.1 (by rw [hc.2.2.1]) (by decide) (by decide) hc.2.2.2.1
 rw [hc.2.2.2.2.2.1,hc.2.2.2.2.2.2] at h1
 refine h1.mono fun e w' hh=>⟨hh.1.trans ?_,hh.2⟩
 have e1:putT ((1:Nat):Int) ((1:Nat):Int) ((2:Nat):Int) ((0:Nat):Int) ((0:Nat):Int) da2 ((9:Nat):Int) = fr2:=v_f2.1
 have e2:putTE ((1:Nat):Int) ((1:Nat):Int) ((2:Nat):Int) ((0:Nat):Int) ((0:Nat):Int) da2 = 0:=v_f2.2
 rw [e1,e2]
theorem nx3 (h:MC S mb g cap bk ms3 w):Calls Try.prog 21 #[.pointer (some ⟨mb,0,none⟩),.int .u32 9] w fun e w'=>e = .returned (.tuple #[.string fr3,.int .i64 0]) ∧ MC S mb g cap bk ms4 w' ∧ FrS S w w':=by
 have hc:=v_c3
 have h1:=next_full h (okmB_ok v_m3) hc.2.2.2.2.1 9 (by decide) (k:=0) (fi:=6) (ct:=2) (D:=da3) hc.1 hc.2.1 (by rw [hc.2.2.1]) (by decide) (by decide) hc.2.2.2.1
 rw [hc.2.2.2.2.2.1,hc.2.2.2.2.2.2] at h1
 refine h1.mono fun e w' hh=>⟨hh.1.trans ?_,hh.2⟩
 have e1:putT ((1:Nat):Int) ((0:Nat):Int) ((3:Nat):Int) ((2:Nat):Int) ((6:Nat):Int) da3 ((9:Nat):Int) = fr3:=v_f3.1
 have e2:putTE ((1:Nat):Int) ((0:Nat):Int) ((3:Nat):Int) ((2:Nat):Int) ((6:Nat):Int) da3 = 0:=v_f3.2
 rw [e1,e2]
theorem nx4 (h:MC S mb g cap bk ms4 w):Calls Try.prog 21 #[.pointer (some ⟨mb,0,none⟩),.int .u32 9] w fun e w'=>e = .returned (.tuple #[.string fr4,.int .i64 0]) ∧ MC S mb g cap bk ms5 w' ∧ FrS S w w':=by
 have hc:=v_c4
 have h1:=next_full h (okmB_ok v_m4) hc.2.2.2.2.1 9 (by decide) (k:=1) (fi:=8) (ct:=1) (D:=da4) hc.1 hc.2.1 (by rw [hc.2.2.1]) (by decide) (by decide) hc.2.2.2.1
 rw [hc.2.2.2.2.2.1,hc.2.2.2.2.2.2] at h1
 refine h1.mono fun e w' hh=>⟨hh.1.trans ?_,hh.2⟩
 have e1:putT ((1:Nat):Int) ((1:Nat):Int) ((4:Nat):Int) ((1:Nat):Int) ((8:Nat):Int) da4 ((9:Nat):Int) = fr4:=v_f4.1
 have e2:putTE ((1:Nat):Int) ((1:Nat):Int) ((4:Nat):Int) ((1:Nat):Int) ((8:Nat):Int) da4 = 0:=v_f4.2
 rw [e1,e2]
theorem nx5 (h:MC S mb g cap bk ms5 w):Calls Try.prog 21 #[.pointer (some ⟨mb,0,none⟩),.int .u32 9] w fun e w'=>e = .returned (.tuple #[.string fr5,.int .i64 0]) ∧ MC S mb g cap bk ms6 w' ∧ FrS S w w':=by
 have hc:=v_c5
 have h1:=next_idle h (okmB_ok v_m5) hc.1 9 (by decide)
 rw [hc.2.1,hc.2.2.1,hc.2.2.2.1,hc.2.2.2.2] at h1
 refine h1.mono fun e w' hh=>⟨hh.1.trans ?_,hh.2⟩
 have e1:putT ((1:Nat):Int) 7 ((5:Nat):Int) ((0:Nat):Int) 2046 (uuu 32) ((9:Nat):Int) = fr5:=v_f5.1
 have e2:putTE ((1:Nat):Int) 7 ((5:Nat):Int) ((0:Nat):Int) 2046 (uuu 32) = 0:=v_f5.2
 rw [e1,e2]
theorem nx_at {i:Nat} (hi:i < 6) (h:MC S mb g cap bk (msF i) w):Calls Try.prog 21 #[.pointer (some ⟨mb,0,none⟩),.int .u32 9] w fun e w'=>e = .returned (.tuple #[.string (frF i),.int .i64 0]) ∧ MC S mb g cap bk (msF (i + 1)) w' ∧ FrS S w w':=by
 match i,hi,h with
 | 0,_,h=>exact nx0 h
 | 1,_,h=>exact nx1 h
 | 2,_,h=>exact nx2 h
 | 3,_,h=>exact nx3 h
 | 4,_,h=>exact nx4 h
 | 5,_,h=>exact nx5 h
theorem dsF_ok:∀ i,i < 7 → OkD i (dsF i):=by
 have h0:OkD 0 ds0:=OkD.zero (by decide) (by decide) (by decide)
 have h1:OkD 1 ds1:=h0.feed fr0
 have h2:OkD 2 ds2:=h1.feed fr1
 have h3:OkD 3 ds3:=h2.feed fr2
 have h4:OkD 4 ds4:=h3.feed fr3
 have h5:OkD 5 ds5:=h4.feed fr4
 have h6:OkD 6 ds6:=h5.feed fr5
 intro i hi
 match i,hi with
 | 0,_=>exact h0
 | 1,_=>exact h1
 | 2,_=>exact h2
 | 3,_=>exact h3
 | 4,_=>exact h4
 | 5,_=>exact h5
 | 6,_=>exact h6
theorem frF_size (i:Nat):(frF i).size ≤ 2 ^ 40:=by
 unfold frF
 split <;> decide
theorem ds_tab {i:Nat} (hi:i < 6):feedE (dsF i) (frF i) = 0 ∧ (feedG (dsF i) (frF i)).1 = dsF (i + 1) ∧ (feedG (dsF i) (frF i)).2.ch = wantF i ∧ (feedG (dsF i) (frF i)).2.wd = 9 ∧ (feedG (dsF i) (frF i)).2.lost = 0 ∧ (feedG (dsF i) (frF i)).2.missed = 0 ∧ (feedG (dsF i) (frF i)).2.br = 0 ∧ (feedG (dsF i) (frF i)).2.pk.length = pkF i:=by
 match i,hi with
 | 0,_=>exact ⟨v_d0.1,rfl,v_d0.2⟩
 | 1,_=>exact ⟨v_d1.1,rfl,v_d1.2⟩
 | 2,_=>exact ⟨v_d2.1,rfl,v_d2.2⟩
 | 3,_=>exact ⟨v_d3.1,rfl,v_d3.2⟩
 | 4,_=>exact ⟨v_d4.1,rfl,v_d4.2⟩
 | 5,_=>exact ⟨v_d5.1,rfl,v_d5.2⟩
theorem df_at {i:Nat} (hi:i < 6) (hk:w.heap[sb]? = some (.cells (dmC (dsF i)) 74 (0,0))) :
 Calls Try.prog 11 #[.pointer (some ⟨sb,0,none⟩),.string (frF i)] w fun e w'=>∃ db oo oc,e = .returned (.tuple #[.agg #[.int .i64 ((wantF i:Nat):Int),.bool db,.int .i64 0,.int .i64 0,.slice oo (pkF i) oc,.int .i64 0,.int .u32 9],.int .i64 0]) ∧ w'.heap[sb]? = some (.cells (dmC (dsF (i + 1))) 74 (0,0)) ∧ FrS (fun k=>k = sb ∨ w.heap.size ≤ k) w w':=by
 have h:=dfeed_at (N:=i) (by omega) hk (dsF_ok i (by omega)) (frF i) (frF_size i)
 obtain ⟨t1,t2,t3,t4,t5,t6,t7,t8⟩:=ds_tab hi
 refine h.mono fun e w' hh=>?_
 obtain ⟨v,g1,g2,g3,g4⟩:=hh
 obtain ⟨oo,oc,rfl⟩:=ownsRow_slice g2
 unfold arrC at g1
 rw [t1,t3,t4,t5,t6,t7,t8] at g1
 rw [t2] at g3
 exact ⟨_,oo,oc,g1,g3,g4⟩
/-- A mux and a demux side by side. -/
structure Dx (S:Nat → Prop) (w0:World) (sb mb g cap:Nat) (bk:Nat → Nat) (M:MS) (D:Dm) (w:World):Prop where
 mc:MC S mb g cap bk M w
 dm:w.heap[sb]? = some (.cells (dmC D) 74 (0,0))
 ns:¬ S sb
 n0:∀ k,k < w0.heap.size → ¬ S k
 l0:w0.heap.size ≤ sb
 fr:Below w0.heap.size w0 w
variable {w0 w':World} {M M':MS} {D D':Dm}
theorem Dx.below (h:Dx S w0 sb mb g cap bk M D w) (hb:Below w.heap.size w w'):Dx S w0 sb mb g cap bk M D w' :=
 ⟨h.mc.below hb,(hb.block sb (Array.getElem?_eq_some_iff.1 h.dm).1).trans h.dm,h.ns,h.n0,h.l0,h.fr.trans (hb.mono h.fr.size)⟩
theorem Dx.drew (h:Dx S w0 sb mb g cap bk M D w):Dx S w0 sb mb g cap bk M D w.drew:=h.below (Below.refl _ w).drew
theorem Dx.mux (h:Dx S w0 sb mb g cap bk M D w) (hm:MC S mb g cap bk M' w') (hf:FrS S w w'):Dx S w0 sb mb g cap bk M' D w' :=
 ⟨hm,(hf.block sb h.ns).trans h.dm,h.ns,h.n0,h.l0,h.fr.trans (hf.below h.n0)⟩
theorem Dx.demux (h:Dx S w0 sb mb g cap bk M D w) (hd:w'.heap[sb]? = some (.cells (dmC D') 74 (0,0))) (hf:FrS (fun k=>k = sb ∨ w.heap.size ≤ k) w w'):Dx S w0 sb mb g cap bk M D' w':=by
 refine ⟨h.mc.keep (fun k hk hl=>hf.block k fun e=>?_) (fun k hk=>h.mc.hS k (Nat.le_trans hf.size hk)) fun k _ hk=>hk,hd,h.ns,h.n0,h.l0,h.fr.trans (hf.below fun k hk e=>?_)⟩
 · rcases e with rfl | e
   · exact h.ns hk
   · omega
 · have:=h.l0;have:=h.fr.size;omega
/-- A new block that the mux does not touch. -/
theorem Dx.fresh (h:Dx S w0 sb mb g cap bk M D w) (o:Obj):Dx (ShS S w.heap.size (w.heap.size + 1)) w0 sb mb g cap bk M D (w.alloc o):=by
 have hb:Below w.heap.size w (w.alloc o):=(Below.refl _ w).alloc (Nat.le_refl _) o
 have g:=h.below hb
 have ls:=(Array.getElem?_eq_some_iff.1 h.dm).1
 refine ⟨h.mc.keep (fun k _ hl=>hb.block k hl) (fun k hk=>.inr (by rw [alloc_size] at hk;exact hk)) fun k hl hk=>.inl ⟨hk,hl⟩,g.dm,?_,fun k hk=>?_,h.l0,g.fr⟩
 · rintro (⟨a,-⟩ | a)
   · exact h.ns a
   · omega
 · rintro (⟨a,-⟩ | a)
   · exact h.n0 k hk a
   · have:=h.fr.size;omega
theorem Dx.next {i:Nat} (hi:i < 6) (h:Dx S w0 sb mb g cap bk (msF i) D w):Calls Try.prog 21 #[.pointer (some ⟨mb,0,none⟩),.int .u32 9] w fun e w'=>e = .returned (.tuple #[.string (frF i),.int .i64 0]) ∧ Dx S w0 sb mb g cap bk (msF (i + 1)) D w' ∧ (∀ k,k < w.heap.size → ¬ S k → k ≠ sb → w'.heap[k]? = w.heap[k]?) :=
 (nx_at hi h.mc).mono fun _ _ hh=>⟨hh.1,h.mux hh.2.1 hh.2.2,fun k _ hk _=>hh.2.2.block k hk⟩
theorem Dx.feed {i:Nat} (hi:i < 6) (h:Dx S w0 sb mb g cap bk M (dsF i) w):Calls Try.prog 11 #[.pointer (some ⟨sb,0,none⟩),.string (frF i)] w fun e w'=>∃ db oo oc,e = .returned (.tuple #[.agg #[.int .i64 ((wantF i:Nat):Int),.bool db,.int .i64 0,.int .i64 0,.slice oo (pkF i) oc,.int .i64 0,.int .u32 9],.int .i64 0]) ∧ Dx S w0 sb mb g cap bk M (dsF (i + 1)) w' ∧ (∀ k,k < w.heap.size → ¬ S k → k ≠ sb → w'.heap[k]? = w.heap[k]?) :=
 (df_at hi h.dm).mono fun _ _ ⟨db,oo,oc,h1,h2,h3⟩=>⟨db,oo,oc,h1,h.demux h2 h3,fun k hl _ hn=>h3.block k fun e=>by omega⟩
theorem sh_even (w:World):Calls Try.prog 28 #[.int .i64 2] w fun e w'=>e = .returned (.tuple #[.agg #[.int .i64 0,.int .i64 0,.int .i64 0,.int .i64 0,.int .i64 0,.int .i64 0,.int .i64 0,.int .i64 0],.agg #[.int .i64 2,.int .i64 1,.int .i64 1,.int .i64 1,.int .i64 1,.int .i64 1,.int .i64 1,.int .i64 1]]) ∧ Below w.heap.size w w':=even_calls 2 w
theorem sh_new (w:World):Calls Try.prog 15 #[.int .i64 1,.int .i64 32,.agg #[.int .i64 0,.int .i64 0,.int .i64 0,.int .i64 0,.int .i64 0,.int .i64 0,.int .i64 0,.int .i64 0],.agg #[.int .i64 2,.int .i64 1,.int .i64 1,.int .i64 1,.int .i64 1,.int .i64 1,.int .i64 1,.int .i64 1]] w fun e w'=>NewOk w 1 32 (fun _=>0) (evQ 2) e w' :=
 (newmux_at 1 32 (fun _=>0) (evQ 2) w).mono fun e w' hh=>hh.1 ⟨by decide,by decide,by decide,by decide,fun k _=>⟨Int.le_refl 0,(by decide:(0:Int) ≤ 7),by unfold evQ;split <;> decide,by unfold evQ;split <;> decide⟩⟩
theorem sh_dem (w:World):Calls Try.prog 9 #[.int .i64 1,.int .i64 32] w fun e w'=>e = .returned (.tuple #[.pointer (some ⟨w.heap.size,0,none⟩),.int .i64 0]) ∧ w'.heap[w.heap.size]? = some (.cells (dmC ds0) 74 (0,0)) ∧ Below w.heap.size w w' :=
 newdemux_ok (craft:=1) (size:=32) (by decide) (by decide) (by decide) w
theorem sh_z70 (w:World):Calls Try.prog 20 #[.int .i64 70,.int .i64 1] w fun e w'=>e = .returned (.string z70) ∧ Below w.heap.size w w':=madeN_calls (n:=70) (k:=1) (by decide) (by decide) (by decide) w
theorem sh_z40 (w:World):Calls Try.prog 20 #[.int .i64 40,.int .i64 2] w fun e w'=>e = .returned (.string z40) ∧ Below w.heap.size w w':=madeN_calls (n:=40) (k:=2) (by decide) (by decide) (by decide) w
theorem sh_add0 (h:Dx S w0 sb mb g cap bk m0 D w):Calls Try.prog 19 #[.pointer (some ⟨mb,0,none⟩),.int .i64 0,.string z70] w fun e w'=>e = .returned (.int .i64 0) ∧ Dx S w0 sb mb g cap bk ma0 D w':=by
 have h1:=madd_at h.mc (okmB_ok v_ok0) (k:=0) (by decide) z70 v_add.2.2.1
 rw [v_add.1] at h1
 exact h1.mono fun _ _ hh=>⟨hh.1,h.mux hh.2.1 hh.2.2⟩
theorem sh_add1 (h:Dx S w0 sb mb g cap bk ma0 D w):Calls Try.prog 19 #[.pointer (some ⟨mb,0,none⟩),.int .i64 1,.string z40] w fun e w'=>e = .returned (.int .i64 0) ∧ Dx S w0 sb mb g cap bk ms0 D w':=by
 have h1:=madd_at h.mc (okmB_ok v_oka) (k:=1) (by decide) z40 v_add.2.2.2
 rw [v_add.2.1] at h1
 exact h1.mono fun _ _ hh=>⟨hh.1,h.mux hh.2.1 hh.2.2⟩
theorem sh_add8 (h:Dx S w0 sb mb g cap bk M D w):Calls Try.prog 19 #[.pointer (some ⟨mb,0,none⟩),.int .i64 8,.string z40] w fun e w'=>e = .returned (.int .i64 2) ∧ Dx S w0 sb mb g cap bk M D w' :=
 (madd_out h.mc (z:=8) (.inr (by decide)) z40).mono fun _ _ hh=>⟨hh.1,by rw [← hh.2];exact h⟩
theorem sh_wait (h:Dx S w0 sb mb g cap bk ms6 D w):Calls Try.prog 18 #[.pointer (some ⟨mb,0,none⟩),.int .i64 0] w fun e w'=>e = .returned (.int .i64 0) ∧ Below w.heap.size w w':=by
 have h1:=mwait_at h.mc (okmB_ok v_m6) (k:=0) (by decide)
 rw [v_w6] at h1
 exact h1
/-- The demux is made beside the mux. -/
theorem Dx.make {w1 w2:World} (hm:MC (fun k=>w.heap.size ≤ k) mb g cap bk M w1) (hb:Below w.heap.size w w1) (hl:w0.heap.size ≤ w.heap.size) (h0:Below w0.heap.size w0 w) (hd:w2.heap[w1.heap.size]? = some (.cells (dmC D) 74 (0,0))) (h2:Below w1.heap.size w1 w2) :
 Dx (ShS (fun k=>w.heap.size ≤ k) w1.heap.size w2.heap.size) w0 w1.heap.size mb g cap bk M D w2:=by
 have hsz:=(Array.getElem?_eq_some_iff.1 hd).1
 refine ⟨hm.keep (fun k _ hk=>h2.block k hk) (fun k hk=>.inr hk) fun k hk hs=>.inl ⟨hs,hk⟩,hd,?_,fun k hk=>?_,Nat.le_trans hl hb.size,(h0.trans (hb.mono hl)).trans (h2.mono (Nat.le_trans hl hb.size))⟩
 · rintro (⟨-,a⟩ | a) <;> omega
 · rintro (⟨a,-⟩ | a)
   · omega
   · have:=h2.size;have:=hb.size;omega
end Go.Am.Cha
