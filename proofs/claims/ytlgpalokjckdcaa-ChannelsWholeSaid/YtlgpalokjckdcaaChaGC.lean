/-
  Channels: the next frame. Own work.
-/
import Derived.Shelf.Strings.Builder1
import Derived.Shelf.Strings.Builder2
import Derived.Shelf.Strings.BuilderF
import Derived.Shelf.Strings.Prefix
import Derived.Shelf.Bits.Mul64
import Derived.Shelf.Strings.Repeat
import Derived.Test.YtlgpalokjckdcaaProg
import Derived.Test.YtlgpalokjckdcaaChaF
import Derived.LaidEqlPtr
namespace Go.Proofs
open Go.Shelf
def Try.lays105_ren:Go.Shelf.Ren:=⟨fun | 105=>42 | 212=>74 | 99=>75 | 165=>76 | 166=>77 | 170=>78 | 169=>79 | 263=>95 | 264=>96 | 206=>97 | 240=>98 | 241=>99 | 276=>104 | 277=>105 | n=>n,fun | 9=>9 | 3=>3 | 4=>4 | 20=>20 | 0=>0 | 46=>127 | 109=>153 | 5=>5 | 72=>158 | 76=>161 | 51=>31 | 146=>181 | 53=>123 | 148=>183 | 70=>156 | 37=>107 | 75=>160 | 127=>176 | 164=>189 | 80=>163 | n=>n,fun | n=>n⟩
theorem Try.lays105:Go.Proofs.Lays.n105 Try.prog Try.lays105_ren:={
 mixed:=by kernel_rfl
 f99:=Try.func75.trans (congrArg some (by kernel_rfl))
 f105:=Try.func42.trans (congrArg some (by kernel_rfl))
 f165:=Try.func76.trans (congrArg some (by kernel_rfl))
 f166:=Try.func77.trans (congrArg some (by kernel_rfl))
 f169:=Try.func79.trans (congrArg some (by kernel_rfl))
 f170:=Try.func78.trans (congrArg some (by kernel_rfl))
 f206:=Try.func97.trans (congrArg some (by kernel_rfl))
 f212:=Try.func74.trans (congrArg some (by kernel_rfl))
 f240:=Try.func98.trans (congrArg some (by kernel_rfl))
 f241:=Try.func99.trans (congrArg some (by kernel_rfl))
 f263:=Try.func95.trans (congrArg some (by kernel_rfl))
 f264:=Try.func96.trans (congrArg some (by kernel_rfl))
 f276:=Try.func104.trans (congrArg some (by kernel_rfl))
 f277:=Try.func105.trans (congrArg some (by kernel_rfl))
 t0:=Try.underlying0
 a0:=Try.isAgg0
 z0:=Try.sizeOf0
 v0:=Try.zeroValue0
 t3:=Try.underlying3
 a3:=Try.isAgg3
 z3:=Try.sizeOf3
 v3:=Try.zeroValue3
 t4:=Try.underlying4
 a4:=Try.isAgg4
 z4:=Try.sizeOf4
 v4:=Try.zeroValue4
 t5:=Try.underlying5
 a5:=Try.isAgg5
 z5:=Try.sizeOf5
 v5:=Try.zeroValue5
 t9:=Try.underlying9
 a9:=Try.isAgg9
 z9:=Try.sizeOf9
 v9:=Try.zeroValue9
 t20:=Try.underlying20
 a20:=Try.isAgg20
 z20:=Try.sizeOf20
 v20:=Try.zeroValue20
 t37:=Try.underlying107
 a37:=Try.isAgg107
 z37:=Try.sizeOf107
 v37:=Try.zeroValue107
 t46:=Try.underlying127
 a46:=Try.isAgg127
 z46:=Try.sizeOf127
 v46:=Try.zeroValue127
 t51:=Try.underlying31
 a51:=Try.isAgg31
 z51:=Try.sizeOf31
 v51:=Try.zeroValue31
 t53:=Try.underlying123
 a53:=Try.isAgg123
 z53:=Try.sizeOf123
 v53:=Try.zeroValue123
 t70:=Try.underlying156
 a70:=Try.isAgg156
 z70:=Try.sizeOf156
 v70:=Try.zeroValue156
 t72:=Try.underlying158
 a72:=Try.isAgg158
 z72:=Try.sizeOf158
 v72:=Try.zeroValue158
 t75:=Try.underlying160
 a75:=Try.isAgg160
 z75:=Try.sizeOf160
 v75:=Try.zeroValue160
 t76:=Try.underlying161
 a76:=Try.isAgg161
 z76:=Try.sizeOf161
 v76:=Try.zeroValue161
 t109:=Try.underlying153
 a109:=Try.isAgg153
 z109:=Try.sizeOf153
 v109:=Try.zeroValue153
 t127:=Try.underlying176
 a127:=Try.isAgg176
 z127:=Try.sizeOf176
 v127:=Try.zeroValue176
 t146:=Try.underlying181
 a146:=Try.isAgg181
 z146:=Try.sizeOf181
 v146:=Try.zeroValue181
 t148:=Try.underlying183
 a148:=Try.isAgg183
 z148:=Try.sizeOf183
 v148:=Try.zeroValue183
 t164:=Try.underlying189
 a164:=Try.isAgg189
 z164:=Try.sizeOf189
 v164:=Try.zeroValue189 }
theorem Try.Builder_Extra_105:Builder.Extra Try.prog Try.lays105_ren:={
 sizeBuilder:=by kernel_rfl
 liesBuilder:=by kernel_rfl
 t5:=Try.underlying5
 a5:=Try.isAgg5
 z5:=Try.sizeOf5
 v5:=Try.zeroValue5
 infoByte:=by kernel_rfl
 cellsByte:=by kernel_rfl
 sizeByte:=by kernel_rfl
 neB5:=by decide }
open Go.RowKit Go.Lib in
/-- strings.Repeat: copies of a text. -/
theorem Try.strings_Repeat (s:ByteArray) (c:Nat) (w:World) (hc:c ≤ 9223372036854775807) (hlen:s.size * c ≤ 140737488355328) :
 Calls Try.prog 42 #[.string s,.int .i64 c] w fun e w'=>e = .returned (.string ⟨(Lib.repeatL s.data.toList c).toArray⟩) ∧ Below w.heap.size w w':=Any.strings_Repeat Try.lays105 Try.Builder_Extra_105 s c w hc hlen
end Go.Proofs

namespace Go.Am.Cha
open Go Go.Am Go.Am.Lib Go.Lib Go.Proofs Go.RowKit
open Go.Am.Own
open Go.Am.Tmf (FS FAt FC OkF idleL putT putTE)
set_option maxRecDepth 100000

theorem put_calls (cr ch ma co fi:Int) (d:ByteArray) (wd:Int) (hd:d.size < 2 ^ 62) (h0:0 ≤ wd) (h1:wd < 2 ^ 32) (w:World) :
 Calls Try.prog 44 #[.agg #[.int .i64 cr,.int .i64 ch,.int .i64 ma,.int .i64 co,.int .i64 fi,.string d,.int .u32 wd]] w fun e w'=>e = .returned (.tuple #[.string (putT cr ch ma co fi d wd),.int .i64 (putTE cr ch ma co fi d)]) ∧ Below w.heap.size w w' :=
 Tmf.flat_calls Tmf.okPutT w (args:=[.agg ⟨[.int .i64 cr,.int .i64 ch,.int .i64 ma,.int .i64 co,.int .i64 fi,.string d,.int .u32 wd]⟩]) rfl (v:=.tuple ⟨[.string (putT cr ch ma co fi d wd),.int .i64 (putTE cr ch ma co fi d)]⟩) rfl ⟨hd,h0,h1,rfl,rfl⟩
/-- The field of a frame that is idle. -/
def uuu (n:Nat):ByteArray:=⟨(Lib.repeatL [85] n).toArray⟩
theorem repeat_calls (n:Nat) (h:n ≤ 200) (w:World):Calls Try.prog 42 #[.string ⟨#[85]⟩,.int .i64 ((n:Nat):Int)] w fun e w'=>e = .returned (.string (uuu n)) ∧ Below w.heap.size w w' :=
 Try.strings_Repeat ⟨#[85]⟩ n w (by omega) (by show 1 * n ≤ _;omega)
variable {S:Nat → Prop} {mb g cap N F:Nat} {bk:Nat → Nat} {M M':MS} {w wr w':World} {fc:Array Value}
/-- The mux while Next runs: the frame F that it makes. -/
structure Nb (S:Nat → Prop) (w:World) (F mb g cap:Nat) (bk:Nat → Nat) (M:MS) (fc:Array Value) (wr:World):Prop where
 ex:∃ S',MC S' mb g cap bk M wr ∧ ¬ S' F ∧ ∀ k,S' k → S k
 fr:FrS S w wr
 fb:wr.heap[F]? = some (.cells fc 85 (0,0))
 hS:∀ k,w.heap.size ≤ k → S k
 hF:w.heap.size ≤ F
theorem Nb.Flt (h:Nb S w F mb g cap bk M fc wr):F < wr.heap.size:=(Array.getElem?_eq_some_iff.1 h.fb).1
theorem Nb.up (h:Nb S w F mb g cap bk M fc wr):∀ k,wr.heap.size ≤ k → S k:=fun k hk=>h.hS k (Nat.le_trans h.fr.size hk)
theorem Nb.below (h:Nb S w F mb g cap bk M fc wr) (hb:Below wr.heap.size wr w'):Nb S w F mb g cap bk M fc w':=by
 obtain ⟨S',h1,h2,h3⟩:=h.ex
 exact ⟨⟨S',h1.below hb,h2,h3⟩,h.fr.trans (fr_of hb h.up),(hb.block F h.Flt).trans h.fb,h.hS,h.hF⟩
theorem Nb.drew (h:Nb S w F mb g cap bk M fc wr):Nb S w F mb g cap bk M fc wr.drew:=h.below (Below.refl _ wr).drew
theorem Nb.stop (h:Nb S w F mb g cap bk M fc wr):MC S mb g cap bk M wr ∧ FrS S w wr:=by
 obtain ⟨S',h1,h2,h3⟩:=h.ex
 exact ⟨h1.keep (fun k _ _=>rfl) h.up fun k _ e=>h3 k e,h.fr⟩
theorem Nb.call {f:FuncId} {args:Array Value} {E:Ending → Prop} (h:Nb S w F mb g cap bk M fc wr) (c:∀ S',MC S' mb g cap bk M wr → Calls Try.prog f args wr fun e w'=>E e ∧ MC S' mb g cap bk M' w' ∧ FrS S' wr w') :
 Calls Try.prog f args wr fun e w'=>E e ∧ Nb S w F mb g cap bk M' fc w':=by
 obtain ⟨S',h1,h2,h3⟩:=h.ex
 exact (c S' h1).mono fun e w' ⟨he,g1,g2⟩=>⟨he,⟨S',g1,h2,h3⟩,h.fr.trans (g2.mono h3),(g2.block F h2).trans h.fb,h.hS,h.hF⟩
theorem Nb.setF (h:Nb S w F mb g cap bk M fc wr) (o:Nat) (v:Value):Nb S w F mb g cap bk M (fc.setIfInBounds o v) (wr.setCell ⟨F,o,none⟩ v):=by
 obtain ⟨S',h1,h2,h3⟩:=h.ex
 have ho:OnlyB F wr (wr.setCell ⟨F,o,none⟩ v):=(OnlyB.refl F wr).setCell o v
 exact ⟨⟨S',h1.keep (fun k e _=>ho.rest k fun e'=>h2 (by rw [← e'];exact e)) (fun k hk=>h1.hS k (by rw [ho.size] at hk;exact hk)) fun k _ e=>e,h2,h3⟩,h.fr.trans (ho.fr (h.hS F h.hF)),set_at h.fb,h.hS,h.hF⟩
theorem Nb.put (h:Nb S w F mb g cap bk M fc wr) {k p:Nat} {v:Value} {s:Sr} (hk:k < 8) (hp:p < 5) (hx:s.x = (M.f k).x) (hv:(srC (bk k) (M.f k)).set p v = srC (bk k) s):Nb S w F mb g cap bk { M with f:=upd M.f k s } fc (wr.setCell ⟨g,k * 5 + p,none⟩ v):=by
 obtain ⟨S',h1,h2,h3⟩:=h.ex
 obtain ⟨g1,g2⟩:=h1.put (v:=v) hk hp hx hv
 exact ⟨⟨S',g1,h2,h3⟩,h.fr.trans (g2.mono h3),(g2.block F h2).trans h.fb,h.hS,h.hF⟩
theorem Nb.setM (h:Nb S w F mb g cap bk M fc wr) (n:Nat):Nb S w F mb g cap bk { M with master:=n } fc (wr.setCell ⟨mb,2,none⟩ (intN n)):=by
 obtain ⟨S',h1,h2,h3⟩:=h.ex
 obtain ⟨g1,g2⟩:=h1.setM n
 exact ⟨⟨S',g1,h2,h3⟩,h.fr.trans (g2.mono h3),(g2.block F h2).trans h.fb,h.hS,h.hF⟩
theorem Nb.start (h:MC S mb g cap bk M w) (fc:Array Value):Nb S w w.heap.size mb g cap bk M fc (w.alloc (.cells fc 85)):=by
 have hb:=(Below.refl w.heap.size w).alloc (Nat.le_refl _) (.cells fc 85)
 have hsz:=alloc_size w (.cells fc 85)
 refine ⟨⟨ShS S w.heap.size (w.alloc (.cells fc 85)).heap.size,h.keep (fun k _ hk=>hb.block k hk) (fun k hk=>.inr hk) fun k hk e=>.inl ⟨e,hk⟩,fun e=>?_,fun k e=>?_⟩,fr_of hb h.hS,heap_alloc_new w _,h.hS,Nat.le_refl _⟩
 · have:=(ShS.old e (by omega)).2;omega
 · rcases e with e | e
   · exact e.1
   · exact h.hS k (by omega)
theorem Nb.at (h:Nb S w F mb g cap bk M fc wr) {k q:Nat} (hk:k < 8) (hq:q < 5) {v:Value} (hv:(srC (bk k) (M.f k))[q]? = some v):wr.cell? ⟨g,k * 5 + q,none⟩ = some v:=by
 obtain ⟨S',h1,h2,h3⟩:=h.ex
 exact h1.at hk hq hv
theorem Nb.at0 (h:Nb S w F mb g cap bk M fc wr) {k:Nat} (hk:k < 8):wr.cell? ⟨g,k * 5,none⟩ = some (.pointer (some ⟨bk k,0,none⟩)):=by
 obtain ⟨S',h1,h2,h3⟩:=h.ex
 exact h1.at0 hk
theorem Nb.mcells (h:Nb S w F mb g cap bk M fc wr):wr.cell? ⟨mb,0,none⟩ = some (.int .i64 ((M.craft:Nat):Int)) ∧ wr.cell? ⟨mb,1,none⟩ = some (.int .i64 ((M.size:Nat):Int)) ∧ wr.cell? ⟨mb,2,none⟩ = some (.int .i64 ((M.master:Nat):Int)) ∧ wr.cell? ⟨mb,3,none⟩ = some (.slice (some ⟨g,0,none⟩) 8 cap) ∧
 (∀ o,wr.frozen? ⟨g,o,none⟩ = false) ∧ (∀ o,wr.frozen? ⟨mb,o,none⟩ = false) ∧ (∀ o,wr.frozen? ⟨F,o,none⟩ = false) ∧ g ≠ mb ∧ g ≠ F ∧ mb ≠ F:=by
 obtain ⟨S',h1,h2,h3⟩:=h.ex
 exact ⟨h1.c0,h1.c1,h1.c2,h1.c3,fun o=>h1.row.frozenAt o,fz_of h1.cell,fz_of h.fb,h1.gne,fun e=>h2 (by rw [← e];exact h1.Sg),fun e=>h2 (by rw [← e];exact h1.Sm)⟩
theorem Nb.fcell (h:Nb S w F mb g cap bk M fc wr) (o:Nat):wr.cell? ⟨F,o,none⟩ = fc[o]?:=cell_of h.fb
/-- Pointers to channels are compared. -/
theorem Nb.eql (h:Nb S w F mb g cap bk M fc wr) (k i:Nat):(binOp .eql 111 (.pointer (some ⟨g,k * 5,none⟩)) (.pointer (some ⟨g,i * 5,none⟩))).run Try.prog wr = .ok (.bool (decide (k = i))) wr:=by
 obtain ⟨S',h1,h2,h3⟩:=h.ex
 have hi:∃ j,Try.prog.info? 104 = some j ∧ j.size ≠ 0:=by
  have h:(Try.prog.info? 104).map (fun i=>decide (i.size ≠ 0)) = some true:=by kernel_rfl
  obtain ⟨i,h1,h2⟩:=Option.map_eq_some_iff.1 h
  exact ⟨i,h1,of_decide_eq_true h2⟩
 obtain ⟨j,hj1,hj2⟩:=hi
 by_cases e:k = i
 · subst e
   rw [decide_eq_true rfl]
   exact run_eql_ptr_same wr _ Try.underlying111 hj1
 · rw [decide_eq_false e]
   rcases h1.row.2 with ⟨e1,_⟩ | ⟨g',c',cur,e1,_,hg,_⟩
   · cases e1
   · have hgg:g = g':=by injection e1 with e1;injection e1 with e1;injection e1
     subst hgg
     exact run_eql_ptr_other wr Try.underlying111 hj1 hj2 (fun e2=>e (by injection e2 with _ e2;omega)) hg hg
end Go.Am.Cha

namespace Go.Am.Cha
open Go Go.Am Go.Am.Lib Go.Lib Go.Proofs Go.RowKit
open Go.Am.Own
open Go.Am.Tmf (FS FAt FC OkF idleL putT putTE)
set_option maxRecDepth 100000

variable {S:Nat → Prop} {mb g cap N F:Nat} {bk:Nat → Nat} {M M':MS} {w wr w':World} {fc:Array Value}
/-- A frame of channel k has been made. -/
def tickM (M:MS) (k:Nat):MS:={ M with master:=(M.master + 1) % 256,f:=upd M.f k { M.f k with ct:=((M.f k).ct + 1) % 256 } }
theorem mod256 (n:Nat):(((n:Nat):Int) + 1) % 256 = (((n + 1) % 256:Nat):Int):=by omega
theorem tmod256 (n:Nat):(((n:Nat):Int) + 1).tmod 256 = (((n + 1) % 256:Nat):Int):=by rw [Int.tmod_eq_emod_of_nonneg (by omega)];exact mod256 n
/-- The frame at the start. -/
abbrev fc0 (cr ms wd:Nat):Array Value:=#[.int .i64 ((cr:Nat):Int),.int .i64 7,.int .i64 ((ms:Nat):Int),.int .i64 0,.int .i64 2046,.string ⟨#[]⟩,.int .u32 ((wd:Nat):Int)]
set_option maxHeartbeats 3200000 in
theorem next_idle (h:MC S mb g cap bk M w) (ho:OkM N M) (hw:waitJ M 8 = []) (wd:Nat) (hwd:wd < 2 ^ 32) :
 Calls Try.prog 21 #[.pointer (some ⟨mb,0,none⟩),.int .u32 ((wd:Nat):Int)] w fun e w'=>e = .returned (.tuple #[.string (putT ((M.craft:Nat):Int) 7 ((M.master:Nat):Int) (((M.f 7).ct:Nat):Int) 2046 (uuu M.size) ((wd:Nat):Int)),.int .i64 (putTE ((M.craft:Nat):Int) 7 ((M.master:Nat):Int) (((M.f 7).ct:Nat):Int) 2046 (uuu M.size))]) ∧ MC S mb g cap bk (tickM M 7) w' ∧ FrS S w w':=by
 have cN:=mnone_at h
 have k0:w.cell? ⟨mb,0,none⟩ = some (.int .i64 ((M.craft:Nat):Int)):=h.c0
 have k2:w.cell? ⟨mb,2,none⟩ = some (.int .i64 ((M.master:Nat):Int)):=h.c2
 have kz0:(w.alloc (.cells #[.int .i64 0,.int .i64 0,.int .i64 0,.int .i64 0,.int .i64 0,.string ⟨#[]⟩,.int .u32 0] 85)).cell? ⟨mb,0,none⟩ = some (.int .i64 ((M.craft:Nat):Int)):=(h.alloc _).c0
 have kz2:(w.alloc (.cells #[.int .i64 0,.int .i64 0,.int .i64 0,.int .i64 0,.int .i64 0,.string ⟨#[]⟩,.int .u32 0] 85)).cell? ⟨mb,2,none⟩ = some (.int .i64 ((M.master:Nat):Int)):=(h.alloc _).c2
 have hN:=Nb.start h (fc0 M.craft M.master wd)
 obtain ⟨F,hF⟩:∃ F,w.heap.size = F:=⟨_,rfl⟩
 rw [hF] at hN
 have cC:=hN.drew.call (E:=fun e=>e = .returned (.pointer none)) (M':=M) (f:=41) (args:=#[.pointer (some ⟨mb,0,none⟩)]) fun S' hm=>(choose_at hm ho).mono fun _ _ hh=>hh.1 hw
 have hsz:=ho.hi
 obtain ⟨cr,hcr⟩:∃ c,M.craft = c:=⟨_,rfl⟩
 obtain ⟨ms,hms⟩:∃ c,M.master = c:=⟨_,rfl⟩
 obtain ⟨sz,hsz2⟩:∃ c,M.size = c:=⟨_,rfl⟩
 obtain ⟨ct,hct⟩:∃ c,(M.f 7).ct = c:=⟨_,rfl⟩
 have hm1:=mod256 ms
 have hm2:=tmod256 ms
 have ht1:=mod256 ct
 have ht2:=tmod256 ct
 have hmsl:ms < 256:=by rw [← hms];exact ho.master
 have hctl:ct < 256:=by rw [← hct];exact ho.ct 7 (by decide)
 have htick:tickM M 7 = { M with master:=(ms + 1) % 256,f:=upd M.f 7 { M.f 7 with ct:=(ct + 1) % 256 } }:=by unfold tickM;rw [hms,hct]
 obtain ⟨m',hm'⟩:∃ c,(ms + 1) % 256 = c:=⟨_,rfl⟩
 obtain ⟨t',ht'⟩:∃ c,(ct + 1) % 256 = c:=⟨_,rfl⟩
 rw [hm',ht'] at htick
 rw [hm'] at hm1 hm2
 rw [ht'] at ht1 ht2
 have hul:(uuu sz).size ≤ 1000:=by
  have e:(uuu sz).size = (Lib.repeatL [85] sz).length:=rfl
  rw [e,Lib.repeatL_length]
  show sz * 1 ≤ 1000;omega
 rw [hcr,hms,hsz2,hct]
 rw [hcr,hms] at cC hN
 rw [hcr] at k0 kz0
 rw [hms] at k2 kz2
 rw [hsz2] at hsz
 obtain ⟨U,hU⟩:∃ U,uuu sz = U:=⟨_,rfl⟩
 have cR:=fun w=>repeat_calls sz hsz w
 rw [hU] at cR hul
 rw [hU]
 have CR:=Lib.hid cR
 have HT:=Lib.hid htick
 have HX:=Lib.hid (And.intro hcr (And.intro hms (And.intro hsz2 hct)))
 clear hN h htick hcr hms hsz2 hct hU cR ho hw hm' ht'
 go_enter Try.func21,Try.ntmps21
 go_wp2_with (go_at_call 37;refine cN.mono ?_;clear cN;rintro e W2 ⟨rfl,rfl⟩)
 go_region
 go_wp2_with (go_at_call 41;refine cC.mono ?_;clear cC;rintro e V1 ⟨rfl,hV1⟩;obtain ⟨x0,x1,x2,x3,_,_,_,_,_,_⟩:=hV1.mcells;rw [HX.out.2.2.1] at x1;have y1:V1.cell? ⟨F,1,none⟩ = some (.int .i64 7):=hV1.fcell 1)
 go_region
 go_wp2_with (first
  | (go_at_call 42;refine (CR.out _).mono ?_;clear CR;rintro e V2 ⟨rfl,b2⟩;have hV2:=hV1.drew.below b2;clear x0 x1 x2 x3 y1;obtain ⟨_,_,x2,x3,z1,z2,z3,n1,n2,n3⟩:=hV2.mcells;rw [HX.out.2.1] at x2;have y0:V2.cell? ⟨F,0,none⟩ = some (.int .i64 ((cr:Nat):Int)):=hV2.fcell 0;have y1:V2.cell? ⟨F,1,none⟩ = some (.int .i64 7):=hV2.fcell 1;have y2:V2.cell? ⟨F,2,none⟩ = some (.int .i64 ((ms:Nat):Int)):=hV2.fcell 2;have y3:V2.cell? ⟨F,3,none⟩ = some (.int .i64 0):=hV2.fcell 3;have y4:V2.cell? ⟨F,4,none⟩ = some (.int .i64 2046):=hV2.fcell 4;have y5:V2.cell? ⟨F,5,none⟩ = some (.string ⟨#[]⟩):=hV2.fcell 5;have y6:V2.cell? ⟨F,6,none⟩ = some (.int .u32 ((wd:Nat):Int)):=hV2.fcell 6;have g4:V2.cell? ⟨g,39,none⟩ = some (.int .i64 ((ct:Nat):Int)):=(by rw [← HX.out.2.2.2];exact hV2.at (k:=7) (q:=4) (by decide) (by decide) rfl))
  | (go_at_call 44;refine (put_calls _ _ _ _ _ _ _ (by omega) (by omega) (by omega) _).mono ?_;rintro e V3 ⟨rfl,b3⟩))
 go_ret2
 have hE:=((((hV2.setF 5 (.string U)).setF 3 (.int .i64 ((ct:Nat):Int))).setM m').put (k:=7) (p:=4) (v:=.int .i64 ((t':Nat):Int)) (s:={ M.f 7 with ct:=t' }) (by decide) (by decide) rfl rfl)
 have hE2:=(hE.below b3).stop
 exact ⟨rfl,by rw [HT.out];exact hE2.1,hE2.2⟩
end Go.Am.Cha

namespace Go.Am.Cha
open Go Go.Am Go.Am.Lib Go.Lib Go.Proofs Go.RowKit
open Go.Am.Own
open Go.Am.Tmf (FS FAt FC OkF idleL putT putTE)
set_option maxRecDepth 100000

variable {S:Nat → Prop} {mb g cap N F:Nat} {bk:Nat → Nat} {M M':MS} {w wr w':World} {fc:Array Value}
theorem filled_x (M:MS) (l:List Nat) (j:Nat):((filled M l).f j).x = (M.f j).x:=by
 unfold filled
 split
 · exact refillJ_x _ _ _ _
 · rfl
theorem chooseM_x (M:MS) (j:Nat):((chooseM M).f j).x = (M.f j).x:=by
 rw [← filled_x M (bests M) j]
 show (upd (filled M (bests M)).f (chosen M) _ j).x = _
 by_cases e:j = chosen M
 · subst e;rw [upd_same]
 · rw [upd_other _ _ e]
theorem OkM.filled {M:MS} (h:OkM N M) (l:List Nat):OkM N (filled M l):=by
 unfold Cha.filled
 split
 · exact h.refill _ _
 · exact h
theorem OkM.one {M:MS} (h:OkM N M) {k:Nat} {s:Sr} (hx:OkF s.x N) (h1:s.x.size = M.size) (h2:s.pr ≤ 7) (h3:1 ≤ s.sh ∧ s.sh ≤ 100) (h4:s.cr ≤ 100) (h5:s.ct < 256):OkM N { M with f:=upd M.f k s }:=by
 have hh:∀ {p:Sr → Prop},p s → ∀ j,p (M.f j) → p (upd M.f k s j):=fun {p} a j b=>by
  by_cases e:j = k
  · subst e;rw [upd_same];exact a
  · rw [upd_other _ _ e];exact b
 exact ⟨h.craft,h.lo,h.hi,h.master,fun j hj=>hh (p:=fun s=>OkF s.x N) hx j (h.x j hj),fun j hj=>hh (p:=fun s=>s.x.size = M.size) h1 j (h.sz j hj),fun j hj=>hh (p:=fun s=>s.pr ≤ 7) h2 j (h.pr j hj),fun j hj=>hh (p:=fun s=>1 ≤ s.sh ∧ s.sh ≤ 100) h3 j (h.sh j hj),fun j hj=>hh (p:=fun s=>s.cr ≤ 100) h4 j (h.cr j hj),fun j hj=>hh (p:=fun s=>s.ct < 256) h5 j (h.ct j hj)⟩
theorem OkM.choose {M:MS} (h:OkM N M) (hw:waitJ M 8 ≠ []):OkM N (chooseM M):=by
 have hf:=h.filled (bests M)
 have hk:chosen M < 8:=bests_lt (topS_mem (bests_ne hw))
 have hc:=hf.cr _ hk
 exact hf.one (hf.x _ hk) (hf.sz _ hk) (hf.pr _ hk) (hf.sh _ hk) (by show ((Cha.filled M (bests M)).f (chosen M)).cr - 1 ≤ 100;omega) (hf.ct _ hk)
/-- The mux behind the field of channel k. -/
def fieldM (M:MS) (k:Nat):MS:={ M with f:=upd M.f k { M.f k with x:=(M.f k).x.next idleL } }
abbrev fcN (cr ch ms fi:Nat) (d:ByteArray) (wd:Nat):Array Value:=#[.int .i64 ((cr:Nat):Int),.int .i64 ((ch:Nat):Int),.int .i64 ((ms:Nat):Int),.int .i64 0,.int .i64 ((fi:Nat):Int),.string d,.int .u32 ((wd:Nat):Int)]
set_option maxHeartbeats 6400000 in
theorem next_full (h:MC S mb g cap bk M w) (ho:OkM N M) (hw:waitJ M 8 ≠ []) (wd:Nat) (hwd:wd < 2 ^ 32) {k fi ct:Nat} {D:ByteArray} (hk:chosen M = k) (hfi:((chooseM M).f k).x.first idleL = fi) (hD:(⟨⟨((chooseM M).f k).x.data idleL⟩⟩:ByteArray) = D) (hDl:D.size ≤ 1000) (_:fi ≤ 100000) (hct:((fieldM (chooseM M) k).f k).ct = ct) :
 Calls Try.prog 21 #[.pointer (some ⟨mb,0,none⟩),.int .u32 ((wd:Nat):Int)] w fun e w'=>e = .returned (.tuple #[.string (putT ((M.craft:Nat):Int) ((k:Nat):Int) ((M.master:Nat):Int) ((ct:Nat):Int) ((fi:Nat):Int) D ((wd:Nat):Int)),.int .i64 (putTE ((M.craft:Nat):Int) ((k:Nat):Int) ((M.master:Nat):Int) ((ct:Nat):Int) ((fi:Nat):Int) D)]) ∧ MC S mb g cap bk (tickM (fieldM (chooseM M) k) k) w' ∧ FrS S w w':=by
 have cN:=mnone_at h
 have k0:w.cell? ⟨mb,0,none⟩ = some (.int .i64 ((M.craft:Nat):Int)):=h.c0
 have k2:w.cell? ⟨mb,2,none⟩ = some (.int .i64 ((M.master:Nat):Int)):=h.c2
 have kz0:(w.alloc (.cells #[.int .i64 0,.int .i64 0,.int .i64 0,.int .i64 0,.int .i64 0,.string ⟨#[]⟩,.int .u32 0] 85)).cell? ⟨mb,0,none⟩ = some (.int .i64 ((M.craft:Nat):Int)):=(h.alloc _).c0
 have kz2:(w.alloc (.cells #[.int .i64 0,.int .i64 0,.int .i64 0,.int .i64 0,.int .i64 0,.string ⟨#[]⟩,.int .u32 0] 85)).cell? ⟨mb,2,none⟩ = some (.int .i64 ((M.master:Nat):Int)):=(h.alloc _).c2
 have hk8:k < 8:=by rw [← hk];exact bests_lt (topS_mem (bests_ne hw))
 have hN:=Nb.start h (fc0 M.craft M.master wd)
 obtain ⟨F,hF⟩:∃ F,w.heap.size = F:=⟨_,rfl⟩
 rw [hF] at hN
 obtain ⟨M1,hM1⟩:∃ M1,chooseM M = M1:=⟨_,rfl⟩
 have cC:=hN.drew.call (E:=fun e=>e = .returned (.pointer (some ⟨g,k * 5,none⟩))) (M':=M1) (f:=41) (args:=#[.pointer (some ⟨mb,0,none⟩)]) fun S' hm=>(choose_at hm ho).mono fun _ _ hh=>by
  have h2:=hh.2 hw
  rw [hk,hM1] at h2
  exact h2
 have hO1:OkM N M1:=by rw [← hM1];exact ho.choose hw
 have hcr1:M1.craft = M.craft:=by rw [← hM1];unfold chooseM payS filled;split <;> rfl
 have hms1:M1.master = M.master:=by rw [← hM1];unfold chooseM payS filled;split <;> rfl
 have hw1:(M1.f k).x.wait ≠ 0:=by
  rw [← hM1,chooseM_x,← hk]
  have:=bests_wait (topS_mem (M:=filled M (bests M)) (bests_ne hw))
  have e:topS (filled M (bests M)) (bests M) = chosen M:=rfl
  rw [e] at this
  omega
 rw [hM1] at hfi hD hct ⊢
 have cX:∀ W fc,Nb S w F mb g cap bk M1 fc W → Calls Try.prog 43 #[.pointer (some ⟨bk k,0,none⟩)] W fun e w'=>e = .returned (.tuple #[.string D,.int .i64 ((fi:Nat):Int),.bool true]) ∧ Nb S w F mb g cap bk (fieldM M1 k) fc w':=fun W fc hW =>
  hW.call (E:=fun e=>e = .returned (.tuple #[.string D,.int .i64 ((fi:Nat):Int),.bool true])) (M':=fieldM M1 k) fun S' hm=>hm.turn hk8 (x':=(M1.f k).x.next idleL) fun S2 hf=>(Tmf.next_some hf (hO1.x k hk8) hw1).mono fun e w' hh=>by
   obtain ⟨q1,q2,q3⟩:=hh
   rw [hD,hfi] at q1
   exact ⟨q1,q2,q3⟩
 obtain ⟨M2,hM2⟩:∃ M2,fieldM M1 k = M2:=⟨_,rfl⟩
 have hms2:M2.master = M.master:=by rw [← hM2,← hms1];rfl
 rw [hM2] at hct cX ⊢
 obtain ⟨cr,hcr⟩:∃ c,M.craft = c:=⟨_,rfl⟩
 obtain ⟨ms,hms⟩:∃ c,M.master = c:=⟨_,rfl⟩
 have hm1:=mod256 ms
 have hm2:=tmod256 ms
 have ht1:=mod256 ct
 have ht2:=tmod256 ct
 have hmsl:ms < 256:=by rw [← hms];exact ho.master
 have hctl:ct < 256:=by
  rw [← hct,← hM2]
  show (upd M1.f k { M1.f k with x:=(M1.f k).x.next idleL } k).ct < 256
  rw [upd_same];exact hO1.ct k hk8
 have htick:tickM M2 k = { M2 with master:=(ms + 1) % 256,f:=upd M2.f k { M2.f k with ct:=(ct + 1) % 256 } }:=by unfold tickM;rw [hms2,hms,hct]
 obtain ⟨m',hm'⟩:∃ c,(ms + 1) % 256 = c:=⟨_,rfl⟩
 obtain ⟨t',ht'⟩:∃ c,(ct + 1) % 256 = c:=⟨_,rfl⟩
 rw [hm',ht'] at htick
 rw [hm'] at hm1 hm2
 rw [ht'] at ht1 ht2
 obtain ⟨b,hb⟩:∃ b,bk k = b:=⟨_,rfl⟩
 rw [hcr,hms]
 rw [hcr,hms] at cC hN
 rw [hcr] at k0 kz0
 rw [hms] at k2 kz2
 rw [hb] at cX
 have HCX:=Lib.hid cX
 have HT:=Lib.hid htick
 have HX:=Lib.hid (And.intro (hms2.trans hms) (And.intro hct hb))
 clear hN h htick hcr hms hct cX ho hw hm' ht' hM1 hM2 hO1 hcr1 hms1 hw1 hms2 hk hfi hD hb
 go_enter Try.func21,Try.ntmps21
 go_wp2_with (go_at_call 37;refine cN.mono ?_;clear cN;rintro e W2 ⟨rfl,rfl⟩)
 go_region
 go_wp2_with (first
  | (go_at_call 41;refine cC.mono ?_;clear cC;rintro e V1 ⟨rfl,hV1⟩;have y1:V1.cell? ⟨g,k * 5,none⟩ = some (.pointer (some ⟨b,0,none⟩)):=(by rw [← HX.out.2.2];exact hV1.at0 hk8);have cX:=HCX.out V1 _ hV1)
  | (go_at_call 43;refine cX.mono ?_;clear cX;rintro e V2 ⟨rfl,hV2⟩;clear y1;obtain ⟨_,_,_,x3,_,_,z3,n1,n2,n3⟩:=hV2.mcells;have y1:V2.cell? ⟨F,1,none⟩ = some (.int .i64 7):=hV2.fcell 1;have y4:V2.cell? ⟨F,4,none⟩ = some (.int .i64 2046):=hV2.fcell 4;have y5:V2.cell? ⟨F,5,none⟩ = some (.string ⟨#[]⟩):=hV2.fcell 5))
 have hL0:Nb S w F mb g cap bk M2 (fcN cr 7 ms fi D wd) ((V2.setCell ⟨F,5,none⟩ (.string D)).setCell ⟨F,4,none⟩ (.int .i64 ((fi:Nat):Int))):=(hV2.setF 5 (.string D)).setF 4 (.int .i64 ((fi:Nat):Int))
 clear x3 z3 y1 y4 y5 hV2
 go_loopw [54] (fun iv wq=>∃ (i:Nat),iv = .int .i64 (i:Nat) ∧ i ≤ 8 ∧ Nb S w F mb g cap bk M2 (fcN cr (if k < i then k else 7) ms fi D wd) wq)
  (fun iv _=>8 - iOf iv)
 case atStart=>exact ⟨0,rfl,Nat.zero_le _,by rw [if_neg (by omega)];exact hL0⟩
 case round =>
  clear hL0
  obtain ⟨i,rfl,hi8,hR⟩:=hrel
  obtain ⟨_,_,x2,x3,z1,z2,z3,n1,n2,n3⟩:=hR.mcells
  rcases Nat.lt_or_ge i 8 with hlt | hge2
  · have hlt':((i:Nat):Int) < 8:=by omega
    have q:=hR.eql k i
    have hmeas:8 - (i + 1) < 8 - i:=by omega
    by_cases e:k = i
    · subst e
      rw [decide_eq_true rfl] at q
      have y1:wr.cell? ⟨F,1,none⟩ = some (.int .i64 (((if k < k then k else 7:Nat):Nat):Int)):=hR.fcell 1
      rw [if_neg (by omega)] at y1
      have hP:Nb S w F mb g cap bk M2 (fcN cr (if k < k + 1 then k else 7) ms fi D wd) (wr.setCell ⟨F,1,none⟩ (.int .i64 ((k:Nat):Int))):=by
       rw [if_pos (by omega)]
       exact hR.setF 1 (.int .i64 ((k:Nat):Int))
      have HP:=Lib.hid hP
      clear hR hP
      go_wp2
      exact ⟨⟨k + 1,by push_cast;rfl,hlt,HP.out⟩,hmeas⟩
    · rw [decide_eq_false e] at q
      have hP:Nb S w F mb g cap bk M2 (fcN cr (if k < i + 1 then k else 7) ms fi D wd) wr:=by
       have e2:(if k < i + 1 then k else 7) = (if k < i then k else 7):=by
        by_cases e3:k < i
        · rw [if_pos e3,if_pos (by omega)]
        · rw [if_neg e3,if_neg (by omega)]
       rw [e2];exact hR
      have HP:=Lib.hid hP
      clear hR hP
      go_wp2
      exact ⟨⟨i + 1,by push_cast;rfl,hlt,HP.out⟩,hmeas⟩
  · have hge2':¬ ((i:Nat):Int) < 8:=by omega
    have hie:i = 8:=by omega
    subst hie
    rw [if_pos hk8] at hR
    have g4:wr.cell? ⟨g,k * 5 + 4,none⟩ = some (.int .i64 ((ct:Nat):Int)):=by rw [← HX.out.2.1];exact hR.at (q:=4) hk8 (by decide) rfl
    rw [HX.out.1] at x2
    have y0:wr.cell? ⟨F,0,none⟩ = some (.int .i64 ((cr:Nat):Int)):=hR.fcell 0
    have y1:wr.cell? ⟨F,1,none⟩ = some (.int .i64 ((k:Nat):Int)):=hR.fcell 1
    have y2:wr.cell? ⟨F,2,none⟩ = some (.int .i64 ((ms:Nat):Int)):=hR.fcell 2
    have y3:wr.cell? ⟨F,3,none⟩ = some (.int .i64 0):=hR.fcell 3
    have y4:wr.cell? ⟨F,4,none⟩ = some (.int .i64 ((fi:Nat):Int)):=hR.fcell 4
    have y5:wr.cell? ⟨F,5,none⟩ = some (.string D):=hR.fcell 5
    have y6:wr.cell? ⟨F,6,none⟩ = some (.int .u32 ((wd:Nat):Int)):=hR.fcell 6
    have HR:=Lib.hid hR
    clear hR
    go_wp2_with (go_at_call 44;refine (put_calls _ _ _ _ _ _ _ (by omega) (by omega) (by omega) _).mono ?_;rintro e V3 ⟨rfl,b3⟩)
    go_ret2
    have hE:=(((HR.out.setF 3 (.int .i64 ((ct:Nat):Int))).setM m').put (k:=k) (p:=4) (v:=.int .i64 ((t':Nat):Int)) (s:={ M2.f k with ct:=t' }) hk8 (by decide) rfl rfl)
    have hE2:=(hE.below b3).stop
    exact ⟨rfl,by rw [HT.out];exact hE2.1,hE2.2⟩
end Go.Am.Cha
