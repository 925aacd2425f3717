/-
  The abstract machine, parts 11 to 28. Own work.
-/
import Derived.Test.YtlgpalokjckdcaaAmX
import Derived.Laws.StructEq
import Derived.ChangeKeysEq
import Derived.OrdersHeld
import Derived.Deep.LoopGhost
import Derived.Below
import Derived.ChangeSame
import Derived.OpenShut
import Derived.Carry
import Derived.ChangeMaps5
import Derived.Deep.Slices
import Derived.ChangeSlices
namespace Go.Am
open Go

/-- Cells of one block are written over. -/
theorem write_block {W0:World} {φ:Phi} {h:AHeap} {w:World} (S:Sim W0 φ h w) {P:Program} {i:Nat} {fl:Bool} {vs:List Value} {t:TypeId} {mv:Bool} {p:PB} (ho:h[i]? = some (.cells fl vs t mv)) (hp:φ[i]? = some p)
 {off:Nat} {x x':List Value} (hx:VRL φ x x') (h1:∀ u ∈ x',OneC u) (hle:off + x.length ≤ vs.length) (fl':Bool) (hfl':fl' = true → fl = true ∧ flatL x = true) :
 ∃ w',(storeCells ⟨p.b,p.sh + off,none⟩ x').run P w = .ok () w' ∧ Sim W0 φ (h.set i (.cells fl' (setCells vs off x) t mv)) w' ∧ Ext φ h w φ (h.set i (.cells fl' (setCells vs off x) t mv)) w':=by
 obtain ⟨hbase,hfl,cs,fr,h4,h5,h6,pre,us,rest,h7,h9,h10,h8⟩:=S.blk _ _ p ho hp
 have hlu:=VRL_length h8
 have hlx:=VRL_length hx
 have hsz:cs.size = pre.length + (us.length + rest.length):=by rw [← Array.length_toList,h7];simp
 obtain ⟨w',cs',r1,r2,r3,r4,r5⟩:=run_storeCells (P:=P) (p.sh + off) x' w cs 0 h4 (by omega) h6 h1
 have hlive:liveB h i = true:=by simp [liveB,ho,AObj.liveB]
 refine ⟨w',r1,S.put hlive hp _ r2.os r2.tape r2.out r2.size r2.rest ?_,Ext.put hlive hp _ r2.size r2.rest (fun hm=>by simpa [movedB,ho,AObj.movedB] using hm)⟩
 refine ⟨hbase,fun hf=>?_,cs',fr,r3,r4.trans h5,fun j hj=>h6 j (by omega),pre,setCells us off x',rest,?_,h9,OneC_setCells _ h1 h10,VRL_setCells _ hx h8⟩
 · obtain ⟨f1,f2⟩:=hfl' hf
   exact flatL_setCells _ f2 (hfl f1)
 · rw [r5,Nat.add_zero,h7,← h9]
   exact setCells_shift _ _ _ _ _ (by omega)

theorem copy_sound {W0:World} {φ:Phi} {h:AHeap} {w:World} (S:Sim W0 φ h w) {P:Program} {argTypes:Array TypeId} {ty:TypeId} {d d' x x':Value} {k:Value → AHeap → Prop}
 (hk:copyK P argTypes d x h k) (hd:VR φ d d') (hx:VR φ x x'):∃ v h' v' w',(Builtin.copy_ argTypes ty #[d',x']).run P w = .ok v' w' ∧ k v h' ∧ VR φ v v' ∧ Sim W0 φ h' w' ∧ Ext φ h w φ h' w':=by
 unfold copyK at hk
 split at hk
 rotate_left
 · exact hk.elim
 rename_i dt h0
 split at hk
 rotate_left
 · exact hk.elim
 rename_i el hu
 split at hk
 rotate_left
 · exact hk.elim
 rename_i inf hi
 have key:∀ {new us:List Value} {flN:Bool} {n:Nat},(flN = true → flatL new = true) → Src P φ w x' n inf.size new us → copyF inf.size d h k new flN n →
  ∃ v h' v' w',(Builtin.copy_ argTypes ty #[d',x']).run P w = .ok v' w' ∧ k v h' ∧ VR φ v v' ∧ Sim W0 φ h' w' ∧ Ext φ h w φ h' w':=by
  clear hk
  intro new us flN n hflN src hk
  unfold copyF at hk
  split at hk
  · rename_i a len cc
    split at hk
    · rename_i sp hsp
      obtain ⟨p,c',o',hp,rfl,g1,g2,g3⟩:=VR_slice_some hsp hd
      split at hk
      · rename_i fl vs t mv hob
        obtain ⟨hc,hk⟩:=cond_prop hk
        simp only [decide_eq_true_eq] at hc
        have hl:=src.lenOf w rfl
        have hcells:=src.cells w (min n len) rfl (Nat.min_le_left _ _)
        have hlus:us.length = n * inf.size:=by rw [VRL_length src.rel,src.len]
        have hmul:min n len * inf.size ≤ n * inf.size:=Nat.mul_le_mul_right _ (Nat.min_le_left _ _)
        have hmul2:min n len * inf.size ≤ len * inf.size:=Nat.mul_le_mul_right _ (Nat.min_le_right _ _)
        have hlnew:=src.len
        have step:∃ w',(storeCells ⟨p.b,o',none⟩ (us.take (min n len * inf.size))).run P w = .ok () w' ∧ Sim W0 φ (h.set a.block (.cells (fl && flN) (setCells vs a.off (new.take (min n len * inf.size))) t mv)) w' ∧
         Ext φ h w φ (h.set a.block (.cells (fl && flN) (setCells vs a.off (new.take (min n len * inf.size))) t mv)) w':=by
         have hb:=write_block S (P:=P) hob hp (off:=a.off) (VRL_take (min n len * inf.size) src.rel) (fun u hu=>src.one u (List.mem_of_mem_take hu)) (by rw [List.length_take];omega) (fl && flN)
          (fun hf=>by
           simp only [Bool.and_eq_true] at hf
           exact ⟨hf.1,flatL_mem.2 fun v hv=>flatL_mem.1 (hflN hf.2) v (List.mem_of_mem_take hv)⟩)
         by_cases hz:c' = 0
         · have hm:min n len = 0:=by omega
           rw [hm,Nat.zero_mul,List.take_zero,List.take_zero] at hb ⊢
           obtain ⟨w',r1,r2,r3⟩:=hb
           have e:w' = w:=by
            simp only [storeCells,run_pure] at r1
            exact (Result.ok.inj r1).2.symm
           subst e
           exact ⟨_,rfl,r2,r3⟩
         · rw [(g2 hz).1];exact hb
        obtain ⟨w',r1,r2,r3⟩:=step
        refine ⟨_,_,.int .i64 (min n len:Nat),w',?_,hk,(VR_flat φ _ _ rfl).2 rfl,r2,r3⟩
        have hmin:Nat.min n len = min n len:=rfl
        simp [Builtin.copy_,h0,run_underlying hu,run_sizeOf hi,hl,hmin,hcells,r1,goInt]
      · exact hk.elim
    · exact hk.elim
  · exact hk.elim
 split at hk
 · rename_i b
   obtain ⟨hm0,hk⟩:=cond_prop hk
   have hm0:=Nat.eq_of_beq_eq_true hm0
   have e:x' = .string b:=by simpa [VR] using hx
   subst e
   exact key (fun _=>bytesV_flat b) (by rw [hm0];exact src_string P φ w b) hk
 · rename_i a n cc
   obtain ⟨l,fl,us,b,c',a1,a2,a3,a4⟩:=contents_sound (P:=P) S hk hx
   exact key a2 a3 a1
 · exact hk.elim

theorem zeroCells_one (v:Value) (n:Nat):(Builtin.zeroCells #[v] n).toList = List.replicate n v:=by
 have:=range_map_one v n
 simpa [Builtin.zeroCells] using this

theorem clear_sound {W0:World} {φ:Phi} {h:AHeap} {w:World} (S:Sim W0 φ h w) {P:Program} {argTypes:Array TypeId} {ty:TypeId} {x x':Value} {k:Value → AHeap → Prop}
 (hk:clearK P argTypes x h k) (hx:VR φ x x'):∃ v h' v' w',(Builtin.clear_ argTypes ty #[x']).run P w = .ok v' w' ∧ k v h' ∧ VR φ v v' ∧ Sim W0 φ h' w' ∧ Ext φ h w φ h' w':=by
 unfold clearK at hk
 split at hk
 rotate_left
 · exact hk.elim
 rename_i dt h0
 split at hk
 rotate_left
 · exact hk.elim
 rename_i el hu
 split at hk
 rotate_left
 · exact hk.elim
 rename_i inf hi
 split at hk
 rotate_left
 · exact hk.elim
 rename_i z hz
 split at hk
 rotate_left
 · exact hk.elim
 rename_i v a n cc hzl
 split at hk
 · rename_i sp hsp
   obtain ⟨p,c',o',hp,rfl,g1,g2,g3⟩:=VR_slice_some hsp hx
   split at hk
   · rename_i fl vs t mv hob
     obtain ⟨hc,hk⟩:=cond_prop hk
     simp only [Bool.and_eq_true,decide_eq_true_eq] at hc
     obtain ⟨⟨⟨c1,c2⟩,c3⟩,c4⟩:=hc
     have ez:z.cells = #[v]:=Array.toList_inj.1 (by simpa using hzl)
     have hone:∀ u ∈ List.replicate n v,OneC u:=fun u hu=>by
      rw [(List.mem_replicate.1 hu).2];exact VR_one (φ:=[]) c3 ((VR_flat _ _ _ c2).2 rfl)
     have hb:=write_block S (P:=P) hob hp (off:=a.off) (VRL_flatL (flatL_replicate c2 n)) hone (by simpa using c1) fl (fun hf=>⟨hf,flatL_replicate c2 n⟩)
     by_cases hn:n = 0
     · subst hn
       obtain ⟨w',r1,r2,r3⟩:=hb
       have e:w' = w:=by
        simp only [List.replicate_zero,storeCells,run_pure] at r1
        exact (Result.ok.inj r1).2.symm
       subst e
       exact ⟨_,_,.tuple #[],_,by simp [Builtin.clear_,h0,run_underlying hu],hk,(VR_flat φ _ _ rfl).2 rfl,r2,r3⟩
     · obtain ⟨e1,e2⟩:=g2 (by omega)
       obtain ⟨w',r1,r2,r3⟩:=hb
       rw [← e1] at r1
       refine ⟨_,_,.tuple #[],w',?_,hk,(VR_flat φ _ _ rfl).2 rfl,r2,r3⟩
       simp [Builtin.clear_,h0,run_underlying hu,run_zeroValue hi hz,ez,zeroCells_one,r1]
   · exact hk.elim
 · exact hk.elim

/-! ### numbers and comparisons -/
theorem run_eqGuard {P:Program} {op:BinOp} {t:TypeId} {x y:Operand} {a b:Value} (w:World) (h:(op ≠ .eql ∧ op ≠ .neq) ∨ (a ≠ .nilIface ∧ ∀ c,a ≠ .agg c)):(eqGuard op t x y a b).run P w = .ok () w:=by
 unfold eqGuard
 rcases h with ⟨h1,h2⟩ | ⟨h1,h2⟩
 · cases op <;> first | rfl | exact absurd rfl h1 | exact absurd rfl h2
 · cases op <;> first | rfl | (cases a <;> first | rfl | exact absurd rfl h1 | exact absurd rfl (h2 _))

theorem run_eq_of {P:Program} {t:TypeId} {a b:Value} {r:Bool} {w:World} (h:(Op.equal t a b).run P w = .ok r w) (ha:∀ k n,a ≠ .int k n) (hf:∀ k n,a ≠ .float k n) (hc:∀ k n m,a ≠ .complex k n m) (hs:∀ s,a ≠ .string s) :
 (binOp .eql t a b).run P w = .ok (.bool r) w ∧ (binOp .neq t a b).run P w = .ok (.bool !r) w:=by
 constructor <;> (unfold binOp;cases a <;> first
  | exact absurd rfl (ha _ _) | exact absurd rfl (hf _ _) | exact absurd rfl (hc _ _ _) | exact absurd rfl (hs _)
  | (simp only [run_bind,h,run_pure]))
end Go.Am

namespace Go.Am
open Go

/-- Neither number nor string: '==' asks the types. -/
def Other (a:Value):Prop:=(∀ k n,a ≠ .int k n) ∧ (∀ k n,a ≠ .float k n) ∧ (∀ k n m,a ≠ .complex k n m) ∧ (∀ s,a ≠ .string s) ∧ a ≠ .nilIface ∧ ∀ c,a ≠ .agg c

theorem equal_of {P:Program} {t:TypeId} {x y:Value} {w:World} {r:Result Bool} (h:∀ d,(Op.equalIn (d + 1) t x y).run P w = r):(Op.equal t x y).run P w = r:=h 9999
theorem eqIn_p1 {P:Program} {t el:TypeId} (hu:P.underlying t = some (.pointer el)) (b:Option Addr) (w:World) (d:Nat):(Op.equalIn (d + 1) t (.pointer none) (.pointer b)).run P w = .ok b.isNone w:=by
 simp only [Op.equalIn,run_bind,run_underlying hu,run_pure]
theorem eqIn_p2 {P:Program} {t el:TypeId} (hu:P.underlying t = some (.pointer el)) (a:Addr) (w:World) (d:Nat):(Op.equalIn (d + 1) t (.pointer (some a)) (.pointer none)).run P w = .ok false w:=by
 simp only [Op.equalIn,run_bind,run_underlying hu,run_pure]
theorem eqIn_p3 {P:Program} {t el:TypeId} {i:TypeInfo} (hu:P.underlying t = some (.pointer el)) (hi:P.info? el = some i) (hs:i.size ≠ 0) (b x y:Nat) (w:World) (d:Nat) :
 (Op.equalIn (d + 1) t (.pointer (some ⟨b,x,none⟩)) (.pointer (some ⟨b,y,none⟩))).run P w = .ok (decide (x = y)) w:=by
 have hd:((⟨b,x,none⟩:Addr) == ⟨b,y,none⟩) = decide (x = y):=by
  by_cases e:x = y
  · rw [e];simp
  · have:(⟨b,x,none⟩:Addr) ≠ ⟨b,y,none⟩:=fun h=>e (congrArg Addr.off h)
    rw [decide_eq_false e];exact beq_eq_false_iff_ne.mpr this
 simp only [Op.equalIn,run_bind,run_underlying hu,run_sizeOf hi,ne_eq,hs,not_false_eq_true,if_true,sameAddr,beq_self_eq_true,hd,run_pure]
theorem eqIn_s1 {P:Program} {t el:TypeId} (hu:P.underlying t = some (.slice el)) (n c m k:Nat) (b:Option Addr) (w:World) (d:Nat):(Op.equalIn (d + 1) t (.slice none n c) (.slice b m k)).run P w = .ok b.isNone w:=by
 simp only [Op.equalIn,run_bind,run_underlying hu,run_pure]
theorem eqIn_s2 {P:Program} {t el:TypeId} (hu:P.underlying t = some (.slice el)) (n c m k:Nat) (a:Addr) (w:World) (d:Nat):(Op.equalIn (d + 1) t (.slice (some a) n c) (.slice none m k)).run P w = .ok false w:=by
 simp only [Op.equalIn,run_bind,run_underlying hu,run_pure]
theorem eqIn_m1 {P:Program} {t k el:TypeId} (hu:P.underlying t = some (.map k el)) (b:Option Nat) (w:World) (d:Nat):(Op.equalIn (d + 1) t (.map none) (.map b)).run P w = .ok b.isNone w:=by
 simp only [Op.equalIn,run_bind,run_underlying hu,run_pure]
theorem eqIn_m2 {P:Program} {t k el:TypeId} (hu:P.underlying t = some (.map k el)) (b:Nat) (w:World) (d:Nat):(Op.equalIn (d + 1) t (.map (some b)) (.map none)).run P w = .ok false w:=by
 simp only [Op.equalIn,run_bind,run_underlying hu,run_pure]
theorem eqIn_f1 {P:Program} {t:TypeId} {ps rs:Array TypeId} {v:Bool} (hu:P.underlying t = some (.func ps rs v)) (f:Fn) (a b:Array Value) (w:World) (d:Nat):(Op.equalIn (d + 1) t .nilFunc (.func f a b)).run P w = .ok false w:=by
 simp only [Op.equalIn,run_bind,run_underlying hu,run_pure]
theorem eqIn_f2 {P:Program} {t:TypeId} {ps rs:Array TypeId} {v:Bool} (hu:P.underlying t = some (.func ps rs v)) (f:Fn) (a b:Array Value) (w:World) (d:Nat):(Op.equalIn (d + 1) t (.func f a b) .nilFunc).run P w = .ok false w:=by
 simp only [Op.equalIn,run_bind,run_underlying hu,run_pure]

theorem eq_sound {φ:Phi} {P:Program} {t:TypeId} {x y x' y':Value} {k:Bool → Prop} {other:Prop} (hk:eqK P t x y k other) (hx:VR φ x x') (hy:VR φ y y') :
 other ∨ ∃ r,k r ∧ (∀ w:World,(Op.equal t x' y').run P w = .ok r w) ∧ Other x':=by
 have ptr:∀ {a:Addr} {v':Value},VR φ (.pointer (some a)) v' → ∃ a',v' = .pointer (some a'):=fun h=>by
  obtain ⟨a',e,_⟩:=VR_addA h;exact ⟨a',e⟩
 have sl:∀ {a:Addr} {n c:Nat} {v':Value},VR φ (.slice (some a) n c) v' → ∃ a' n' c',v' = .slice (some a') n' c':=fun {a n c v'} h=>by
  cases hs:a.spot with
  | none=>exact ⟨_,_,_,VR_slice_none hs h⟩
  | some s=>obtain ⟨p,c',o',_,e,_⟩:=VR_slice_some hs h;exact ⟨_,_,_,e⟩
 have oP:∀ a,Other (.pointer a):=fun a=>⟨by simp,by simp,by simp,by simp,by simp,by simp⟩
 have oS:∀ a n c,Other (.slice a n c):=fun a n c=>⟨by simp,by simp,by simp,by simp,by simp,by simp⟩
 have oM:∀ a,Other (.map a):=fun a=>⟨by simp,by simp,by simp,by simp,by simp,by simp⟩
 have oF:∀ a b c,Other (.func a b c):=fun a b c=>⟨by simp,by simp,by simp,by simp,by simp,by simp⟩
 have oN:Other .nilFunc:=⟨by simp,by simp,by simp,by simp,by simp,by simp⟩
 unfold eqK at hk
 split at hk
 · obtain ⟨a',rfl⟩:=ptr hy
   have e:x' = .pointer none:=by simpa [VR] using hx
   subst e
   split at hk
   · rename_i el hu
     exact .inr ⟨_,hk,(fun w=>equal_of fun d=>eqIn_p1 hu (some a') w d),oP _⟩
   · exact hk.elim
 · obtain ⟨a',rfl⟩:=ptr hx
   have e:y' = .pointer none:=by simpa [VR] using hy
   subst e
   split at hk
   · rename_i el hu
     exact .inr ⟨_,hk,(fun w=>equal_of fun d=>eqIn_p2 hu a' w d),oP _⟩
   · exact hk.elim
 · rename_i a b
   split at hk
   · rename_i el hu
     split at hk
     · rename_i i hi
       split at hk
       · exact hk.elim
       · rename_i m hm
         obtain ⟨hc,hk⟩:=cond_prop hk
         simp only [Bool.and_eq_true] at hc
         obtain ⟨⟨c1,c2⟩,c3⟩:=hc
         have c3:=Nat.eq_of_beq_eq_true c3
         obtain ⟨s1,h1⟩:=Option.isSome_iff_exists.1 c1
         obtain ⟨s2,h2⟩:=Option.isSome_iff_exists.1 c2
         obtain ⟨p,hp,rfl⟩:=VR_ptr_some h1 hx
         obtain ⟨q,hq,rfl⟩:=VR_ptr_some h2 hy
         rw [c3] at hp
         rw [hp] at hq
         cases hq
         refine .inr ⟨_,hk,fun w=>?_,oP _⟩
         have:=equal_of fun d=>eqIn_p3 (P:=P) hu hi (by omega) p.b (p.sh + a.off) (p.sh + b.off) w d
         rw [this]
         congr 1
         simp
     · exact hk.elim
   · exact hk.elim
 · obtain ⟨a',n',c',rfl⟩:=sl hy
   rename_i n c a m cc
   have e:x' = .slice none n c:=by simpa [VR] using hx
   subst e
   split at hk
   · rename_i el hu
     exact .inr ⟨_,hk,(fun w=>equal_of fun d=>eqIn_s1 hu _ _ _ _ (some a') w d),oS _ _ _⟩
   · exact hk.elim
 · obtain ⟨a',n',c',rfl⟩:=sl hx
   rename_i a m cc n c
   have e:y' = .slice none n c:=by simpa [VR] using hy
   subst e
   split at hk
   · rename_i el hu
     exact .inr ⟨_,hk,(fun w=>equal_of fun d=>eqIn_s2 hu _ _ _ _ a' w d),oS _ _ _⟩
   · exact hk.elim
 · have e:x' = .map none:=by simpa [VR] using hx
   subst e
   simp only [VR] at hy
   obtain ⟨p,_,rfl⟩:=hy
   split at hk
   · rename_i el el2 hu
     exact .inr ⟨_,hk,(fun w=>equal_of fun d=>eqIn_m1 hu (some _) w d),oM _⟩
   · exact hk.elim
 · have e:y' = .map none:=by simpa [VR] using hy
   subst e
   simp only [VR] at hx
   obtain ⟨p,_,rfl⟩:=hx
   split at hk
   · rename_i el el2 hu
     exact .inr ⟨_,hk,(fun w=>equal_of fun d=>eqIn_m2 hu _ w d),oM _⟩
   · exact hk.elim
 · have e:x' = .nilFunc:=by simpa [VR] using hx
   subst e
   obtain ⟨f',c',rfl,_,_⟩:=hy
   split at hk
   · rename_i hu
     exact .inr ⟨_,hk,(fun w=>equal_of fun d=>eqIn_f1 hu _ _ _ w d),oN⟩
   · exact hk.elim
 · have e:y' = .nilFunc:=by simpa [VR] using hy
   subst e
   obtain ⟨f',c',rfl,_,_⟩:=hx
   split at hk
   · rename_i hu
     exact .inr ⟨_,hk,(fun w=>equal_of fun d=>eqIn_f2 hu _ _ _ w d),oF _ _ _⟩
   · exact hk.elim
 · exact .inl hk

theorem eqLB_eq:∀ a b:List UInt8,eqLB a b = (a == b)
 | [],[]=>rfl
 | [],_ :: _=>rfl
 | _ :: _,[]=>rfl
 | a :: x,b :: y=>by
  rw [eqLB,eqLB_eq x y,List.cons_beq_cons]
  congr 1
  rw [Bool.eq_iff_iff,Nat.beq_eq,beq_iff_eq]
  exact ⟨fun h=>UInt8.toNat_inj.1 h,fun h=>by rw [h]⟩
theorem strEq_toList (a b:ByteArray):strEq a b = (a.toList == b.toList):=by
 rw [strEq,eqLB_eq,ByteArray.toList_eq,ByteArray.toList_eq]
theorem strEq_iff {a b:ByteArray}:strEq a b = true ↔ a = b:=by
 rw [strEq,eqLB_eq,beq_iff_eq]
 constructor
 · intro h
   cases a;cases b
   congr 1
   exact Array.toList_inj.1 h
 · rintro rfl;rfl
theorem partO_run {P:Program} {t:TypeId} {xs:Array Value} {off:Nat} {v:Value} (h:partO P t xs.toList off = some v) (w:World):(part t xs off).run P w = .ok v w:=by
 unfold partO at h
 split at h
 · rename_i ha
   split at h
   · rename_i i hi
     cases h
     simp only [part,run_bind,run_isAgg ha,if_true,run_sizeOf hi,run_pure]
     congr 2
     apply Array.toList_inj.1
     simp [cellsAt,Array.toList_extract,List.take_drop]
   · cases h
 · rename_i ha
   have:xs[off]? = some v:=by simpa using h
   simp only [part,run_bind,run_isAgg ha,Bool.false_eq_true,if_false,this,run_pure]
 · cases h
theorem eqFs_run {P:Program} {d:Nat} {q:TypeId → Value → Value → Option Bool} (hq:∀ (t:TypeId) (x y:Value) (b:Bool),q t x y = some b → ∀ w:World,(Op.equalIn d t x y).run P w = .ok b w) (xs ys:Array Value) :
 ∀ (fs:List Field) (b:Bool),eqFs P q xs.toList ys.toList fs = some b → ∀ w:World,(Op.eqFields d xs ys fs).run P w = .ok b w
 | [],b,h,w=>by
  simp only [eqFs] at h;cases h;rfl
 | f :: r,b,h,w=>by
  simp only [eqFs] at h
  by_cases hnm:f.name = "_"
  · rw [decide_eq_true hnm,cond_true] at h
    rw [Op.eqFields,if_neg (by simpa using hnm)]
    exact eqFs_run hq xs ys r b h w
  · rw [decide_eq_false hnm,cond_false] at h
    rw [Op.eqFields,if_pos hnm]
    split at h
    · rename_i a ha
      split at h
      · rename_i c hc
        split at h
        · rename_i p hp
          split at h
          · rename_i q' hq'
            cases h
            have e1:=partO_run ha w
            have e2:=partO_run hc w
            have e3:=hq f.type a c p hp w
            have e4:=eqFs_run hq xs ys r q' hq' w
            simp only [run_bind,e1,e2,e3]
            cases p
            · rfl
            · simpa using e4
          · cases h
        · cases h
      · cases h
    · cases h
theorem eqIs_run {P:Program} {d:Nat} {q:TypeId → Value → Value → Option Bool} {el:TypeId} {sz:Nat} (hq:∀ (t:TypeId) (x y:Value) (b:Bool),q t x y = some b → ∀ w:World,(Op.equalIn d t x y).run P w = .ok b w) (xs ys:Array Value) :
 ∀ (is:List Nat) (b:Bool),eqIs P q el sz xs.toList ys.toList is = some b → ∀ w:World,(Op.eqItems d el sz xs ys is).run P w = .ok b w
 | [],b,h,w=>by
  simp only [eqIs] at h;cases h;rfl
 | j :: r,b,h,w=>by
  simp only [eqIs] at h
  rw [Op.eqItems]
  split at h
  · rename_i a ha
    split at h
    · rename_i c hc
      split at h
      · rename_i p hp
        split at h
        · rename_i q' hq'
          cases h
          have e1:=partO_run ha w
          have e2:=partO_run hc w
          have e3:=hq el a c p hp w
          have e4:=eqIs_run hq xs ys r q' hq' w
          simp only [run_bind,e1,e2,e3]
          cases p
          · rfl
          · simpa using e4
        · cases h
      · cases h
    · cases h
  · cases h
theorem eqD_run {P:Program}:∀ (d:Nat) (t:TypeId) (x y:Value) (b:Bool),eqD P d t x y = some b → ∀ (n:Nat),d ≤ n → ∀ w:World,(Op.equalIn n t x y).run P w = .ok b w
 | 0,_,_,_,_,h,_,_,_=>by simp [eqD] at h
 | d + 1,t,x,y,b,h,n,hn,w=>by
  obtain ⟨m,rfl⟩:∃ m,n = m + 1:=⟨n - 1,by omega⟩
  simp only [eqD] at h
  split at h
  · rename_i hu
    unfold eqB2 at h
    split at h
    · cases h;exact run_equalIn_bool' w m t _ _ hu
    · cases h
  · rename_i kd hu
    unfold eqI2 at h
    split at h
    · rename_i k a k' c
      by_cases hk:k = k'
      · subst hk
        rw [decide_eq_true rfl,cond_true] at h
        cases h
        rw [run_equalIn_int w m t _ kd _ _ hu]
        rw [show (a == c) = decide (a = c) from by rw [Bool.eq_iff_iff,beq_iff_eq,decide_eq_true_eq]]
      · rw [decide_eq_false hk,cond_false] at h;cases h
    · cases h
  · rename_i hu
    unfold eqS2 at h
    split at h
    · cases h
      rw [run_equalIn_string w m t _ _ hu,strEq_toList]
    · cases h
  · rename_i fs hu
    cases hs:P.stoodInHeld t with
    | true=>rw [hs,cond_true] at h;exact absurd h (by simp)
    | false =>
     rw [hs,cond_false] at h
     unfold eqA2 at h
     split at h
     · rename_i xs ys
       have hf:P.fieldsOf t = fs:=by simp only [Program.fieldsOf,hu]
       rw [run_equalIn_agg w m t xs ys (by rw [hf];exact hu) hs,hf]
       exact eqFs_run (fun t x y b hb w=>eqD_run d t x y b hb m (by omega) w) xs ys fs.toList b h w
     · cases h
  · rename_i n el hu
    split at h
    · rename_i i hi
      unfold eqA2 at h
      split at h
      · rename_i xs ys
        rw [run_equalIn_array w m xs ys hu hi,show P.cellsOf el = i.size from by simp only [Program.cellsOf,hi];rfl]
        exact eqIs_run (fun t x y b hb w=>eqD_run d t x y b hb m (by omega) w) xs ys (List.range n) b h w
      · cases h
    · cases h
  · cases h
theorem aggEq_sound {φ:Phi} {P:Program} {t:TypeId} {xs ys:Array Value} {x' y':Value} {k:Bool → Prop} (hk:aggEqK P t xs ys k) (hx:VR φ (.agg xs) x') (hy:VR φ (.agg ys) y') :
 ∃ b,k b ∧ ∀ (ox oy:Operand) (w:World),((eqGuard .eql t ox oy x' y' >>= fun _=>binOp .eql t x' y'):Sem Value).run P w = .ok (.bool b) w ∧ ((eqGuard .neq t ox oy x' y' >>= fun _=>binOp .neq t x' y'):Sem Value).run P w = .ok (.bool !b) w:=by
 unfold aggEqK at hk
 cases hb:(P.eqGuardType P.depth t || !(flatA xs) || !(flatA ys)) with
 | true=>rw [hb,cond_true] at hk;exact hk.elim
 | false =>
  rw [hb,cond_false] at hk
  simp only [Bool.or_eq_false_iff,Bool.not_eq_false'] at hb
  have e1:x' = .agg xs:=(VR_flat φ (.agg xs) x' hb.1.2).1 hx
  have e2:y' = .agg ys:=(VR_flat φ (.agg ys) y' hb.2).1 hy
  subst e1;subst e2
  split at hk
  · rename_i b h
    refine ⟨b,hk,fun ox oy w=>?_⟩
    have hr:=eqD_run 100 t (.agg xs) (.agg ys) b h 10000 (by omega) w
    constructor
    · rw [run_bind,run_eqGuard_agg w .eql t ox oy xs ys hb.1.1]
      show (binOp .eql t (.agg xs) (.agg ys)).run P w = _
      rw [run_eql_struct,hr];rfl
    · rw [run_bind,run_eqGuard_agg w .neq t ox oy xs ys hb.1.1]
      show (binOp .neq t (.agg xs) (.agg ys)).run P w = _
      rw [run_neq_struct,hr];rfl
  · exact hk.elim
theorem strEq_run {P:Program} {t:TypeId} {ox oy:Operand} (a b:ByteArray) (w:World):((eqGuard .eql t ox oy (.string a) (.string b) >>= fun _=>binOp .eql t (.string a) (.string b)):Sem Value).run P w = .ok (.bool (strEq a b)) w ∧
 ((eqGuard .neq t ox oy (.string a) (.string b) >>= fun _=>binOp .neq t (.string a) (.string b)):Sem Value).run P w = .ok (.bool !strEq a b) w:=by
 rw [strEq_toList]
 constructor <;> (rw [run_bind,run_eqGuard w (.inr ⟨by simp,by simp⟩)];simp only [binOp,Op.stringOp,run_pure])

theorem bin_sound {φ:Phi} {P:Program} {op:BinOp} {t:TypeId} {x y x' y':Value} {ox oy:Operand} {k:Value → Prop} {other:Prop} (hk:binK P op t x y k other) (hx:VR φ x x') (hy:VR φ y y') :
 other ∨ ∃ v v',k v ∧ VR φ v v' ∧ ∀ w:World,((eqGuard op t ox oy x' y' >>= fun _=>binOp op t x' y'):Sem Value).run P w = .ok v' w:=by
 have num:∀ {v v':Value},k v → VR φ v v' → (op ≠ .eql ∧ op ≠ .neq) → (∀ w:World,(binOp op t x' y').run P w = .ok v' w) →
  ∃ v v',k v ∧ VR φ v v' ∧ ∀ w:World,((eqGuard op t ox oy x' y' >>= fun _=>binOp op t x' y'):Sem Value).run P w = .ok v' w:=fun h1 h2 h3 h4 =>
  ⟨_,_,h1,h2,fun w=>by rw [run_bind,run_eqGuard w (.inl h3)];exact h4 w⟩
 unfold binK at hk
 split at hk
 · split at hk
   · rename_i kd a kd' b
     obtain ⟨hc,hk⟩:=cond_prop hk
     simp only [decide_eq_true_eq] at hc
     rw [VR_int hx,VR_int hy] at num ⊢
     refine .inr (num hk ((VR_flat φ _ _ rfl).2 rfl) ⟨by simp,by simp⟩ fun w=>?_)
     simp only [binOp,Op.shift,if_neg (show ¬ b < 0 by omega),run_pure]
   · exact hk.elim
 · split at hk
   · rename_i kd a kd' b
     obtain ⟨hc,hk⟩:=cond_prop hk
     simp only [decide_eq_true_eq] at hc
     rw [VR_int hx,VR_int hy] at num ⊢
     refine .inr (num hk ((VR_flat φ _ _ rfl).2 rfl) ⟨by simp,by simp⟩ fun w=>?_)
     simp only [binOp,Op.shift,if_neg (show ¬ b < 0 by omega),run_pure]
   · exact hk.elim
 · split at hk
   · rename_i kd a kd' b
     obtain ⟨hc,hk⟩:=cond_prop hk
     simp only [Bool.and_eq_true,decide_eq_true_eq,Bool.not_eq_true',decide_eq_false_iff_not] at hc
     obtain ⟨e0,hb⟩:=hc
     rw [VR_int hx,VR_int hy] at num ⊢
     refine .inr (num hk ((VR_flat φ _ _ rfl).2 rfl) ⟨by simp,by simp⟩ fun w=>?_)
     simp only [binOp,← e0,ne_eq,not_true_eq_false,if_false,Op.intDiv,if_neg hb,run_pure]
   · exact hk.elim
 · split at hk
   · rename_i kd a kd' b
     obtain ⟨hc,hk⟩:=cond_prop hk
     simp only [Bool.and_eq_true,decide_eq_true_eq,Bool.not_eq_true',decide_eq_false_iff_not] at hc
     obtain ⟨e0,hb⟩:=hc
     rw [VR_int hx,VR_int hy] at num ⊢
     refine .inr (num hk ((VR_flat φ _ _ rfl).2 rfl) ⟨by simp,by simp⟩ fun w=>?_)
     simp only [binOp,← e0,ne_eq,not_true_eq_false,if_false,Op.intDiv,if_neg hb,run_pure]
   · exact hk.elim
 · split at hk
   · rename_i a b
     obtain ⟨hc,hk⟩:=cond_prop hk
     simp only [decide_eq_true_eq] at hc
     have e1:x' = .string a:=by simpa [VR] using hx
     have e2:y' = .string b:=by simpa [VR] using hy
     subst e1;subst e2
     refine .inr (num hk ((VR_flat φ _ _ rfl).2 rfl) ⟨by simp,by simp⟩ fun w=>?_)
     simp only [binOp,Op.stringOp,if_neg (show ¬ ((a.size + b.size:Nat):Int) > IntKind.i64.max by omega),run_pure]
   · exact .inl hk
 · split at hk
   · rename_i a b
     have e1:x' = .string a:=by simpa [VR] using hx
     have e2:y' = .string b:=by simpa [VR] using hy
     subst e1;subst e2
     exact .inr ⟨_,_,hk,(VR_flat φ _ _ rfl).2 rfl,fun w=>(strEq_run a b w).1⟩
   · obtain ⟨b,h1,h2⟩:=aggEq_sound hk hx hy
     exact .inr ⟨_,_,h1,(VR_flat φ _ _ rfl).2 rfl,fun w=>(h2 ox oy w).1⟩
   · rcases eq_sound hk hx hy with h | ⟨r,h1,h2,h3⟩
     · exact .inl h
     · refine .inr ⟨_,.bool r,h1,(VR_flat φ _ _ rfl).2 rfl,fun w=>?_⟩
       rw [run_bind,run_eqGuard w (.inr ⟨h3.2.2.2.2.1,h3.2.2.2.2.2⟩)]
       exact (run_eq_of (h2 w) h3.1 h3.2.1 h3.2.2.1 h3.2.2.2.1).1
 · split at hk
   · rename_i a b
     have e1:x' = .string a:=by simpa [VR] using hx
     have e2:y' = .string b:=by simpa [VR] using hy
     subst e1;subst e2
     exact .inr ⟨_,_,hk,(VR_flat φ _ _ rfl).2 rfl,fun w=>(strEq_run a b w).2⟩
   · obtain ⟨b,h1,h2⟩:=aggEq_sound hk hx hy
     exact .inr ⟨_,_,h1,(VR_flat φ _ _ rfl).2 rfl,fun w=>(h2 ox oy w).2⟩
   · rcases eq_sound hk hx hy with h | ⟨r,h1,h2,h3⟩
     · exact .inl h
     · refine .inr ⟨_,.bool !r,h1,(VR_flat φ _ _ rfl).2 rfl,fun w=>?_⟩
       rw [run_bind,run_eqGuard w (.inr ⟨h3.2.2.2.2.1,h3.2.2.2.2.2⟩)]
       exact (run_eq_of (h2 w) h3.1 h3.2.1 h3.2.2.1 h3.2.2.2.1).2
 · exact .inl hk

/-! ### maps -/
theorem run_getMap {P:Program} {w:World} {r:Nat} {es:Array MapEntry} {clock:Nat} (h:w.heap[r]? = some (.map es clock)):(getObj r).run P w = .ok (.map es clock) w:=by
 simp [getObj,Sem.run,h]
theorem run_setMap {P:Program} {w:World} {r:Nat} {es:Array MapEntry} {clock:Nat} (o:Obj) (h:w.heap[r]? = some (.map es clock)):(setObj r o).run P w = .ok () { w with heap:=w.heap.setIfInBounds r o }:=by
 simp [setObj,Sem.run,h]
theorem run_getIter {P:Program} {w:World} {r:Nat} {m:Option Nat} {a b:Nat} {s:Array Nat} (h:w.heap[r]? = some (.mapIter m a s b)):(getObj r).run P w = .ok (.mapIter m a s b) w:=by
 simp [getObj,Sem.run,h]
theorem run_setIter {P:Program} {w:World} {r:Nat} {m:Option Nat} {a b:Nat} {s:Array Nat} (o:Obj) (h:w.heap[r]? = some (.mapIter m a s b)):(setObj r o).run P w = .ok () { w with heap:=w.heap.setIfInBounds r o }:=by
 simp [setObj,Sem.run,h]
theorem run_checkInt {P:Program} {w:World} {b:Bool} {kt:TypeId} {kk kd:IntKind} {a:Int} (h:P.underlying kt = some (.int kk)):(Instr.checkKey b 10000 kt (.int kd a)).run P w = .ok () w:=by
 have key:∀ n,(Instr.checkKey b (n + 1) kt (.int kd a)).run P w = .ok () w:=fun n=>by
  simp only [Instr.checkKey,run_bind,run_underlying h,run_pure]
 exact key 9999

theorem EntsR_len {φ:Phi}:∀ {es:List (Value × Value)} {ms:List MapEntry},EntsR φ es ms → ms.length = es.length
 | [],_,h=>by cases h;rfl
 | _ :: es,_,h=>by obtain ⟨m,ms,rfl,_,h2⟩:=h;simp [EntsR_len h2]
theorem EntsR_get {φ:Phi}:∀ {es:List (Value × Value)} {ms:List MapEntry} {j:Nat} {e:Value × Value},EntsR φ es ms → es[j]? = some e → ∃ m,ms[j]? = some m ∧ EntR φ e m
 | [],_,j,e,_,h=>by simp at h
 | x :: es,_,0,e,hr,h=>by obtain ⟨m,ms,rfl,h1,h2⟩:=hr;simp at h;subst h;exact ⟨m,rfl,h1⟩
 | x :: es,_,j + 1,e,hr,h=>by obtain ⟨m,ms,rfl,h1,h2⟩:=hr;simpa using EntsR_get h2 (by simpa using h)
theorem EntsR_set {φ:Phi}:∀ {es:List (Value × Value)} {ms:List MapEntry} (j:Nat) {e:Value × Value} {m:MapEntry},EntsR φ es ms → EntR φ e m → EntsR φ (es.set j e) (ms.set j m)
 | [],_,j,e,m,hr,_=>by cases hr;simp [EntsR]
 | x :: es,_,0,e,m,hr,h=>by obtain ⟨m',ms,rfl,h1,h2⟩:=hr;exact ⟨m,ms,rfl,h,h2⟩
 | x :: es,_,j + 1,e,m,hr,h=>by obtain ⟨m',ms,rfl,h1,h2⟩:=hr;exact ⟨m',ms.set j m,rfl,h1,EntsR_set j h2 h⟩
theorem EntsR_app {φ:Phi}:∀ {es:List (Value × Value)} {ms:List MapEntry} {e:Value × Value} {m:MapEntry},EntsR φ es ms → EntR φ e m → EntsR φ (es ++ [e]) (ms ++ [m])
 | [],_,e,m,hr,h=>by cases hr;exact ⟨m,[],rfl,h,rfl⟩
 | x :: es,_,e,m,hr,h=>by obtain ⟨m',ms,rfl,h1,h2⟩:=hr;exact ⟨m',ms ++ [m],rfl,h1,EntsR_app h2 h⟩

theorem findE_sound {φ:Phi} {kk kd:IntKind} {a:Int} {k:Option (Nat × Value) → Prop}:∀ {es:List (Value × Value)} {ms:List MapEntry} {i:Nat},EntsR φ es ms → findE kd a es i k →
 (k none ∧ Instr.findNow (.int kk) (.int kd a) ms i = some none) ∨ ∃ j v m,k (some (i + j,v)) ∧ ms[j]? = some m ∧ m.key = .int kd a ∧ VR φ v m.val ∧ Instr.findNow (.int kk) (.int kd a) ms i = some (some (i + j,m.val))
 | [],_,i,h,hk=>by cases h;exact .inl ⟨hk,rfl⟩
 | e :: es,_,i,h,hk=>by
  obtain ⟨m,ms,rfl,⟨h1,h2,h3⟩,h4⟩:=h
  obtain ⟨key,v⟩:=e
  unfold findE at hk
  cases key <;> simp only at hk <;> try exact hk.elim
  rename_i kd' b
  obtain ⟨e1,hk⟩:=cond_prop hk
  simp only [decide_eq_true_eq] at e1
  subst e1
  by_cases hab:a = b
  · subst hab
    simp only [decide_true,cond_true] at hk
    exact .inr ⟨0,v,m,by simpa using hk,rfl,h2,h3,by simp [Instr.findNow,h2,Instr.sameNow]⟩
  · simp only [hab,decide_false,cond_false] at hk
    have hs:Instr.sameNow (.int kk) (.int kd a) m.key = some false:=by rw [h2];simp [Instr.sameNow,hab]
    rcases findE_sound (kk:=kk) h4 hk with ⟨g1,g2⟩ | ⟨j,v,m',g1,g2,g3,g4,g5⟩
    · exact .inl ⟨g1,by simp only [Instr.findNow,hs];exact g2⟩
    · refine .inr ⟨j + 1,v,m',?_,by simpa using g2,g3,g4,?_⟩
      · rw [show i + (j + 1) = i + 1 + j from by omega];exact g1
      · rw [show i + (j + 1) = i + 1 + j from by omega];simp only [Instr.findNow,hs];exact g5

theorem run_findKey {P:Program} {w:World} {kt:TypeId} {kk:IntKind} {x:Value} {l:List MapEntry} {r:Option (Nat × Value)} (h:P.underlying kt = some (.int kk)) (hf:Instr.findNow (.int kk) x l 0 = some r):(Instr.findKey kt x l).run P w = .ok r w:=by
 simp only [Instr.findKey,run_bind,run_underlying h,hf,run_pure]

theorem mapT_spec {P:Program} {t:TypeId} {k:TypeId → Prop} (h:mapT P t k):∃ kt el kk,P.underlying t = some (.map kt el) ∧ P.underlying kt = some (.int kk) ∧ k el:=by
 unfold mapT at h
 split at h
 · rename_i kt el hu
   split at h
   · exact ⟨_,_,_,hu,‹_›,h⟩
   · exact h.elim
 · exact h.elim
theorem mapOf_spec {W0:World} {φ:Phi} {h:AHeap} {w:World} (S:Sim W0 φ h w) {x x':Value} {k:Nat → List (Value × Value) → Prop} (hk:mapOf h x k) (hx:VR φ x x') :
 ∃ r es p ms clock,x = .map (some r) ∧ k r es ∧ x' = .map (some p.b) ∧ φ[r]? = some p ∧ h[r]? = some (.map es) ∧ w.heap[p.b]? = some (.map ms clock) ∧ EntsR φ es ms.toList ∧ clock = es.length ∧ (∀ (j:Nat) (m:MapEntry),ms.toList[j]? = some m → m.born = j) ∧ W0.heap.size ≤ p.b:=by
 unfold mapOf at hk
 split at hk
 · rename_i r
   split at hk
   · rename_i es ho
     obtain ⟨p,hp,rfl⟩:=hx
     obtain ⟨h1,ms,clock,h2,h3,h4,h5⟩:=S.blk r _ p ho hp
     exact ⟨r,es,p,ms,clock,rfl,hk,rfl,hp,ho,h2,h3,h4,h5,h1⟩
   · exact hk.elim
 · exact hk.elim

theorem makeMap_sound {W0:World} {φ:Phi} {h:AHeap} {w:World} (S:Sim W0 φ h w) {P:Program} {t:TypeId} {k:Value → AHeap → List Nat → Prop} (hk:k (.map (some h.length)) (h ++ [.map []]) []) :
 ∃ v' w',(Instr.makeMap t none).run P w = .ok v' w' ∧ OpPost W0 φ h w k v' w':=by
 refine ⟨.map (some w.heap.size),{ w with heap:=w.heap.push (.map #[] 0) },rfl,_,_,_,φ ++ [⟨w.heap.size,0,0⟩],hk,?_,S.push (w':={ w with heap:=w.heap.push (.map #[] 0) }) (.map []) ⟨w.heap.size,0,0⟩ (.map #[] 0) rfl rfl rfl rfl rfl ?_,Ext.push S (w':={ w with heap:=w.heap.push (.map #[] 0) }) _ _ (.map #[] 0) rfl rfl,fun u u' hu=>VR_mono (push_mono φ _) u u' hu⟩
 · exact ⟨⟨w.heap.size,0,0⟩,by rw [← S.len];simp,rfl⟩
 · exact ⟨S.size,#[],0,by simp,rfl,rfl,fun j m h=>by simp at h⟩

theorem lookup_sound {W0:World} {φ:Phi} {h:AHeap} {w:World} (S:Sim W0 φ h w) {P:Program} {t:TypeId} {x x' ix ix':Value} {ok:Bool} {k:Value → Prop} (hk:lookupK P t x ix ok h k) (hx:VR φ x x') (hi:VR φ ix ix') :
 ∃ v v',k v ∧ VR φ v v' ∧ (Instr.lookup t x' ix' ok).run P w = .ok v' w:=by
 unfold lookupK at hk
 split at hk
 · rename_i kd a
   have e:ix' = .int kd a:=by simpa [VR] using hi
   subst e
   obtain ⟨kt,el,kk,hu,hkt,hk⟩:=mapT_spec hk
   split at hk
   · rename_i inf hinf
     split at hk
     · rename_i z hz
       obtain ⟨r,es,p,ms,clock,rfl,hk,rfl,hp,ho,h2,h3,h4,h5,_⟩:=mapOf_spec S hk hx
       obtain ⟨hzf,hk⟩:=cond_prop hk
       have base:∀ {o:Option (Nat × Value)},Instr.findNow (.int kk) (.int kd a) ms.toList 0 = some o →
        (Instr.lookup t (.map (some p.b)) (.int kd a) ok).run P w = (match o with | some q=>(pure (if ok then .tuple #[q.2,.bool true] else q.2):Sem Value).run P w | none=>(pure (if ok then .tuple #[z,.bool false] else z):Sem Value).run P w):=by
        intro o hf
        cases o with
        | none=>simp only [Instr.lookup,run_bind,run_underlying hu,run_getMap h2,run_pure,run_checkInt hkt,run_findKey hkt hf,run_zeroValue hinf hz]
        | some q=>simp only [Instr.lookup,run_bind,run_underlying hu,run_getMap h2,run_pure,run_checkInt hkt,run_findKey hkt hf]
       rcases findE_sound (kk:=kk) h3 hk with ⟨g1,g2⟩ | ⟨j,v,m,g1,g2,g3,g4,g5⟩
       · refine ⟨_,_,g1,?_,base g2⟩
         cases ok with
         | true=>exact ⟨_,rfl,z,[.bool false],rfl,(VR_flat φ _ _ hzf).2 rfl,_,[],rfl,rfl,rfl⟩
         | false=>exact (VR_flat φ _ _ hzf).2 rfl
       · refine ⟨_,_,g1,?_,base g5⟩
         cases ok with
         | true=>exact ⟨_,rfl,m.val,[.bool true],rfl,g4,_,[],rfl,rfl,rfl⟩
         | false=>exact g4
     · exact hk.elim
   · exact hk.elim
 · exact hk.elim

theorem setHeap_get {w:World} {r n:Nat} {o:Obj} (hne:n ≠ r):({ w with heap:=w.heap.setIfInBounds r o }:World).heap[n]? = w.heap[n]?:=by
 simp [Ne.symm hne]
theorem setHeap_self {w:World} {r:Nat} {o o':Obj} (h:w.heap[r]? = some o'):({ w with heap:=w.heap.setIfInBounds r o }:World).heap[r]? = some o:=by
 have:r < w.heap.size:=(Array.getElem?_eq_some_iff.1 h).1
 simp [this]

theorem mapUpdate_sound {W0:World} {φ:Phi} {h:AHeap} {w:World} (S:Sim W0 φ h w) {P:Program} {t:TypeId} {x x' ix ix' v v':Value} {k:AHeap → Prop} (hk:mapUpdateK P t x ix v h k) (hx:VR φ x x') (hi:VR φ ix ix') (hv:VR φ v v') :
 ∃ h' w',k h' ∧ Sim W0 φ h' w' ∧ Ext φ h w φ h' w' ∧ (Instr.mapUpdate t x' ix' v').run P w = .ok () w':=by
 unfold mapUpdateK at hk
 split at hk
 · rename_i kd a
   have e:ix' = .int kd a:=by simpa [VR] using hi
   subst e
   obtain ⟨kt,el,kk,hu,hkt,hk⟩:=mapT_spec hk
   obtain ⟨r,es,p,ms,clock,rfl,hk,rfl,hp,ho,h2,h3,h4,h5,h6⟩:=mapOf_spec S hk hx
   have hlive:liveB h r = true:=by simp [liveB,ho,AObj.liveB]
   have hl:=EntsR_len h3
   have fin:∀ (es':List (Value × Value)) (ms':Array MapEntry) (c':Nat),EntsR φ es' ms'.toList → c' = es'.length → (∀ (j:Nat) (m:MapEntry),ms'.toList[j]? = some m → m.born = j) → k (h.set r (.map es')) →
    (Instr.mapUpdate t (.map (some p.b)) (.int kd a) v').run P w = .ok () { w with heap:=w.heap.setIfInBounds p.b (.map ms' c') } →
    ∃ h' w',k h' ∧ Sim W0 φ h' w' ∧ Ext φ h w φ h' w' ∧ (Instr.mapUpdate t (.map (some p.b)) (.int kd a) v').run P w = .ok () w':=by
    intro es' ms' c' a1 a2 a3 a4 a5
    refine ⟨_,{ w with heap:=w.heap.setIfInBounds p.b (.map ms' c') },a4,S.put (w':={ w with heap:=w.heap.setIfInBounds p.b (.map ms' c') }) hlive hp (.map es') rfl rfl rfl (by simp) (fun n hn=>setHeap_get hn) ⟨h6,ms',c',setHeap_self h2,a1,a2,a3⟩,Ext.put hlive hp _ (by simp) (fun n hn=>setHeap_get hn) (fun hm=>by simp [movedB,ho,AObj.movedB] at hm),a5⟩
   rcases findE_sound (kk:=kk) h3 hk with ⟨g1,g2⟩ | ⟨j,u,m,g1,g2,g3,g4,g5⟩
   · refine fin (es ++ [(.int kd a,v)]) (ms.push { key:=.int kd a,val:=v',born:=clock }) (clock + 1) (by simpa using EntsR_app h3 ⟨rfl,rfl,hv⟩) (by simp [h4]) (fun j m hm=>?_) g1 ?_
     · rw [Array.toList_push] at hm
       rcases Nat.lt_or_ge j ms.toList.length with hj | hj
       · rw [List.getElem?_append_left hj] at hm;exact h5 j m hm
       · have hj':j = ms.toList.length:=by
          have:=(List.getElem?_eq_some_iff.1 hm).1
          simp at this hj ⊢;omega
         subst hj'
         simp at hm
         subst hm
         simp at hl ⊢;omega
     · simp only [Instr.mapUpdate,run_bind,run_underlying hu,run_getMap h2,run_checkInt hkt,run_findKey hkt g2,run_setMap _ h2]
   · have hb:(ms[0 + j]?).map (·.key) = some (.int kd a):=by rw [Nat.zero_add,← Array.getElem?_toList,g2];simp [g3]
     have hborn:=h5 j m g2
     refine fin (es.set (0 + j) (.int kd a,v)) (ms.modify (0 + j) fun e=>{ e with key:=.int kd a,val:=v' }) clock ?_ (by simp [h4]) (fun i m' hm=>?_) g1 ?_
     · have:(ms.modify (0 + j) fun e=>{ e with key:=.int kd a,val:=v' }).toList = ms.toList.set (0 + j) { m with key:=.int kd a,val:=v' }:=by
        apply List.ext_getElem?
        intro i
        rw [Array.getElem?_toList,Array.getElem?_modify,List.getElem?_set]
        by_cases e:0 + j = i
        · subst e
          rw [if_pos rfl,if_pos rfl,← Array.getElem?_toList,Nat.zero_add,g2]
          have:=(List.getElem?_eq_some_iff.1 g2).1
          simp at this
          simp [this]
        · rw [if_neg e,if_neg e,Array.getElem?_toList]
       rw [this]
       exact EntsR_set _ h3 ⟨rfl,rfl,hv⟩
     · rw [Array.getElem?_toList,Array.getElem?_modify] at hm
       split at hm
       · cases hq:ms[i]? with
         | none=>rw [hq] at hm;cases hm
         | some q=>rw [hq] at hm;cases hm;exact h5 i q (by simpa using hq)
       · exact h5 i m' (by simpa using hm)
     · simp only [Instr.mapUpdate,run_bind,run_underlying hu,run_getMap h2,run_checkInt hkt,run_findKey hkt g5,hb,Option.getD_some]
       have:(Instr.keyThatStays (.int kd a) (.int kd a)).run P w = .ok (.int kd a) w:=by
        unfold Instr.keyThatStays
        rw [if_pos (by show Instr.sameBits (9999 + 1) _ _ = true;simp [Instr.sameBits])]
        rfl
       simp only [this,run_setMap _ h2]
 · exact hk.elim

theorem range_sound {W0:World} {φ:Phi} {h:AHeap} {w:World} (S:Sim W0 φ h w) {P:Program} {t:TypeId} {x x':Value} {k:Value → AHeap → List Nat → Prop} (hk:rangeK P t x h fun u h'=>k u h' []) (hx:VR φ x x') :
 ∃ v' w',(Instr.range t x').run P w = .ok v' w' ∧ OpPost W0 φ h w k v' w':=by
 unfold rangeK at hk
 split at hk
 · rename_i kt el hu
   obtain ⟨r,es,p,ms,clock,rfl,hk,rfl,hp,ho,h2,h3,h4,h5,h6⟩:=mapOf_spec S hk hx
   refine ⟨.pointer (some ⟨w.heap.size,0,none⟩),{ w with heap:=w.heap.push (.mapIter (some p.b) clock #[] clock) },?_,_,_,_,φ ++ [⟨w.heap.size,0,0⟩],hk,?_,
    S.push (w':={ w with heap:=w.heap.push (.mapIter (some p.b) clock #[] clock) }) (.miter (.map (some r)) es.length []) ⟨w.heap.size,0,0⟩ (.mapIter (some p.b) clock #[] clock) rfl rfl rfl rfl rfl ⟨S.size,rfl,p.b,#[],by simp [h4],rfl,p,push_mono φ _ _ _ hp,rfl⟩,Ext.push S (w':={ w with heap:=w.heap.push (.mapIter (some p.b) clock #[] clock) }) _ _ _ rfl rfl,fun u u' hu=>VR_mono (push_mono φ _) u u' hu⟩
   · simp only [Instr.range,run_bind,run_underlying hu,run_getMap h2,run_pure]
     rfl
   · exact ⟨⟨w.heap.size,0,0⟩,by simp [newAddr,← S.len],rfl⟩
 · exact hk.elim

theorem iterOf_spec {W0:World} {φ:Phi} {h:AHeap} {w:World} (S:Sim W0 φ h w) {x x':Value} {k:Nat → Value → List (Value × Value) → List Nat → Prop} (hk:iterOf h x k) (hx:VR φ x x') :
 ∃ b m es seen p q ms sn,k b m es seen ∧ x' = .pointer (some ⟨p.b,0,none⟩) ∧ φ[b]? = some p ∧ p.sh = 0 ∧ h[b]? = some (.miter m es.length seen) ∧ w.heap[p.b]? = some (.mapIter (some q) es.length sn es.length) ∧ sn.toList = seen ∧ VR φ m (.map (some q)) ∧
  w.heap[q]? = some (.map ms es.length) ∧ EntsR φ es ms.toList ∧ (∀ (j:Nat) (m:MapEntry),ms.toList[j]? = some m → m.born = j) ∧ W0.heap.size ≤ p.b:=by
 unfold iterOf at hk
 split at hk
 · rename_i a
   split at hk
   · rename_i sp hsp
     obtain ⟨ho0,hk⟩:=cond_prop hk
     have ho0:=Nat.eq_of_beq_eq_true ho0
     split at hk
     · rename_i m n seen hob
       have hx2:∃ p,φ[a.block]? = some p ∧ x' = .pointer (some ⟨p.b,p.sh + a.off,none⟩):=by
        simp only [VR,hsp] at hx;exact hx
       obtain ⟨p,hp,rfl⟩:=hx2
       obtain ⟨h1,h0,q,sn,h2,h3,h4⟩:=S.blk _ _ p hob hp
       obtain ⟨r,es,p2,ms,clock,rfl,hk,e2,hp2,ho,g2,g3,g4,g5,_⟩:=mapOf_spec S hk h4
       cases e2
       obtain ⟨hn,hk2⟩:=cond_prop hk
       have hn:=Nat.eq_of_beq_eq_true hn
       subst hn g4
       exact ⟨a.block,_,es,seen,p,_,ms,sn,hk2,by rw [h0,ho0],hp,h0,hob,h2,h3,h4,g2,g3,g5,h1⟩
     · exact hk.elim
   · exact hk.elim
 · exact hk.elim

theorem unseen_mem {seen:List Nat}:∀ {n s i:Nat},i ∈ unseen seen n s ↔ s ≤ i ∧ i < s + n ∧ memB i seen = false
 | 0,s,i=>by simp [unseen];omega
 | n + 1,s,i=>by
  unfold unseen
  cases hm:memB s seen with
  | true =>
   rw [cond_true,unseen_mem]
   constructor
   · rintro ⟨a,b,c⟩;exact ⟨by omega,by omega,c⟩
   · rintro ⟨a,b,c⟩
     have:i ≠ s:=fun e=>by subst e;rw [hm] at c;cases c
     exact ⟨by omega,by omega,c⟩
  | false =>
   rw [cond_false,List.mem_cons,unseen_mem]
   constructor
   · rintro (rfl | ⟨a,b,c⟩)
     · exact ⟨Nat.le_refl _,by omega,hm⟩
     · exact ⟨by omega,by omega,c⟩
   · rintro ⟨a,b,c⟩
     by_cases e:i = s
     · exact .inl e
     · exact .inr ⟨by omega,by omega,c⟩
theorem allI_mem {k:Nat → Prop}:∀ {l:List Nat},allI k l → ∀ i ∈ l,k i
 | [],_,_,h=>by cases h
 | _ :: _,h,i,hi=>by
  rcases List.mem_cons.1 hi with rfl | hi
  · exact h.1
  · exact allI_mem h.2 i hi

theorem next_sound {W0:World} {φ:Phi} {h:AHeap} {w:World} (S:Sim W0 φ h w) {P:Program} {ty:TypeId} {x x':Value} {k:Value → AHeap → List Nat → Prop} (hk:nextK h x fun u h'=>k u h' []) (hx:VR φ x x') :
 ∃ v' w',(Instr.next x' false ty).run P w = .ok v' w' ∧ OpPost W0 φ h w k v' w':=by
 obtain ⟨b,m,es,seen,p,q,ms,sn,hk,rfl,hp,h0,hob,h2,h3,h4,g2,g3,g5,h6⟩:=iterOf_spec S hk hx
 subst h3
 have hl:=EntsR_len g3
 have hlen:ms.size = es.length:=by simpa using hl
 have born_lt:∀ e ∈ ms,e.born < es.length:=fun e he=>by
  obtain ⟨j,hj⟩:=Array.getElem?_of_mem he
  rw [g5 j e (by simpa using hj)]
  have:=(Array.getElem?_eq_some_iff.1 hj).1
  omega
 have hcont:∀ j,sn.contains j = memB j sn.toList:=fun j=>by
  rw [Bool.eq_iff_iff,memB_iff,Array.contains_iff_mem,Array.mem_toList_iff]
 have hnew:(ms.filter fun e=>!sn.contains e.born).filter (fun e=>decide (e.born ≥ es.length)) = #[]:=by
  apply Array.eq_empty_of_size_eq_zero
  rw [Array.size_eq_zero_iff,Array.filter_eq_empty_iff]
  intro e he
  have:=born_lt e (Array.mem_filter.1 he).1
  simp;omega
 have hold:(ms.filter fun e=>!sn.contains e.born).filter (fun e=>decide (e.born < es.length)) = ms.filter fun e=>!sn.contains e.born:=by
  rw [Array.filter_eq_self]
  intro e he
  have:=born_lt e (Array.mem_filter.1 he).1
  simpa using this
 have hguard:(!sn.isEmpty && !ms.isEmpty && ms.all fun x=>decide (x.born ≥ es.length)) = false:=by
  cases hms:ms.isEmpty with
  | true=>simp
  | false =>
   have:0 < ms.size:=by
    rcases Nat.eq_zero_or_pos ms.size with e | e
    · rw [Array.isEmpty_iff_size_eq_zero.2 e] at hms;cases hms
    · exact e
   cases h1:(ms.all fun x=>decide (x.born ≥ es.length)) with
   | false=>simp
   | true =>
    rw [Array.all_eq_true] at h1
    have h3:=h1 0 this
    have h4:=born_lt ms[0] (Array.getElem_mem _)
    simp at h3
    omega
 have step:∀ (j:Nat),j < es.length → memB j sn.toList = false → ∀ e,ms[j]? = some e → allI (fun i=>match es[i]? with
  | some e=>k (.tuple #[.bool true,e.1,e.2]) (h.set b (.miter m es.length (sn.toList ++ [i]))) []
  | none=>False) [j] → ∀ w1:World,w1.os = w.os → w1.tape = w.tape → w1.output = w.output → w1.heap = w.heap →
  ∃ w',(do setObj p.b (.mapIter (some q) es.length (sn.push e.born) es.length);pure (.tuple #[.bool true,e.key,e.val]):Sem Value).run P w1 = .ok (.tuple #[.bool true,e.key,e.val]) w' ∧ OpPost W0 φ h w k (.tuple #[.bool true,e.key,e.val]) w':=by
  intro j hj hm e he hall w1 w11 w12 w13 w14
  have hb:=g5 j e (by simpa using he)
  have hk:=hall.1
  obtain ⟨ej,hej⟩:∃ ej,es[j]? = some ej:=⟨es[j],List.getElem?_eq_getElem hj⟩
  simp only [hej] at hk
  obtain ⟨e',he',hr⟩:=EntsR_get g3 hej
  have:e' = e:=by rw [Array.getElem?_toList,he] at he';exact (Option.some.inj he').symm
  subst this
  have h2':w1.heap[p.b]? = some (.mapIter (some q) es.length sn es.length):=by rw [w14];exact h2
  refine ⟨{ w1 with heap:=w1.heap.setIfInBounds p.b (.mapIter (some q) es.length (sn.push e'.born) es.length) },by simp only [run_bind,run_setIter _ h2',run_pure],_,_,_,φ,hk,?_,?_,?_,fun _ _ h=>h⟩
  · exact ⟨_,rfl,_,_,rfl,rfl,_,_,rfl,(VR_flat φ _ _ hr.1).2 hr.2.1,_,_,rfl,hr.2.2,rfl⟩
  · have hlive:liveB h b = true:=by simp [liveB,hob,AObj.liveB]
    refine S.put hlive hp _ w11 w12 w13 (by simp [w14]) (fun n hn=>(setHeap_get hn).trans (by rw [w14])) ⟨h6,h0,q,_,setHeap_self h2',?_,h4⟩
    rw [Array.toList_push,hb]
  · have hlive:liveB h b = true:=by simp [liveB,hob,AObj.liveB]
    exact Ext.put hlive hp _ (by simp [w14]) (fun n hn=>(setHeap_get hn).trans (by rw [w14])) (fun hm=>by simp [movedB,hob,AObj.movedB] at hm)
 have hmem:∀ {e:MapEntry},e ∈ (ms.filter fun e=>!sn.contains e.born) → ∃ j,ms[j]? = some e ∧ j < es.length ∧ memB j sn.toList = false:=fun {e} he=>by
  obtain ⟨h7,h8⟩:=Array.mem_filter.1 he
  obtain ⟨j,hj⟩:=Array.getElem?_of_mem h7
  refine ⟨j,hj,by have:=(Array.getElem?_eq_some_iff.1 hj).1;omega,?_⟩
  rw [g5 j e (by simpa using hj),hcont] at h8
  simpa using h8
 split at hk
 · rename_i hun
   have hleft:ms.filter (fun e=>!sn.contains e.born) = #[]:=by
    rw [Array.filter_eq_empty_iff]
    intro e he
    obtain ⟨j,hj⟩:=Array.getElem?_of_mem he
    rw [g5 j e (by simpa using hj),hcont]
    have hlt:=(Array.getElem?_eq_some_iff.1 hj).1
    cases hm:memB j sn.toList with
    | true=>simp
    | false =>
     have:j ∈ unseen sn.toList es.length 0:=unseen_mem.2 ⟨Nat.zero_le _,by omega,hm⟩
     rw [hun] at this;cases this
   refine ⟨.tuple #[.bool false],w,?_,OpPost.quiet S hk ⟨_,rfl,_,_,rfl,rfl,rfl⟩⟩
   simp only [Instr.next,run_bind,run_getIter h2,run_getMap g2,hguard,Bool.false_eq_true,if_false,hleft]
   simp [choose,Sem.run,Question.forced]
 · rename_i i0 r0 hun
   have hleft:ms.filter (fun e=>!sn.contains e.born) ≠ #[]:=by
    intro he
    have h1:i0 ∈ unseen sn.toList es.length 0:=by rw [hun];simp
    obtain ⟨_,h3,h4⟩:=unseen_mem.1 h1
    have hlt:i0 < ms.size:=by omega
    rw [Array.filter_eq_empty_iff] at he
    have:=he (ms[i0]) (Array.getElem_mem _)
    rw [g5 i0 ms[i0] (by simp),hcont,h4] at this
    simp at this
   have hne:(ms.filter fun e=>!sn.contains e.born).isEmpty = false:=by
    rw [Array.isEmpty_eq_false_iff];exact hleft
   have hsz:0 < (ms.filter fun e=>!sn.contains e.born).size:=by
    rcases Nat.eq_zero_or_pos (ms.filter fun e=>!sn.contains e.born).size with e | e
    · exact absurd (Array.eq_empty_of_size_eq_zero e) hleft
    · exact e
   obtain ⟨L,hL⟩:∃ L,L = ms.filter fun e=>!sn.contains e.born:=⟨_,rfl⟩
   rw [← hL] at hne hsz hold hnew hmem
   have pick:∀ c,c < L.size → ∃ e,(L.map some)[c]? = some (some e) ∧ e ∈ L:=fun c hc=>⟨L[c],by simp [hc],Array.getElem_mem _⟩
   have go:∀ (c:Nat) (w1:World),c < L.size → w1.os = w.os → w1.tape = w.tape → w1.output = w.output → w1.heap = w.heap → (choose (.mapNext L.size)).run P w = .ok c w1 →
    ∃ v' w',(Instr.next (.pointer (some ⟨p.b,0,none⟩)) false ty).run P w = .ok v' w' ∧ OpPost W0 φ h w k v' w':=by
    intro c w1 hc a1 a2 a3 a4 hch
    obtain ⟨e,hpe,heL⟩:=pick c hc
    obtain ⟨j,hj,hjl,hjm⟩:=hmem heL
    have hall:allI (fun i=>match es[i]? with
     | some e=>k (.tuple #[.bool true,e.1,e.2]) (h.set b (.miter m es.length (sn.toList ++ [i]))) []
     | none=>False) [j]:=⟨allI_mem hk j (by rw [← hun];exact unseen_mem.2 ⟨Nat.zero_le _,by omega,hjm⟩),trivial⟩
    obtain ⟨w',s1,s2⟩:=step j hjl hjm e hj hall w1 a1 a2 a3 a4
    refine ⟨_,w',?_,s2⟩
    rw [← s1]
    simp only [Instr.next,run_bind,run_getIter h2,run_getMap g2,hguard,Bool.false_eq_true,if_false,← hL,hold,hnew,hne,Array.append_empty,Array.empty_append,Array.size_map,hch,hpe,run_pure]
   by_cases hf:L.size ≤ 1
   · exact go 0 w hsz rfl rfl rfl rfl (by simp [choose,Sem.run,Question.forced,hf])
   · refine go (w.tape w.drawn (.mapNext L.size) % L.size) { w with drawn:=w.drawn + 1 } (Nat.mod_lt _ hsz) rfl rfl rfl rfl ?_
     simp [choose,Sem.run,Question.forced,hf,Question.cut]

theorem entry_sound {W0:World} {φ:Phi} {h:AHeap} {w:World} (S:Sim W0 φ h w) {P:Program} {x x':Value} {k:Value → Prop} (hk:entryK h x k) (hx:VR φ x x') :
 ∃ v v',k v ∧ VR φ v v' ∧ (Instr.entry x').run P w = .ok v' w:=by
 obtain ⟨b,m,es,seen,p,q,ms,sn,hk,rfl,hp,h0,hob,h2,h3,h4,g2,g3,g5,h6⟩:=iterOf_spec S hk hx
 split at hk
 · rename_i i hi
   split at hk
   · rename_i e he
     obtain ⟨e',he',hr⟩:=EntsR_get g3 he
     refine ⟨_,.tuple #[e'.key,e'.val],hk,⟨_,rfl,_,_,rfl,(VR_flat φ _ _ hr.1).2 hr.2.1,_,_,rfl,hr.2.2,rfl⟩,?_⟩
     have hback:sn.back? = some i:=by rw [← hi,← h3,Array.getLast?_toList]
     have hfind:ms.find? (fun e=>e.born == i) = some e':=by
      rw [Array.find?_eq_some_iff_getElem]
      have hlt:=(List.getElem?_eq_some_iff.1 he').1
      have hge:=(List.getElem?_eq_some_iff.1 he').2
      simp only [Array.length_toList] at hlt
      refine ⟨by rw [g5 i e' he'];simp,i,hlt,by simpa using hge,fun j hj=>?_⟩
      have:(ms[j]'(by omega)).born = j:=g5 j _ (by simp)
      simp [this,Nat.ne_of_lt hj]
     simp only [Instr.entry,run_bind,run_getIter h2,hback,run_getMap g2]
     simp [hfind]
   · exact hk.elim
 · exact hk.elim

/-! ### bytes as a string,in place -/
theorem run_loadBytes {P:Program} {w:World} {b:Nat} {cs:Array Value} (hr:Row w b cs):∀ (l:List Value) (off:Nat) (acc:ByteArray),(∀ (j:Nat) (v:Value),l[j]? = some v → cs.toList[off + j]? = some v) → l.all (isInt .u8) = true →
 (loadBytes ⟨b,off,none⟩ acc l.length).run P w = .ok ⟨acc.data ++ (l.map fun v=>UInt8.ofNat (intOf v).toNat).toArray⟩ w
 | [],_,acc,_,_=>by simp [loadBytes]
 | v :: l,off,acc,h,hall=>by
  simp only [List.all_cons,Bool.and_eq_true] at hall
  have h0:=h 0 v rfl
  rw [Nat.add_zero] at h0
  have ih:=run_loadBytes (P:=P) hr l (off + 1) (acc.push (intOf v).toNat.toUInt8) (fun j y hy=>by
   have:=h (j + 1) y (by simpa using hy)
   rw [show off + 1 + j = off + (j + 1) from by omega];exact this) hall.2
  cases v <;> simp only [isInt,Bool.false_eq_true,false_and] at hall
  rename_i kd n
  obtain ⟨hk,_⟩:=hall
  simp only [decide_eq_true_eq] at hk
  subst hk
  simp only [List.length_cons,loadBytes,run_bind,run_load hr h0,add_none]
  simp only [intOf] at ih
  rw [ih]
  congr 1
  apply ByteArray.ext
  simp [ByteArray.push,intOf]

theorem unsafeStr_sound {W0:World} {φ:Phi} {h:AHeap} {w:World} (S:Sim W0 φ h w) {P:Program} {argTypes:Array TypeId} {ty:TypeId} {x x' n n':Value} {k:Value → AHeap → List Nat → Prop} (hk:unsafeStrK P argTypes x n h fun v h'=>k v h' [])
 (hx:VR φ x x') (hn:VR φ n n'):∃ v' w',(Builtin.unsafeString_ argTypes ty #[x',n']).run P w = .ok v' w' ∧ OpPost W0 φ h w k v' w':=by
 unfold unsafeStrK at hk
 split at hk
 · rename_i a m
   have e:n' = .int .i64 m:=by simpa [VR] using hn
   subst e
   split at hk
   · rename_i sp hsp
     split at hk
     · rename_i fl vs t mv hob
       split at hk
       · rename_i pt hpt
         split at hk
         · rename_i e hu
           obtain ⟨hc,hk2⟩:=cond_prop hk
           obtain ⟨hall,hk3⟩:=cond_prop hk2
           simp only [Bool.and_eq_true,decide_eq_true_eq] at hc
           obtain ⟨⟨⟨⟨c1,c2⟩,c3⟩,c4⟩,c5⟩:=hc
           have c1:=Nat.eq_of_beq_eq_true c1
           have c2:=Nat.eq_of_beq_eq_true c2
           subst c1
           have hx2:∃ p,φ[a.block]? = some p ∧ x' = .pointer (some ⟨p.b,p.sh + a.off,none⟩):=by
            simp only [VR,hsp] at hx;exact hx
           obtain ⟨p,hp,rfl⟩:=hx2
           obtain ⟨hbase,hfl,cs,fr,h4,h5,h6,pre,us,rest,h7,h9,h10,h8⟩:=S.blk _ _ p hob hp
           have hlu:=VRL_length h8
           have hsz:cs.size = pre.length + (us.length + rest.length):=by rw [← Array.length_toList,h7];simp
           obtain ⟨l,hl⟩:∃ l,l = cellsAt vs a.off m.toNat:=⟨_,rfl⟩
           have hll:l.length = m.toNat:=by rw [hl];simp [cellsAt];omega
           rw [← hl] at hall hk3
           have hcells:∀ (j:Nat) (v:Value),l[j]? = some v → cs.toList[p.sh + a.off + j]? = some v:=by
            intro j v hv
            have hj:j < l.length:=(List.getElem?_eq_some_iff.1 hv).1
            have hv2:vs[a.off + j]? = some v:=by
             rw [hl,cellsAt,List.getElem?_take] at hv
             split at hv
             · rw [List.getElem?_drop] at hv;exact hv
             · cases hv
            obtain ⟨v',h11,h12⟩:=VRL_get h8 hv2
            have hint:v' = v:=by
             have:=List.all_eq_true.1 hall v (List.mem_of_getElem? hv)
             cases v <;> simp only [isInt,Bool.false_eq_true] at this
             simpa [VR] using h12
            rw [h7,← h9,List.getElem?_append_right (by omega),List.getElem?_append_left (by omega),show pre.length + a.off + j - pre.length = a.off + j from by omega,h11,hint]
           have hload:=run_loadBytes (P:=P) ⟨_,_,h4⟩ l (p.sh + a.off) .empty hcells hall
           rw [hll] at hload
           have hlies:liesAt P P.depth e (cs.size / P.cellsOf e) (p.sh + a.off) e m.toNat = true:=by
            have hd:P.depth = (2 * (P.types.size + Made.depth) + 1) + 1:=rfl
            rw [hd]
            simp only [liesAt,Bool.or_eq_true]
            left
            rw [hd]
            have:p.sh + a.off + m.toNat ≤ cs.size:=by omega
            simp [rowAt,c2,sameLayout,this,Nat.mod_one]
           have hneg:¬ m < 0:=by omega
           have hmax:¬ m > IntKind.i64.max:=by show ¬ m > 9223372036854775807;omega
           have hm0:¬ m = 0:=by omega
           refine ⟨_,w.freeze ⟨p.b,p.sh + a.off,none⟩ m.toNat,?_,_,_,_,φ,hk3,rfl,?_,?_,fun _ _ h=>h⟩
           · have hsh:w.shape? p.b = some (e,cs.size):=by simp [World.shape?,h4]
             have h1:(variablesAt ⟨p.b,p.sh + a.off,none⟩ e m.toNat).run P w = .ok true w:=by
              simp only [variablesAt,run_bind,run_program,shape,Sem.run,hsh,hlies];rfl
             have h2:(elemOf pt).run P w = .ok e w:=by
              simp only [elemOf,run_bind,run_underlying hu,run_pure]
             have h3:(freeze ⟨p.b,p.sh + a.off,none⟩ m.toNat).run P w = .ok () (w.freeze ⟨p.b,p.sh + a.off,none⟩ m.toNat):=rfl
             have h4:(asInt (.int .i64 m)).run P w = .ok m w:=by simp [asInt,asIntOf]
             show (do
              let n ← asInt (.int .i64 m)
              let some pt:=argTypes[0]? | stuck "unsafe.String: no argument types"
              if n < 0 then runtimePanic (.error "unsafe.String: len out of range")
              if n > IntKind.i64.max then unsupported (.unsafePointer "String: a length above the largest int")
              if n = 0 then pure (.string .empty)
              else if ← variablesAt ⟨p.b,p.sh + a.off,none⟩ (← elemOf pt) n.toNat then do
               let s ← loadBytes ⟨p.b,p.sh + a.off,none⟩ .empty n.toNat
               freeze ⟨p.b,p.sh + a.off,none⟩ n.toNat
               pure (.string s)
              else unsupported (.unsafePointer "String: not so many bytes at ptr"):Sem Value).run P w = .ok (.string (bytesOf l)) _
             simp only [run_bind,h4,hpt,hneg,hmax,hm0,if_false,run_pure,h2,h1,if_true,hload,h3]
             simp [bytesOf,ByteArray.empty,ByteArray.emptyWithCapacity]
             rfl
           · have hlive:liveB h a.block = true:=by simp [liveB,hob,AObj.liveB]
             have hfz:∀ nn,nn ≠ p.b → (w.freeze ⟨p.b,p.sh + a.off,none⟩ m.toNat).heap[nn]? = w.heap[nn]?:=fun nn hne=>by
              unfold World.freeze
              split
              · rfl
              · simp only [Array.getElem?_modify];rw [if_neg (Ne.symm hne)]
             have hf:(w.freeze ⟨p.b,p.sh + a.off,none⟩ m.toNat).os = w.os ∧ (w.freeze ⟨p.b,p.sh + a.off,none⟩ m.toNat).tape = w.tape ∧ (w.freeze ⟨p.b,p.sh + a.off,none⟩ m.toNat).output = w.output ∧ (w.freeze ⟨p.b,p.sh + a.off,none⟩ m.toNat).heap.size = w.heap.size:=by
              unfold World.freeze
              split
              · exact ⟨rfl,rfl,rfl,rfl⟩
              · exact ⟨rfl,rfl,rfl,by simp⟩
             exact S.put hlive hp .dead hf.1 hf.2.1 hf.2.2.1 hf.2.2.2 hfz trivial
           · have hlive:liveB h a.block = true:=by simp [liveB,hob,AObj.liveB]
             have hfz:∀ nn,nn ≠ p.b → (w.freeze ⟨p.b,p.sh + a.off,none⟩ m.toNat).heap[nn]? = w.heap[nn]?:=fun nn hne=>by
              unfold World.freeze
              split
              · rfl
              · simp only [Array.getElem?_modify];rw [if_neg (Ne.symm hne)]
             exact Ext.put hlive hp .dead (by unfold World.freeze;split <;> simp) hfz (fun _=>rfl)
         · exact hk.elim
       · exact hk.elim
     · exact hk.elim
   · exact hk.elim
 · exact hk.elim
end Go.Am

namespace Go.Am
open Go

theorem pureRun_bind {P:Program} {α β:Type} (s:Sem α) (f:α → Sem β):pureRun P (s >>= f) = (pureRun P s).bind fun a=>pureRun P (f a):=by
 show pureRun P (s.bind f) = _
 induction s with
 | pure a=>rfl
 | program k ih=>simp only [Sem.bind,pureRun];exact ih _
 | mark m k ih=>simp only [Sem.bind,pureRun];exact ih
 | _=>rfl
theorem pureRun_pure {P:Program} {α:Type} (a:α):pureRun P (pure a:Sem α) = some a:=rfl

theorem allFlat_spec {N:Nat} {φ:Phi} {e:Env} {a:Act} (E:EnvR N φ e a):∀ {l:List Operand},allFlat e l = true → ∀ x ∈ l,a.eval x = rho e x
 | [],_,x,hx=>by cases hx
 | y :: r,h,x,hx=>by
  simp only [allFlat] at h
  split at h
  · rename_i v hv
    simp only [Bool.and_eq_true] at h
    rcases List.mem_cons.1 hx with rfl | hx
    · rw [rho,hv];exact (VR_flat φ v _ h.1).1 (ev_sound E hv)
    · exact allFlat_spec E h.2 x hx
  · cases h

theorem pure_sound {N:Nat} {φ:Phi} {e:Env} {a:Act} {P:Program} {o:Oper} (E:EnvR N φ e a) (hs:∀ cs b,o.op ≠ .select cs b) {k:Value → Prop} (hk:pureK P o e k) :
 ∃ v,k v ∧ flat v = true ∧ ∀ w:World,(execOp a.eval o).run P w = .ok (.value v) w:=by
 unfold pureK at hk
 obtain ⟨hf,hk⟩:=cond_prop hk
 split at hk
 · rename_i v hv
   obtain ⟨hfl,hk⟩:=cond_prop hk
   refine ⟨v,hk,hfl,fun w=>?_⟩
   rw [execOp_congr o hs (fun x hx=>allFlat_spec E hf x (by simpa using hx))]
   exact pureRun_run hv w
 · exact hk.elim

/-! ### literals -/
def PR (φ:Phi):List (Nat × Value) → List (Nat × Value) → Prop
 | [],l=>l = []
 | p :: r,l=>∃ v' r',l = (p.1,v') :: r' ∧ VR φ p.2 v' ∧ PR φ r r'

theorem evP_sound {N:Nat} {φ:Phi} {e:Env} {a:Act} (E:EnvR N φ e a):∀ {l:List (Nat × Operand)} {ps:List (Nat × Value)},evP e l = some ps → PR φ ps (l.map fun p=>(p.1,a.eval p.2))
 | [],_,h=>by simp only [evP] at h;cases h;rfl
 | (i,x) :: r,ps,h=>by
  simp only [evP] at h
  split at h
  · split at h
    · cases h;exact ⟨_,_,rfl,ev_sound E ‹_›,evP_sound E ‹_›⟩
    · cases h
  · cases h

theorem foldl_setCells (off:Nat):∀ (l:List Value) (s:Nat) (cs:Array Value),((l.zipIdx s).foldl (fun cs (p:Value × Nat)=>cs.setIfInBounds (off + p.2) p.1) cs).toList = setCells cs.toList (off + s) l
 | [],_,_=>rfl
 | x :: r,s,cs=>by
  rw [List.zipIdx_cons,List.foldl_cons,foldl_setCells off r (s + 1),Array.toList_setIfInBounds,setCells]
  rfl
theorem fill_step (off:Nat) (v cs:Array Value):(v.zipIdx.foldl (fun cs (p:Value × Nat)=>cs.setIfInBounds (off + p.2) p.1) cs).toList = setCells cs.toList off v.toList:=by
 have:=foldl_setCells off v.toList 0 cs
 rw [Nat.add_zero] at this
 rw [← this,← Array.foldl_toList,Array.toList_zipIdx]

theorem fill_sound {φ:Phi} (place:Nat → Option (Nat × Nat)):∀ {ps ps':List (Nat × Value)} {cs cs' r:Array Value},onePs ps = true → PR φ ps ps' → VRL φ cs.toList cs'.toList → Instr.fill place cs ps = some r →
 ∃ r',Instr.fill place cs' ps' = some r' ∧ VRL φ r.toList r'.toList
 | [],_,cs,cs',r,_,hp,hc,h=>by
  simp only [PR] at hp;subst hp
  simp only [Instr.fill] at h;cases h
  exact ⟨cs',rfl,hc⟩
 | (i,v) :: rest,_,cs,cs',r,ho,hp,hc,h=>by
  obtain ⟨v',r',rfl,h1,h2⟩:=hp
  simp only [onePs,Bool.and_eq_true] at ho
  simp only [Instr.fill] at h
  split at h
  · cases h
  · rename_i off size hpl
    split at h
    · cases h
    · rename_i hsz
      have hcv:=VR_cells ho.1 h1
      have hl:=VRL_length hcv
      have hlc:=VRL_length hc
      simp only [Array.length_toList] at hl hlc
      have e:=fill_step off v.cells cs
      have e':=fill_step off v'.cells cs'
      obtain ⟨q,a1,a2⟩:=fill_sound place (cs':=v'.cells.zipIdx.foldl (fun cs (p:Value × Nat)=>cs.setIfInBounds (off + p.2) p.1) cs') ho.2 h2 (by rw [e,e'];exact VRL_setCells off hcv hc) h
      refine ⟨q,?_,a2⟩
      simp only [Instr.fill,hpl]
      rw [if_neg (by rw [hl,hlc];exact hsz)]
      exact a1

theorem fill_size (place:Nat → Option (Nat × Nat)):∀ {ps:List (Nat × Value)} {cs r:Array Value},Instr.fill place cs ps = some r → r.size = cs.size
 | [],cs,r,h=>by simp only [Instr.fill] at h;cases h;rfl
 | (i,v) :: rest,cs,r,h=>by
  simp only [Instr.fill] at h
  split at h
  · cases h
  · rename_i off size hpl
    split at h
    · cases h
    · rw [fill_size place h,← Array.length_toList,fill_step,setCells_length,Array.length_toList]

theorem zeroFlat_spec {P:Program} {t:TypeId} (h:zeroFlat P t = true):∃ i z,P.info? t = some i ∧ i.zero = some z ∧ flatL z.cells.toList = true:=by
 unfold zeroFlat at h
 split at h
 · rename_i i hi
   split at h
   · rename_i z hz;exact ⟨i,z,hi,hz,flatA_toList h⟩
   · cases h
 · cases h

theorem pureRun_underlying {P:Program} {t:TypeId} {d:TypeDesc} (h:P.underlying t = some d):pureRun P (underlying t) = some d:=by
 simp only [underlying,pureRun_bind,program,pureRun,Option.bind_some,h];rfl
theorem pureRun_zeroValue {P:Program} {t:TypeId} {i:TypeInfo} {z:Value} (h:P.info? t = some i) (hz:i.zero = some z):pureRun P (zeroValue t) = some z:=by
 simp only [zeroValue,typeInfo,pureRun_bind,program,pureRun,Option.bind_some,h,pureRun_pure,hz]

theorem build_sound {φ:Phi} {P:Program} {t:TypeId} {ps ps':List (Nat × Value)} {v:Value} (hz:zeroFlat P t = true) (ho:onePs ps = true) (hp:PR φ ps ps') (hv:pureRun P (Instr.build t ps.toArray) = some v) (w:World) :
 ∃ v',(Instr.build t ps'.toArray).run P w = .ok v' w ∧ VR φ v v':=by
 obtain ⟨i,z,hi,hzz,hfl⟩:=zeroFlat_spec hz
 unfold Instr.build at hv ⊢
 simp only [pureRun_bind,pureRun_zeroValue hi hzz,Option.bind_some] at hv
 cases hu:P.underlying t with
 | none=>simp only [underlying,pureRun_bind,program,pureRun,Option.bind_some,hu,stuck] at hv;cases hv
 | some d =>
  simp only [pureRun_underlying hu,Option.bind_some] at hv
  simp only [run_bind,run_zeroValue hi hzz,run_underlying hu]
  cases d <;> simp only at hv ⊢ <;> try (simp only [stuck,pureRun] at hv;cases hv)
  case struct fields =>
   simp only [pureRun_bind] at hv
   cases hm:pureRun P (fields.mapM fun f=>do pure (f.offset,← sizeOf f.type)) with
   | none=>rw [hm] at hv;cases hv
   | some places =>
    rw [hm] at hv
    simp only [Option.bind_some] at hv
    split at hv
    · rename_i cells hc
      simp only [pureRun_pure] at hv;cases hv
      obtain ⟨r',a1,a2⟩:=fill_sound (φ:=φ) _ ho hp (VRL_flatL hfl) (by simpa using hc)
      refine ⟨.agg r',?_,r',rfl,by cases cells;exact a2⟩
      simp only [run_bind,pureRun_run hm w]
      rw [a1]
      rfl
    · simp only [stuck,pureRun] at hv;cases hv
  case array n elem =>
   simp only [pureRun_bind] at hv
   cases hm:pureRun P (sizeOf elem) with
   | none=>rw [hm] at hv;cases hv
   | some size =>
    rw [hm] at hv
    simp only [Option.bind_some] at hv
    split at hv
    · rename_i cells hc
      simp only [pureRun_pure] at hv;cases hv
      obtain ⟨r',a1,a2⟩:=fill_sound (φ:=φ) _ ho hp (VRL_flatL hfl) (by simpa using hc)
      refine ⟨.agg r',?_,r',rfl,by cases cells;exact a2⟩
      simp only [run_bind,pureRun_run hm w]
      rw [a1]
      rfl
    · simp only [stuck,pureRun] at hv;cases hv

/-! ### calls -/
def SoundCall (W0:World) (P:Program) (f:FuncId) (args:List Value) (h:AHeap) (K:Value → AHeap → Prop):Prop :=
 ∀ (φ:Phi) (w:World) (args':Array Value),Sim W0 φ h w → VRL φ args args'.toList →
  Calls P f args' w fun e w'=>∃ v' u h' φ',e = .returned v' ∧ K u h' ∧ VR φ' u v' ∧ Sim W0 φ' h' w' ∧ Ext φ h w φ' h' w'

/-- Of a call that may panic. -/
def SoundCallP (W0:World) (P:Program) (f:FuncId) (args:List Value) (h:AHeap) (K:AEnd → AHeap → Prop):Prop :=
 ∀ (φ:Phi) (w:World) (args':Array Value),Sim W0 φ h w → VRL φ args args'.toList →
  Calls P f args' w fun e w'=>(∃ v' u h' φ',e = .returned v' ∧ K (.ret u) h' ∧ VR φ' u v' ∧ Sim W0 φ' h' w' ∧ Ext φ h w φ' h' w') ∨
   (∃ v' u h' φ',e = .panicked [{ v:=v',recovered:=false }] ∧ K (.pan u) h' ∧ VR φ' u v' ∧ Sim W0 φ' h' w' ∧ Ext φ h w φ' h' w')
def SoundC (c:Cfg) (W0:World):Prop:=∀ W1,(W1 = W0 ∨ GOk c.G W1) → (∀ f args h K,c.C f args h K → SoundCall W1 c.P f args h K) ∧ ∀ f s,c.PC f = some s → ∀ args h K,s args h K → SoundCallP W1 c.P f args h K

theorem call_sound {W0:World} {c:Cfg} (hC:SoundC c W0) {φ:Phi} {h:AHeap} {w:World} (S:Sim W0 φ h w) {f:FuncId} {args:List Value} {args':Array Value} {k:Value → AHeap → List Nat → Prop} (hk:callK c f args h k)
 (ha:VRL φ args args'.toList):Calls c.P f args' w fun e w'=>∃ v',e = .returned v' ∧ OpPost W0 φ h w k v' w':=by
 unfold callK at hk
 rw [frI_eq] at hk
 unfold callK' at hk
 obtain ⟨hc,hk⟩:=cond_prop hk
 rw [frH_eq] at hk
 simp only [Bool.and_eq_true] at hc
 refine ((hC _ (.inl rfl)).1 _ _ _ _ hk _ w args' (S.pull true hc.1) (VRL_pull hc.2 ha)).mono ?_
 rintro e w' ⟨v',u,h1,φ1,rfl,hK,hv,S1,E1⟩
 rw [frH_eq] at hK
 obtain ⟨m1,m2,m3,m4⟩:=merge S hc.1 S1 E1
 exact ⟨v',rfl,_,_,_,_,hK,m3 u v' hv,m1,m2,m4⟩

/-- A call that only reads. -/
theorem Sim.after {W0:World} {φ:Phi} {h:AHeap} {w w':World} (S:Sim W0 φ h w) (hos:w'.os = w.os) (ht:w'.tape = w.tape) (hout:w'.output = w.output) (hsz:w.heap.size ≤ w'.heap.size) (hold:∀ n,n < w.heap.size → w'.heap[n]? = w.heap[n]?):Sim W0 φ h w':=by
 refine ⟨hos.trans S.os,ht.trans S.tape,hout.trans S.out,Nat.le_trans S.size hsz,fun n hn=>?_,S.len,fun i o p ho hp=>?_,S.inj⟩
 · rw [hold n (Nat.lt_of_lt_of_le hn S.size)];exact S.old n hn
 · have hb:=S.blk i o p ho hp
   cases o with
   | dead=>trivial
   | keep=>exact hb.congr (hold _ hb)
   | ro=>exact hb.congr (hold _ (Nat.lt_of_lt_of_le hb.1 S.size))
   | cells=>exact hb.congr (hold _ (hb.there rfl))
   | map=>exact hb.congr (hold _ (hb.there rfl))
   | siter=>exact hb.congr (hold _ (hb.there rfl))
   | miter=>exact hb.congr (hold _ (hb.there rfl))
theorem Sim.toRo {W0:World} {φ:Phi} {h:AHeap} {w:World} (S:Sim W0 φ h w):Sim w φ (h.map toRo) w:=by
 refine ⟨rfl,rfl,rfl,Nat.le_refl _,fun _ _=>rfl,by simp [S.len],fun i o p ho hp=>?_,fun i j p q h1=>?_⟩
 · rw [List.getElem?_map] at ho
   cases hh:h[i]? with
   | none=>rw [hh] at ho;cases ho
   | some o' =>
    rw [hh] at ho;cases ho
    have hb:=S.blk i o' p hh hp
    cases o' with
    | dead=>trivial
    | keep=>exact hb
    | map=>exact hb.there rfl
    | siter=>exact hb.there rfl
    | miter=>exact hb.there rfl
    | ro vs t=>exact ⟨Nat.lt_of_lt_of_le hb.1 S.size,hb.2⟩
    | cells fl vs t mv =>
     show BlkOk w φ p (cond (flatL vs) (.ro vs t) .keep) w
     cases hf:flatL vs with
     | false=>exact hb.there rfl
     | true =>
      have hlt:=hb.there rfl
      obtain ⟨h1,h3,cs,fr,h4,h5,h6,pre,us,rest,h7,h9,h10,h8⟩:=hb
      have e:=(VRL_flat φ vs us hf).1 h8
      subst e
      exact ⟨hlt,hf,h10,cs,fr,h4,h5,pre,rest,h7,h9⟩
 · obtain ⟨o,h2,h3⟩:=liveB_some h1
   rw [List.getElem?_map] at h2
   cases hh:h[i]? with
   | none=>rw [hh] at h2;cases h2
   | some o' =>
    rw [hh] at h2;cases h2
    cases o' with
    | cells fl vs t mv =>
     have h3:(cond (flatL vs) (AObj.ro vs t) .keep).liveB = true:=h3
     cases hf:flatL vs <;> rw [hf] at h3 <;> cases h3
    | _=>cases h3
theorem callRo_sound {W0:World} {c:Cfg} (hG:GOk c.G W0) (hC:SoundC c W0) {φ:Phi} {h:AHeap} {w:World} (S:Sim W0 φ h w) {f:FuncId} {args:List Value} {args':Array Value} {k:Value → AHeap → List Nat → Prop} (hk:callRoK c f args h k)
 (ha:VRL φ args args'.toList):Calls c.P f args' w fun e w'=>∃ v',e = .returned v' ∧ ∃ v,k v h [] ∧ VR φ v v' ∧ Sim W0 φ h w' ∧ w.heap.size ≤ w'.heap.size ∧ ∀ n,n < w.heap.size → w'.heap[n]? = w.heap[n]?:=by
 unfold callRoK at hk
 rw [frI_eq] at hk
 unfold callRoK' at hk
 obtain ⟨hc,hk⟩:=cond_prop hk
 rw [frH_eq] at hk
 simp only [Bool.and_eq_true] at hc
 have hGw:GOk c.G w:=fun g vs hg=>by
  obtain ⟨h1,h2,cs,t,fr,rest,h3,h4⟩:=hG g vs hg
  exact ⟨h1,Nat.lt_of_lt_of_le h2 S.size,cs,t,fr,rest,by rw [S.old g h2];exact h3,h4⟩
 refine ((hC w (.inr hGw)).1 _ _ _ _ hk _ w args' (S.pull true hc.1).toRo (VRL_pull hc.2 ha)).mono ?_
 rintro e w' ⟨v',u,h1,φ1,rfl,hK,hv,S1,E1⟩
 obtain ⟨hf,hK⟩:=cond_prop hK
 have:=(VR_flat φ1 _ _ hf).1 hv
 subst this
 exact ⟨_,rfl,_,hK,(VR_flat φ _ _ hf).2 rfl,S.after S1.os S1.tape S1.out S1.size S1.old,S1.size,S1.old⟩
theorem Ext.after {φ:Phi} {h:AHeap} {w w':World} (hsz:w.heap.size ≤ w'.heap.size) (hold:∀ n,n < w.heap.size → w'.heap[n]? = w.heap[n]?):Ext φ h w φ h w' where
 len:=Nat.le_refl _
 size:=hsz
 place _ _:=.inl rfl
 moved _ _ h:=h
 fresh i p h1 h2:=.inr ⟨i,p,h1,h2,rfl⟩
 rest n hn _:=hold n hn

theorem entersB_run {P:Program} {f:FuncId} (h:entersB P f = true) (args:Array Value) (w:World):(callFunc f args).run P w = .ok (.enter f args) w:=by
 unfold entersB at h
 split at h
 · rename_i fn hf
   simp only [Bool.and_eq_true,Bool.not_eq_true'] at h
   obtain ⟨h1,h2⟩:=h
   have h3:fn.body.isNone = false:=by cases hb:fn.body <;> simp_all
   simp only [callFunc,run_bind,run_program,hf,h2,h3,Bool.false_eq_true,if_false,run_pure]
 · cases h

theorem evO_sound {N:Nat} {φ:Phi} {e:Env} {a:Act} (E:EnvR N φ e a) {x:Option Operand} {v:Option Value} (h:evO e x = some v):OR φ v (x.map a.eval):=by
 cases x with
 | none=>simp only [evO] at h;cases h;rfl
 | some x =>
  simp only [evO] at h
  split at h
  · cases h;exact ⟨_,rfl,ev_sound E ‹_›⟩
  · cases h

theorem evK_spec {e:Env} {x:Operand} {k:Value → Prop} (h:evK e x k):∃ v,ev e x = some v ∧ k v:=by
 unfold evK at h
 split at h
 · exact ⟨_,‹_›,h⟩
 · exact h.elim

theorem len_sound {φ:Phi} {P:Program} {argTypes:Array TypeId} {t ty:TypeId} {x x':Value} {k:Value → Prop} {other:Prop} (h0:argTypes[0]? = some t) (hk:lenK P t x k other) (hx:VR φ x x') (w:World) :
 other ∨ ∃ v,k v ∧ flat v = true ∧ (Builtin.len_ argTypes ty #[x']).run P w = .ok v w:=by
 unfold lenK at hk
 split at hk
 · rename_i a n c
   split at hk
   · rename_i el hu
     right
     obtain ⟨a',c',rfl⟩:∃ a' c',x' = .slice a' n c':=by
      cases hs:a.spot with
      | none=>exact ⟨_,_,VR_slice_none hs hx⟩
      | some s=>obtain ⟨p,c',o',_,e,_⟩:=VR_slice_some hs hx;exact ⟨_,_,e⟩
     exact ⟨_,hk,rfl,by simp [Builtin.len_,h0,run_underlying hu,goInt]⟩
   · exact hk.elim
 · rename_i n c
   split at hk
   · rename_i el hu
     right
     have e:x' = .slice none n c:=by simpa [VR] using hx
     subst e
     exact ⟨_,hk,rfl,by simp [Builtin.len_,h0,run_underlying hu,goInt]⟩
   · exact hk.elim
 · exact .inl hk

theorem run_resolve_builtin {P:Program} (ρ:Operand → Value) (b:Builtin) (args:Array Operand) (argTypes:Array TypeId) (ty:TypeId) (w:World) :
 (do let d ← resolve ρ { callee:=.builtin b,args:=args,argTypes:=argTypes } ty;invoke d.target d.args:Sem Next).run P w = (builtin b argTypes ty (args.map fun | .const _=>true | _=>false) (args.map ρ)).run P w:=by
 simp only [resolve,run_bind,run_pure,invoke]
 rfl

theorem sliceData_sound {φ:Phi} {P:Program} {argTypes:Array TypeId} {ty:TypeId} {x x':Value} {k:Value → Prop} (hk:sliceDataK x k) (hx:VR φ x x') :
 ∃ v v',k v ∧ VR φ v v' ∧ ∀ w:World,(Builtin.unsafeSliceData_ argTypes ty #[x']).run P w = .ok v' w:=by
 unfold sliceDataK at hk
 split at hk
 · rename_i a n cc
   split at hk
   · rename_i s hs
     obtain ⟨hn,hk⟩:=cond_prop hk
     have hn:0 < n:=of_decide_eq_true hn
     obtain ⟨p,c',o',hp,rfl,h1,h2,_⟩:=VR_slice_some hs hx
     obtain ⟨e1,_⟩:=h2 (by omega)
     refine ⟨_,.pointer (some ⟨p.b,o',none⟩),hk,?_,fun w=>?_⟩
     · simp only [VR,hs];exact ⟨p,hp,by rw [e1]⟩
     · obtain ⟨k,rfl⟩:∃ k,c' = k + 1:=⟨c' - 1,by omega⟩
       rfl
   · exact hk.elim
 · exact hk.elim

/-- Every operation. -/
theorem exec_sound {W0:World} {c:Cfg} (hG:GOk c.G W0) (hC:SoundC c W0) {N:Nat} {φ:Phi} {e:Env} {h:AHeap} {a:Act} {w:World} (E:EnvR N φ e a) (S:Sim W0 φ h w) {o:Oper} {k:Value → AHeap → List Nat → Prop}
 (hk:execK c o e h k):Does c.P o a w (OpPost W0 φ h w k):=by
 obtain ⟨dst,op,ty,pos,after,guard⟩:=o
 have quiet:∀ {v v':Value},k v h [] → VR φ v v' → (execOp a.eval ⟨dst,op,ty,pos,after,guard⟩).run c.P w = .ok (.value v') w → Does c.P ⟨dst,op,ty,pos,after,guard⟩ a w (OpPost W0 φ h w k) :=
  fun h1 h2 h3=>.value h3 (.quiet S h1 h2)
 have pr:(∀ cs b,op ≠ .select cs b) → (pureK c.P ⟨dst,op,ty,pos,after,guard⟩ e fun v=>k v h []) → Does c.P ⟨dst,op,ty,pos,after,guard⟩ a w (OpPost W0 φ h w k):=fun hs hp=>by
  obtain ⟨v,h1,h2,h3⟩:=pure_sound E hs hp
  exact quiet h1 ((VR_flat φ _ _ h2).2 rfl) (h3 w)
 cases op <;> simp only [execK] at hk <;> try exact hk.elim
 case move x =>
  obtain ⟨v,h1,h2⟩:=evK_spec hk
  exact quiet h2 (ev_sound E h1) rfl
 case assign x =>
  obtain ⟨v,h1,h2⟩:=evK_spec hk
  exact quiet h2 (ev_sound E h1) rfl
 case pick x y z =>
  obtain ⟨v,h1,h2⟩:=evK_spec hk
  have hx:=ev_sound E h1
  split at h2
  · rename_i t
    have e1:a.eval x = .bool t:=by simpa [VR] using hx
    cases t with
    | true =>
     obtain ⟨u,h3,h4⟩:=evK_spec h2
     exact quiet h4 (ev_sound E h3) (by simp only [execOp,run_bind,e1,asBool,run_pure,if_true])
    | false =>
     obtain ⟨u,h3,h4⟩:=evK_spec h2
     exact quiet h4 (ev_sound E h3) (by simp only [execOp,run_bind,e1,asBool,run_pure,Bool.false_eq_true,if_false])
  · exact h2.elim
 case alloc t =>
  split at hk
  · rename_i i hi
    split at hk
    · rename_i z hz
      obtain ⟨ho,hk⟩:=cond_prop hk
      simp only [Bool.and_eq_true] at ho
      exact .value (run_v (run_alloc hi hz w)) (post_alloc S (VRL_one (φ:=[]) ho.1 (VRL_flatL ho.2)) (VRL_flatL ho.2) hk)
    · exact hk.elim
  · exact hk.elim
 case box t x =>
  obtain ⟨v,h1,h2⟩:=evK_spec hk
  obtain ⟨ho,hk⟩:=cond_prop h2
  have hv:=VR_cells ho (ev_sound E h1)
  exact .value (v:=.pointer (some ⟨w.heap.size,0,none⟩)) (w':={ w with heap:=w.heap.push (.cells (a.eval x).cells t) })
   (run_v (by simp only [Instr.box,newVar,run_bind,run_newRow,run_pure])) (post_alloc S (VRL_one ho hv) hv hk)
 case build t parts =>
  split at hk
  · rename_i ps hps
    obtain ⟨hc,hk⟩:=cond_prop hk
    simp only [Bool.and_eq_true] at hc
    split at hk
    · rename_i v hv
      obtain ⟨v',a1,a2⟩:=build_sound hc.1 hc.2 (evP_sound E hps) hv w
      refine quiet hk a2 (run_v ?_)
      have:(parts.map fun (i,x)=>(i,a.eval x)) = (parts.toList.map fun p=>(p.1,a.eval p.2)).toArray:=by
       apply Array.toList_inj.1;simp
      rw [this];exact a1
    · exact hk.elim
  · exact hk.elim
 case buildSlice t n parts =>
  split at hk
  · rename_i ps hps
    split at hk
    · rename_i el hu
      split at hk
      · rename_i i hi
        split at hk
        · rename_i z hz
          obtain ⟨hc,hk⟩:=cond_prop hk
          simp only [Bool.and_eq_true,decide_eq_true_eq] at hc
          obtain ⟨⟨⟨c1,c2⟩,c3⟩,c4⟩:=hc
          have c3:=Nat.eq_of_beq_eq_true c3
          split at hk
          · rename_i cs hcs
            obtain ⟨ho,hk⟩:=cond_prop hk
            have hzf:=flatA_toList c2
            have hz0:VRL φ (cond (Nat.beq (n * i.size) 0) #[] ((Array.range (n * i.size)).map (z.cells[· % z.cells.size]!))).toList (cond (Nat.beq (n * i.size) 0) #[] ((Array.range (n * i.size)).map (z.cells[· % z.cells.size]!))).toList:=by
             refine VRL_flatL (flatL_mem.2 fun v hv=>?_)
             cases hb:Nat.beq (n * i.size) 0 with
             | true=>rw [hb] at hv;simp at hv
             | false =>
              rw [hb] at hv
              simp only [cond_false,Array.toList_map,List.mem_map,Array.mem_toList_iff,Array.mem_range] at hv
              obtain ⟨j,hj,rfl⟩:=hv
              rcases Nat.eq_zero_or_pos z.cells.size with h0 | h0
              · rw [c3,h0,Nat.mul_zero] at hj;omega
              · exact getElem!_flat hzf h0 j
            obtain ⟨r',a1,a2⟩:=fill_sound (φ:=φ) _ c4 (evP_sound E hps) hz0 hcs
            obtain ⟨b1,b2,b3⟩:=push_cells S (fl:=flatL cs.toList) (t:=el) (cs:=r') (us:=r'.toList) (rest:=[]) (fr:=(0,0)) (w':={ w with heap:=w.heap.push (.cells r' el) }) (List.append_nil _).symm (VRL_one ho a2) a2 id (fun j _ h=>by omega) rfl rfl rfl rfl
            have hmap:(parts.map fun (i,x)=>(i,a.eval x)) = (parts.toList.map fun p=>(p.1,a.eval p.2)).toArray:=by
             apply Array.toList_inj.1;simp
            have hsz:r'.size = n * i.size:=by
             rw [fill_size _ a1]
             cases hb:Nat.beq (n * i.size) 0 with
             | true=>rw [Nat.eq_of_beq_eq_true hb];rfl
             | false=>simp
            refine .value (v:=.slice (some ⟨w.heap.size,0,none⟩) n n) (w':={ w with heap:=w.heap.push (.cells r' el) }) (run_v ?_) ⟨_,_,_,_,hk,?_,b1,b2,fun u u' hu=>VR_mono (push_mono φ _) u u' hu⟩
            · rw [hmap]
              have hlim:¬ (n * i.size > 2 ^ 24):=by omega
              simp only [Instr.buildSlice,run_bind,run_underlying hu,run_sizeOf hi,if_neg hlim]
              cases hb:Nat.beq (n * i.size) 0 with
              | true =>
               have hn:=Nat.eq_of_beq_eq_true hb
               rw [hb] at a1
               simp only [cond_true] at a1
               have he:(Array.range (n * i.size)).map ((#[]:Array Value)[· % (#[]:Array Value).size]!) = #[]:=by rw [hn];apply Array.toList_inj.1;simp
               simp only [hn,if_true,run_bind,run_pure]
               rw [hn] at he
               rw [he,a1]
               simp only [run_bind,run_newRow,run_pure]
              | false =>
               have hn:¬ (n * i.size = 0):=fun e=>by rw [e] at hb;cases hb
               rw [hb] at a1
               simp only [cond_false] at a1
               simp only [hn,if_false,run_bind,run_zeroValue hi hz,run_pure]
               rw [a1]
               simp only [run_bind,run_newRow,run_pure]
            · simp only [newAddr,VR]
              exact ⟨_,n,0,b3,rfl,Nat.le_refl _,fun _=>⟨rfl,by rw [show (2 * i.size + 1) / 2 = i.size from by omega,hsz];simp⟩,fun _=>rfl⟩
          · exact hk.elim
        · exact hk.elim
      · exact hk.elim
    · exact hk.elim
  · exact hk.elim
 case load t x =>
  obtain ⟨v,h1,h2⟩:=evK_spec hk
  obtain ⟨u,u',b,a1,a2,_,a3⟩:=load_sound S hG h2 (ev_sound E h1)
  exact quiet a1 a2 (run_v (a3 w rfl))
 case store t x y =>
  obtain ⟨ad,h1,h2⟩:=evK_spec hk
  obtain ⟨v,h3,h4⟩:=evK_spec h2
  obtain ⟨ho,h5⟩:=cond_prop h4
  obtain ⟨h',w',a1,a2,a3,a4⟩:=store_sound S ho h5 (ev_sound E h1) (ev_sound E h3)
  exact ⟨.skip,w',by simp only [execOp,run_bind,a4,run_pure],_,_,_,φ,a1,(VR_flat φ _ _ rfl).2 rfl,a2,a3,fun _ _ h=>h⟩
 case nilCheck x =>
  obtain ⟨v,h1,h2⟩:=evK_spec hk
  have hx:=ev_sound E h1
  split at h2
  · rename_i ad
    have hx0:=hx
    obtain ⟨a',e,_⟩:=VR_addA hx
    rw [e] at hx0
    exact quiet h2 hx0 (by simp only [execOp,e,run_pure])
  · rename_i f fs cs
    have hx0:=hx
    obtain ⟨f',c',e,_,_⟩:=hx
    rw [e] at hx0
    exact quiet h2 hx0 (by simp only [execOp,e,run_pure])
  · exact h2.elim
 case binOp op t x y yt =>
  obtain ⟨v,h1,h2⟩:=evK_spec hk
  obtain ⟨u,h3,h4⟩:=evK_spec h2
  rcases bin_sound (ox:=x) (oy:=y) h4 (ev_sound E h1) (ev_sound E h3) with hp | ⟨r,r',a1,a2,a3⟩
  · exact pr (by simp) hp
  · exact quiet a1 a2 (run_v (a3 w))
 case unOp op t x=>exact pr (by simp) hk
 case convert s d x =>
  obtain ⟨v,h1,h2⟩:=evK_spec hk
  rcases convert_sound S h2 (ev_sound E h1) with hp | ⟨r,h',r',w',φ',a1,a2,a3,a4,a5,a6⟩
  · exact pr (by simp) hp
  · exact .value (run_v a6) ⟨_,_,_,φ',a1,a2,a3,a4,a5⟩
 case makeInterface t x =>
  obtain ⟨v,h1,h2⟩:=evK_spec hk
  split at h2
  · exact h2.elim
  · rename_i d hd hu
    refine quiet h2 ⟨_,rfl,ev_sound E h1⟩ (run_v ?_)
    simp only [Instr.makeInterface,run_bind,run_underlying hu]
    cases d <;> first | rfl | exact absurd hu (hd _)
  · exact h2.elim
 case makeFunc fn first captured =>
  split at hk
  · rename_i fs cs h1 h2
    refine quiet hk ⟨(first.map a.eval),(captured.map a.eval),rfl,?_,?_⟩ (run_v rfl)
    · have:=evL_sound E h1
      simpa [VRA] using this
    · have:=evL_sound E h2
      simpa [VRA] using this
  · exact hk.elim
 case makeSlice t l cp =>
  obtain ⟨v,h1,h2⟩:=evK_spec hk
  obtain ⟨u,h3,h4⟩:=evK_spec h2
  obtain ⟨r,h',r',w',φ',a1,a2,a3,a4,a5,a6⟩:=makeSlice_sound S h4 (ev_sound E h1) (ev_sound E h3)
  exact .value (run_v a6) ⟨_,_,_,φ',a1,a2,a3,a4,a5⟩
 case slice t x lo hi mx =>
  obtain ⟨v,h1,h2⟩:=evK_spec hk
  split at h2
  · rename_i ad hga
    obtain ⟨r,h',r',φ',a1,a2,a3,a4,a6,a5⟩:=sliceG_sound hG S hga h2 (ev_sound E h1)
    obtain ⟨rfl,rfl,rfl⟩:=a5.1
    exact .value (run_v a5.2) ⟨_,_,_,φ',a1,a2,a3,a4,a6⟩
  split at h2
  · rename_i l hh m h3 h4 h5
    obtain ⟨r,r',a1,a2,a3⟩:=slice_sound S h2 (ev_sound E h1) (evO_sound E h3) (evO_sound E h4) (evO_sound E h5)
    exact quiet a1 a2 (run_v a3)
  · exact h2.elim
 case fieldAddr t x f =>
  obtain ⟨v,h1,h2⟩:=evK_spec hk
  obtain ⟨r,r',a1,a2,a3⟩:=fieldAddr_sound h2 (ev_sound E h1)
  exact quiet a1 a2 (run_v (a3 w))
 case field t x f =>
  obtain ⟨v,h1,h2⟩:=evK_spec hk
  obtain ⟨r,r',a1,a2,a3⟩:=field_sound h2 (ev_sound E h1)
  exact quiet a1 a2 (run_v (a3 w))
 case indexAddr t x ix =>
  obtain ⟨v,h1,h2⟩:=evK_spec hk
  obtain ⟨u,h3,h4⟩:=evK_spec h2
  obtain ⟨r,r',a1,a2,a3⟩:=indexAddr_sound h4 (ev_sound E h1) (ev_sound E h3)
  exact quiet a1 a2 (run_v (a3 w))
 case index t x ix =>
  obtain ⟨v,h1,h2⟩:=evK_spec hk
  obtain ⟨u,h3,h4⟩:=evK_spec h2
  obtain ⟨r,r',a1,a2,a3⟩:=index_sound h4 (ev_sound E h1) (ev_sound E h3)
  exact quiet a1 a2 (run_v (a3 w))
 case typeAssert x t u b=>exact pr (by simp) hk
 case makeMap t r =>
  cases r with
  | some r=>exact hk.elim
  | none =>
   obtain ⟨_,hk2⟩:=cond_prop hk
   obtain ⟨v',w',b1,b2⟩:=makeMap_sound (P:=c.P) (t:=t) S hk2
   exact .value (run_v b1) b2
 case lookup t x ix ok =>
  obtain ⟨v,h1,h2⟩:=evK_spec hk
  obtain ⟨u,h3,h4⟩:=evK_spec h2
  obtain ⟨r,r',a1,a2,a3⟩:=lookup_sound S h4 (ev_sound E h1) (ev_sound E h3)
  exact quiet a1 a2 (run_v a3)
 case mapUpdate t m kx x =>
  obtain ⟨mv,h1,h2⟩:=evK_spec hk
  obtain ⟨kv,h3,h4⟩:=evK_spec h2
  obtain ⟨v,h5,h6⟩:=evK_spec h4
  obtain ⟨h',w',a1,a2,a3,a4⟩:=mapUpdate_sound S h6 (ev_sound E h1) (ev_sound E h3) (ev_sound E h5)
  exact ⟨.skip,w',by simp only [execOp,run_bind,a4,run_pure],_,_,_,φ,a1,(VR_flat φ _ _ rfl).2 rfl,a2,a3,fun _ _ h=>h⟩
 case range t x =>
  obtain ⟨v,h1,h2⟩:=evK_spec hk
  obtain ⟨v',w',b1,b2⟩:=range_sound S h2 (ev_sound E h1)
  exact .value (run_v b1) b2
 case next it b =>
  cases b with
  | true=>exact hk.elim
  | false =>
   obtain ⟨v,h1,h2⟩:=evK_spec hk
   obtain ⟨v',w',b1,b2⟩:=next_sound (ty:=ty) S h2 (ev_sound E h1)
   exact .value (run_v b1) b2
 case entry it =>
  obtain ⟨v,h1,h2⟩:=evK_spec hk
  obtain ⟨r,r',a1,a2,a3⟩:=entry_sound S h2 (ev_sound E h1)
  exact quiet a1 a2 (run_v a3)
 case extract x i =>
  obtain ⟨v,h1,h2⟩:=evK_spec hk
  have hx:=ev_sound E h1
  split at h2
  · rename_i vs
    split at h2
    · rename_i u hu
      obtain ⟨vs',e,hvs⟩:=hx
      have hvs:VRL φ vs.toList vs'.toList:=by cases vs;exact hvs
      obtain ⟨u',a1,a2⟩:=VRL_get hvs hu
      refine quiet h2 a2 (run_v ?_)
      rw [e]
      have:vs'[i]? = some u':=by simpa using a1
      simp only [Instr.extract,this,run_pure]
    · exact h2.elim
  · exact h2.elim
 case call cl =>
  obtain ⟨callee,args,argTypes⟩:=cl
  split at hk
  · rename_i vs hvs
    have hargs:=evL_sound E hvs
    have hargs':VRL φ vs (args.map a.eval).toList:=by simpa using hargs
    cases callee with
    | invoke r m=>exact hk.elim
    | value f =>
     simp only at hk
     obtain ⟨fv,h1,h2⟩:=evK_spec hk
     have hf:=ev_sound E h1
     split at h2
     · rename_i fid first captured
       obtain ⟨f',c',e,g1,g2⟩:=hf
       cases hb:entersB c.P fid with
       | false =>
        rw [hb] at h2
        exact pr (by simp) h2
       | true =>
        rw [hb] at h2
        have g1:VRL φ first.toList f'.toList:=by cases first;exact g1
        have g2:VRL φ captured.toList c'.toList:=by cases captured;exact g2
        refine ⟨.enter fid (f' ++ args.map a.eval ++ c'),w,?_,?_⟩
        · simp only [execOp,resolve,run_bind,e,Deferred.ofValue,run_pure,invoke]
          exact entersB_run hb _ w
        · rw [cond_true] at h2
          cases hr:memB fid c.ro with
          | false=>rw [hr] at h2;exact call_sound hC S h2 (by simpa using VRL_append (VRL_append g1 hargs') g2)
          | true =>
           rw [hr] at h2
           refine (callRo_sound hG hC S h2 (by simpa using VRL_append (VRL_append g1 hargs') g2)).mono ?_
           rintro e w' ⟨v',rfl,v,a1,a2,a3,a4,a5⟩
           exact ⟨v',rfl,v,h,[],φ,a1,a2,a3,Ext.after a4 a5,fun _ _ h=>h⟩
     · exact h2.elim
    | builtin b =>
     simp only at hk
     have hrun:∀ {r:Result Next},(builtin b argTypes ty (args.map fun | .const _=>true | _=>false) (args.map a.eval)).run c.P w = r → (execOp a.eval ⟨dst,.call ⟨.builtin b,args,argTypes⟩,ty,pos,after,guard⟩).run c.P w = r:=fun h=>by
      rw [← h];exact run_resolve_builtin a.eval b args argTypes ty w
     unfold builtinK at hk
     split at hk
     · -- len
       split at hk
       · rename_i x
         split at hk
         · rename_i t ht
           obtain ⟨u,us,e1,hx,hnil⟩:=hargs'
           simp only [VRL] at hnil
           subst hnil
           have e2:args.map a.eval = #[u]:=Array.toList_inj.1 e1
           rcases len_sound (ty:=ty) ht hk hx w with hp | ⟨v,b1,b2,b3⟩
           · exact pr (by simp) hp
           · exact quiet b1 ((VR_flat φ _ _ b2).2 rfl) (hrun (by rw [e2];exact run_v b3))
         · exact hk.elim
       · exact hk.elim
     · -- append
       split at hk
       · rename_i s x
         obtain ⟨hc,hk⟩:=cond_prop hk
         obtain ⟨u,us,e1,hs,u2,us2,e2,hx,hnil⟩:=hargs'
         simp only [VRL] at hnil
         subst hnil;subst e2
         have e3:args.map a.eval = #[u,u2]:=Array.toList_inj.1 e1
         obtain ⟨v',w',b1,b2⟩:=append_sound (ty:=ty) S hc hk hs hx
         exact .value (hrun (by rw [e3];exact run_v b1)) b2
       · exact hk.elim
     · -- copy
       split at hk
       · rename_i s x
         obtain ⟨u,us,e1,hs,u2,us2,e2,hx,hnil⟩:=hargs'
         simp only [VRL] at hnil
         subst hnil;subst e2
         have e3:args.map a.eval = #[u,u2]:=Array.toList_inj.1 e1
         obtain ⟨v,h',v',w',b1,b2,b3,b4,b5⟩:=copy_sound (ty:=ty) S hk hs hx
         exact .value (hrun (by rw [e3];exact run_v b1)) ⟨_,_,_,φ,b2,b3,b4,b5,fun _ _ h=>h⟩
       · exact hk.elim
     · -- clear
       split at hk
       · rename_i x
         obtain ⟨u,us,e1,hx,hnil⟩:=hargs'
         simp only [VRL] at hnil
         subst hnil
         have e2:args.map a.eval = #[u]:=Array.toList_inj.1 e1
         obtain ⟨v,h',v',w',b1,b2,b3,b4,b5⟩:=clear_sound (ty:=ty) S hk hx
         exact .value (hrun (by rw [e2];exact run_v b1)) ⟨_,_,_,φ,b2,b3,b4,b5,fun _ _ h=>h⟩
       · exact hk.elim
     · -- unsafe.String
       split at hk
       · rename_i s x
         obtain ⟨u,us,e1,hs,u2,us2,e2,hx,hnil⟩:=hargs'
         simp only [VRL] at hnil
         subst hnil;subst e2
         have e3:args.map a.eval = #[u,u2]:=Array.toList_inj.1 e1
         obtain ⟨v',w',b1,b2⟩:=unsafeStr_sound (ty:=ty) S hk hs hx
         exact .value (hrun (by rw [e3];exact run_v b1)) b2
       · exact hk.elim
     · -- unsafe.SliceData
       split at hk
       · rename_i x
         obtain ⟨u,us,e1,hx,hnil⟩:=hargs'
         simp only [VRL] at hnil
         subst hnil
         have e2:args.map a.eval = #[u]:=Array.toList_inj.1 e1
         obtain ⟨v,v',b1,b2,b3⟩:=sliceData_sound (ty:=ty) (argTypes:=argTypes) hk hx
         exact quiet b1 b2 (hrun (by rw [e2];exact run_v (b3 w)))
       · exact hk.elim
     · exact pr (by simp) hk
  · exact hk.elim
end Go.Am

namespace Go.Am
open Go

inductive AExit where
 | normal
 | exit (id:Nat)
 | ret
 | panic (v:Value)

noncomputable def putK (N:Nat) (sl:Nat → Nat) (dst:Option Tmp) (e:Env) (v:Value) (mv:List Nat) (h:AHeap) (k:Env → AHeap → Prop):Prop :=
 match dst with
 | some d=>cond (Nat.blt d N) (bindV (sl d) v fun u=>k (eset (epzs e mv) d u) h) False
 | none=>k (epzs e mv) h

/-- Its result needs no name of its own. -/
def plainB:Op → Bool
 | .move _ | .assign _ | .pick _ _ _ | .load _ _=>true
 | _=>false
def modeOf (m:Nat) (op:Op):Nat:=match m with
 | 0=>0
 | 1=>1
 | _=>cond (plainB op) 0 2

def guardK (ops:Array Oper) (g:Option (Nat × Bool)) (e:Env) (go skip:Env → Prop):Prop :=
 match g with
 | none=>go e
 | some (j,want)=>match (ops[j]?).bind (·.dst) with
  | some d=>match eget e d with
   | some (.bool b)=>cond b (cond want (go (eset e d (.bool true))) (skip (eset e d (.bool true)))) (cond want (skip (eset e d (.bool false))) (go (eset e d (.bool false))))
   | some (.tuple _)=>skip e
   | _=>False
  | none=>False

noncomputable def stepK (c:Cfg) (ops:Array Oper) (o:Oper) (e:Env) (h:AHeap) (k:Env → AHeap → Prop):Prop :=
 guardK ops o.guard e (fun e=>execK c o e h fun v h' mv=>putK c.N (fun d=>modeOf (c.shut d) o.op) o.dst e v mv h' k) (fun e=>putK c.N (fun d=>modeOf (c.shut d) o.op) o.dst e undef [] h k)

def panicArg:Op → Option Operand
 | .panic x=>some x
 | _=>none

/-- A call of a function that may panic: its summary and what it is called with. -/
def pcall (c:Cfg):Op → Option (FuncId × (List Value → AHeap → (AEnd → AHeap → Prop) → Prop) × Array Operand)
 | .call cl=>match cl.callee with
  | .value (.func f)=>(match c.PC f with
   | some s=>some (f,s,cl.args)
   | none=>none)
  | _=>none
 | _=>none
noncomputable def callP' (c:Cfg) (s:List Value → AHeap → (AEnd → AHeap → Prop) → Prop) (o:Oper) (args:List Value) (e:Env) (h:AHeap) (k:Env → AHeap → Prop) (pk:Value → Env → AHeap → Prop) (ι:List Nat):Prop :=
 cond (closedB h ι && idsBL (fun j=>memB j ι) args)
  (frH (pullH true h ι) fun h0=>s (rnL (findI ι) args) h0 fun en h1=>frH (mergeH ι h h1) fun h2=>match en with
   | .ret u=>putK c.N (fun d=>modeOf (c.shut d) o.op) o.dst e (rn (pushI ι h.length) u) (movedIds ι h1) h2 k
   | .pan u=>pk (rn (pushI ι h.length) u) (epzs e (movedIds ι h1)) h2) False
noncomputable def callP (c:Cfg) (f:FuncId) (s:List Value → AHeap → (AEnd → AHeap → Prop) → Prop) (args:Array Operand) (o:Oper) (e:Env) (h:AHeap) (k:Env → AHeap → Prop) (pk:Value → Env → AHeap → Prop):Prop :=
 match evL e args.toList with
 | some vs=>cond (entersB c.P f) (frI (reach 4000 h (idsVL vs) []) (callP' c s o vs e h k pk)) False
 | none=>False
noncomputable def seqK (c:Cfg) (ops:Array Oper) (k:Env → AHeap → Prop) (pk:Value → Env → AHeap → Prop):List Oper → Env → AHeap → Prop
 | [],e,h=>k e h
 | o :: r,e,h=>match panicArg o.op with
  | some x=>match o.guard with
   | none=>evK e x fun v=>match v with
    | .iface t u=>pk (.iface t u) e h
    | _=>False
   | some _=>False
  | none=>match pcall c o.op with
   | some q=>(match o.guard with
    | none=>callP c q.1 q.2.1 q.2.2 o e h (seqK c ops k pk r) pk
    | some _=>False)
   | none=>stepK c ops o e h (seqK c ops k pk r)

theorem eget_eset:∀ (e:Env) (k:Nat) (v:Value) (j:Nat),eget (eset e k v) j = if j = k then some v else eget e j
 | [],k,v,j=>by
  by_cases h:k = j
  · subst h;simp [eset,eget]
  · rw [if_neg (fun e=>h e.symm)]
    simp [eset,eget,beq_ne h]
 | (i,u) :: r,k,v,j=>by
  by_cases hik:i = k
  · subst hik
    simp only [eset,Nat.beq_refl,cond_true,eget]
    by_cases h:i = j
    · subst h;simp
    · rw [beq_ne h,cond_false,if_neg (fun e=>h e.symm)]
      rfl
  · simp only [eset,beq_ne hik,cond_false,eget]
    by_cases h:i = j
    · subst h
      simp only [Nat.beq_refl,cond_true]
      rw [if_neg hik]
    · rw [beq_ne h,cond_false,eget_eset r k v j,cond_false]

theorem eget_epz (q:Nat → Bool):∀ (e:Env) (j:Nat),eget (epz q e) j = (eget e j).map (pz q)
 | [],_=>rfl
 | (i,u) :: r,j=>by
  simp only [epz,eget]
  cases Nat.beq i j
  · exact eget_epz q r j
  · rfl
theorem eget_epzs (e:Env) (l:List Nat) (j:Nat):eget (epzs e l) j = (eget e j).map (pzVs l):=by
 cases l with
 | nil=>simp only [epzs];cases eget e j <;> rfl
 | cons i r=>exact eget_epz _ e j

theorem EnvR.poison {N:Nat} {φ φ':Phi} {e:Env} {a:Act} (E:EnvR N φ e a) {mv:List Nat} (hm:∀ u u',VR φ u u' → VR φ' (pzVs mv u) u'):EnvR N φ' (epzs e mv) a:=by
 refine ⟨E.size,E.defers,fun k v hv=>?_⟩
 rw [eget_epzs] at hv
 cases he:eget e k with
 | none=>rw [he] at hv;cases hv
 | some u =>
  rw [he] at hv;cases hv
  exact ⟨(E.get k u he).1,hm u _ (E.get k u he).2⟩

theorem EnvR.put {N:Nat} {φ:Phi} {e:Env} {a:Act} (E:EnvR N φ e a) {d:Nat} (hd:d < N) {v v':Value} (hv:VR φ v v'):EnvR N φ (eset e d v) (a.put (some d) v'):=by
 refine ⟨by simp [Act.put,E.size],E.defers,fun k u hu=>?_⟩
 rw [eget_eset] at hu
 simp only [Act.put]
 by_cases h:k = d
 · rw [if_pos h] at hu;cases hu;subst h
   refine ⟨hd,?_⟩
   have:k < a.tmps.size:=by rw [E.size];exact hd
   rw [Array.getD_eq_getD_getElem?,Array.getElem?_setIfInBounds_self_of_lt this]
   exact hv
 · rw [if_neg h] at hu
   obtain ⟨h1,h2⟩:=E.get k u hu
   refine ⟨h1,?_⟩
   rw [Array.getD_eq_getD_getElem?,Array.getElem?_setIfInBounds_ne (fun e=>h e.symm),← Array.getD_eq_getD_getElem?]
   exact h2

theorem EnvR.lit {N:Nat} {φ:Phi} {e:Env} {a:Act} (E:EnvR N φ e a) {d:Nat} {b:Bool} (hb:eget e d = some (.bool b)):EnvR N φ (eset e d (.bool b)) a:=by
 refine ⟨E.size,E.defers,fun k u hu=>?_⟩
 rw [eget_eset] at hu
 by_cases h:k = d
 · rw [if_pos h] at hu;cases hu;subst h;exact E.get _ _ hb
 · rw [if_neg h] at hu;exact E.get k u hu

theorem putK_sound {N:Nat} {φ φ':Phi} {e:Env} {a:Act} (E:EnvR N φ e a) {mv:List Nat} (hm:∀ u u',VR φ u u' → VR φ' (pzVs mv u) u') {dst:Option Tmp} {v v':Value} (hv:VR φ' v v') {h:AHeap} {k:Env → AHeap → Prop}
 {sl:Nat → Nat} (hk:putK N sl dst e v mv h k):∃ e',k e' h ∧ EnvR N φ' e' (a.put dst v'):=by
 unfold putK at hk
 split at hk
 · rename_i d
   obtain ⟨hd,hk⟩:=cond_prop hk
   exact ⟨_,bindV_sound hk,(E.poison hm).put (by simpa [Nat.blt_eq] using hd) hv⟩
 · exact ⟨_,hk,E.poison hm⟩

theorem VR_undef (φ:Phi):VR φ undef undef:=(VR_flat φ _ _ rfl).2 rfl

/-- the guard's answer in the model -/
theorem guardK_sound {N:Nat} {φ:Phi} {e:Env} {a:Act} (E:EnvR N φ e a) {ops:Array Oper} {o:Oper} {go skip:Env → Prop} (hk:guardK ops o.guard e go skip) :
 ∃ e',EnvR N φ e' a ∧ ((Region.wanted o (yielded ops a.tmps) = true ∧ go e') ∨ (Region.wanted o (yielded ops a.tmps) = false ∧ skip e')):=by
 unfold guardK at hk
 split at hk
 · rename_i hg
   exact ⟨e,E,.inl ⟨by simp [Region.wanted,hg],hk⟩⟩
 · rename_i j want hg
   split at hk
   · rename_i d hd
     split at hk
     · rename_i b hb
       have hlt:=(E.get _ _ hb).1
       have hv:a.tmps.getD d undef = .bool b:=by simpa [VR] using (E.get _ _ hb).2
       have hy:yielded ops a.tmps j = some b:=by
        unfold yielded
        rw [hd]
        have hlt':d < a.tmps.size:=by rw [E.size];exact hlt
        rw [Array.getD_eq_getD_getElem?,Array.getElem?_eq_getElem hlt'] at hv
        simp only [Option.bind_some,Array.getElem?_eq_getElem hlt']
        simp only [Option.getD_some] at hv
        rw [hv]
       have hw:Region.wanted o (yielded ops a.tmps) = (b == want):=by simp [Region.wanted,hg,hy]
       refine ⟨_,E.lit hb,?_⟩
       rw [hw]
       cases b <;> cases want <;> simp only [cond_true,cond_false] at hk <;> first | exact .inl ⟨rfl,hk⟩ | exact .inr ⟨rfl,hk⟩
     · rename_i t hb
       have hlt:=(E.get _ _ hb).1
       obtain ⟨⟨l⟩,hv,_⟩:∃ cs',a.tmps.getD d undef = .tuple cs' ∧ VRA φ t cs':=by have:=(E.get _ _ hb).2;cases t;simpa [VR] using this
       have hy:yielded ops a.tmps j = none:=by
        unfold yielded
        rw [hd]
        have hlt':d < a.tmps.size:=by rw [E.size];exact hlt
        rw [Array.getD_eq_getD_getElem?,Array.getElem?_eq_getElem hlt'] at hv
        simp only [Option.bind_some,Array.getElem?_eq_getElem hlt']
        simp only [Option.getD_some] at hv
        rw [hv]
       exact ⟨e,E,.inr ⟨by simp [Region.wanted,hg,hy],hk⟩⟩
     · exact hk.elim
   · exact hk.elim

section
variable {W0:World} {c:Cfg} (hG:GOk c.G W0) (hC:SoundC c W0)
include hG hC

/-- One operation with its guard. -/
theorem stepK_sound {ops:Array Oper} {i:Nat} {o:Oper} (ho:ops[i]? = some o) {φ:Phi} {e:Env} {h:AHeap} {a:Act} {w:World} (E:EnvR c.N φ e a) (S:Sim W0 φ h w) {k:Env → AHeap → Prop} (hk:stepK c ops o e h k)
 {Q:Exit → Act → World → Prop} {K:Act → World → Prop} (hK:∀ e' h' φ' a' w',k e' h' → EnvR c.N φ' e' a' → Sim W0 φ' h' w' → Ext φ h w φ' h' w' → K a' w'):wpOp c.P ops Q i K a w:=by
 unfold wpOp
 simp only [ho]
 obtain ⟨e',E',hw | hw⟩:=guardK_sound E hk
 · rw [if_pos hw.1]
   refine .inl ((exec_sound hG hC E' S hw.2).wp fun v' w' hp=>?_)
   obtain ⟨v,h',mv,φ',h1,h2,h3,h4,h5⟩:=hp
   obtain ⟨e2,h6,h7⟩:=putK_sound E' h5 h2 h1
   exact hK _ _ _ _ _ h6 h7 h3 h4
 · rw [hw.1]
   simp only [Bool.false_eq_true,if_false]
   obtain ⟨e2,h6,h7⟩:=putK_sound E' (mv:=[]) (fun _ _ h=>h) (VR_undef φ) hw.2
   exact hK _ _ _ _ _ h6 h7 S (Ext.refl _ _ _)


omit hG hC in

omit hG hC in
theorem pcall_spec {o:Oper} {q:FuncId × (List Value → AHeap → (AEnd → AHeap → Prop) → Prop) × Array Operand} (hq:pcall c o.op = some q):∃ cl:Call,o.op = .call cl ∧ cl.callee = .value (.func q.1) ∧ cl.args = q.2.2 ∧ c.PC q.1 = some q.2.1:=by
 unfold pcall at hq
 split at hq
 · rename_i cl hcl
   split at hq
   · rename_i f' hf'
     split at hq
     · rename_i s' hs'
       cases hq
       exact ⟨cl,hcl,hf',rfl,hs'⟩
     · cases hq
   · cases hq
 · cases hq
omit hG hC in
theorem pcall_run {o:Oper} {cl:Call} {f:FuncId} {args:Array Operand} (hop:o.op = .call cl) (hcal:cl.callee = .value (.func f)) (hcarg:cl.args = args) (hb:entersB c.P f = true) (a:Act) (w:World):(execOp a.eval o).run c.P w = .ok (.enter f (args.map a.eval)) w:=by
 obtain ⟨callee,cargs,argTypes⟩:=cl
 simp only at hcal hcarg
 subst hcal hcarg
 simp only [execOp,hop,resolve,run_bind,Act.eval,Deferred.ofValue,run_pure,invoke]
 have:=entersB_run hb (cargs.map a.eval ++ #[]) w
 simpa using this
/-- A region in the order of the text. -/
theorem seqK_sound {ops:Array Oper} {k:Env → AHeap → Prop} {pk:Value → Env → AHeap → Prop} {Q:Exit → Act → World → Prop}:∀ (l:List Oper) (i:Nat) {φ:Phi} {e:Env} {h:AHeap} {a:Act} {w:World},ops.toList.drop i = l →
 EnvR c.N φ e a → Sim W0 φ h w → seqK c ops k pk l e h →
 (∀ e' h' φ' a' w',k e' h' → EnvR c.N φ' e' a' → Sim W0 φ' h' w' → Ext φ h w φ' h' w' → Q .normal a' w') →
 (∀ v v' e' h' φ' a' w',pk v e' h' → VR φ' v v' → EnvR c.N φ' e' a' → Sim W0 φ' h' w' → Ext φ h w φ' h' w' → Q (.panic [{ v:=v',recovered:=false }]) a' w') →
 wpOps c.P ops Q (List.range' i l.length) a w
 | [],_,_,_,_,_,_,_,E,S,hk,hn,_=>hn _ _ _ _ _ hk E S (Ext.refl _ _ _)
 | o :: r,i,φ,e,h,a,w,hl,E,S,hk,hn,hp=>by
  have hlt:i < ops.toList.length:=by
   rcases Nat.lt_or_ge i ops.toList.length with h1 | h1
   · exact h1
   · rw [List.drop_eq_nil_of_le h1] at hl;cases hl
  have hd:=List.drop_eq_getElem_cons hlt
  rw [hl] at hd
  have ho:ops[i]? = some o:=by
   have:ops.toList[i]? = some o:=by rw [List.getElem?_eq_getElem hlt];rw [(List.cons.inj hd).1]
   simpa using this
  have hr:ops.toList.drop (i + 1) = r:=(List.cons.inj hd).2.symm
  rw [List.length_cons,List.range'_succ,wpOps_cons]
  simp only [seqK] at hk
  split at hk
  · rename_i x hx
    split at hk
    · rename_i hg
      obtain ⟨v,h1,h2⟩:=evK_spec hk
      split at h2
      · rename_i t u
        have hv:=ev_sound E h1
        obtain ⟨u',e1,hu⟩:=id hv
        have hop:o.op = .panic x:=by
         unfold panicArg at hx
         split at hx
         · cases hx;assumption
         · cases hx
        unfold wpOp
        simp only [ho]
        rw [if_pos (by simp [Region.wanted,hg])]
        refine .inl ?_
        unfold Oper.wp
        have:(execOp a.eval o).run c.P w = .halt (.panic (.iface t u')) w:=by
         simp only [execOp,hop,e1,run_bind]
         rfl
        rw [this]
        exact hp _ _ _ _ _ _ _ h2 ⟨u',rfl,hu⟩ E S (Ext.refl _ _ _)
      · exact h2.elim
    · exact hk.elim
  · split at hk
    · rename_i q hq
      split at hk
      · rename_i hg
        obtain ⟨f,s,args⟩:=q
        unfold callP at hk
        split at hk
        · rename_i vs hvs
          obtain ⟨hb,hk⟩:=cond_prop hk
          rw [frI_eq] at hk
          have hargs:=evL_sound E hvs
          have hargs':VRL φ vs (args.map a.eval).toList:=by simpa using hargs
          obtain ⟨cl,hop,hcal,hcarg,hpc⟩:=pcall_spec hq
          revert hk
          generalize reach 4000 h (idsVL vs) [] = ι
          intro hk
          unfold callP' at hk
          obtain ⟨hcl',hk⟩:=cond_prop hk
          rw [frH_eq] at hk
          simp only [Bool.and_eq_true] at hcl'
          have hcall:=(hC _ (.inl rfl)).2 f s hpc _ _ _ hk _ w (args.map a.eval) (S.pull true hcl'.1) (VRL_pull hcl'.2 hargs')
          unfold wpOp
          simp only [ho]
          rw [if_pos (by simp [Region.wanted,hg])]
          refine .inl ?_
          unfold Oper.wp
          rw [pcall_run hop hcal hcarg hb a w,Oper.upon_enter]
          refine hcall.mono ?_
          rintro en w' (⟨v',u,h1,φ1,rfl,hK,hv,S1,E1⟩ | ⟨v',u,h1,φ1,rfl,hK,hv,S1,E1⟩)
          · rw [frH_eq] at hK
            obtain ⟨m1,m2,m3,m4⟩:=merge S hcl'.1 S1 E1
            obtain ⟨e2,h6,h7⟩:=putK_sound E m4 (m3 u v' hv) hK
            exact seqK_sound r (i + 1) hr h7 m1 h6 (fun e2 h2 φ2 a2 w2 k2 E2 S2 X2=>hn _ _ _ _ _ k2 E2 S2 (m2.trans X2))
             (fun v v' e2 h2 φ2 a2 w2 k2 V2 E2 S2 X2=>hp _ _ _ _ _ _ _ k2 V2 E2 S2 (m2.trans X2))
          · rw [frH_eq] at hK
            obtain ⟨m1,m2,m3,m4⟩:=merge S hcl'.1 S1 E1
            exact hp _ _ _ _ _ _ _ hK (m3 u v' hv) (E.poison m4) m1 m2
        · exact hk.elim
      · exact hk.elim
    · refine stepK_sound hG hC ho E S hk fun e' h' φ' a' w' h1 E1 S1 X1=>?_
      exact seqK_sound r (i + 1) hr E1 S1 h1 (fun e2 h2 φ2 a2 w2 k2 E2 S2 X2=>hn _ _ _ _ _ k2 E2 S2 (X1.trans X2))
       (fun v v' e2 h2 φ2 a2 w2 k2 V2 E2 S2 X2=>hp _ _ _ _ _ _ _ k2 V2 E2 S2 (X1.trans X2))
end

/-! ### a region that draws its order -/
def Agree (w w2:World):Prop:=∀ n,n < w.heap.size → w2.heap[n]? = w.heap[n]?

def intTB (P:Program) (t:TypeId):Bool:=match P.underlying t with | some (.int _)=>true | _=>false
/-- It may be taken first: it reads nothing but its operands (under 'held' it may load, too). -/
def takeB (P:Program) (held:Bool):Op → Bool
 | .move _ | .assign _ | .pick _ _ _ | .nilCheck _ | .extract _ _ | .fieldAddr _ _ _ | .indexAddr _ _ _ | .index _ _ _ | .field _ _ _ | .unOp _ _ _ | .binOp _ _ _ _ _=>true
 | .convert s d _=>intTB P s && intTB P d
 | .load _ _=>held
 | _=>false
/-- Under 'held': it writes nothing that was there. -/
def calmB (e:Env):Op → Bool
 | .alloc _=>true
 | .box _ _=>true
 | .call cl=>match cl.callee with
  | .value f=>match evL e cl.args.toList,ev e f with
   | some vs,some (.func _ fs cs)=>(idsVL (fs.toList ++ vs ++ cs.toList)).isEmpty
   | _,_=>false
  | _=>false
 | _=>false

/-- A load under 'held' reads a block that was there when the region began. -/
def addrB (e:Env) (n0:Nat):Op → Bool
 | .load _ x=>match ev e x with
  | some (.pointer (some a))=>match a.spot with
   | none=>true
   | some _=>Nat.blt a.block n0
  | _=>false
 | _=>true
def firstTake (c:Cfg) (held:Bool) (n0:Nat) (ops:Array Oper) (e:Env) (listed:Array Bool):List Nat → Option Nat
 | []=>none
 | i :: r=>match ops[i]? with
  | some o=>cond (takeB c.P held o.op && addrB e n0 o.op && Region.free .any ops listed i) (some i) (firstTake c held n0 ops e listed r)
  | none=>firstTake c held n0 ops e listed r

/-- One operation with its guard, and a test ahead of it. -/
noncomputable def stepA (c:Cfg) (ops:Array Oper) (o:Oper) (chk:Env → Bool) (e:Env) (h:AHeap) (k:Env → AHeap → Prop):Prop :=
 guardK ops o.guard e (fun e=>cond (chk e) (execK c o e h fun v h' mv=>putK c.N (fun d=>modeOf (c.shut d) o.op) o.dst e v mv h' k) False) (fun e=>putK c.N (fun d=>modeOf (c.shut d) o.op) o.dst e undef [] h k)

def allK (f:Nat → Prop):List Nat → Prop
 | []=>True
 | [i]=>f i
 | i :: r=>f i ∧ allK f r

noncomputable def anyK (c:Cfg) (held:Bool) (n0:Nat) (ops:Array Oper) (k:Env → AHeap → Prop):Nat → Array Bool → Env → AHeap → Prop
 | 0,listed,e,h=>match Region.ready .any ops listed with
  | []=>k e h
  | _=>False
 | n + 1,listed,e,h=>match Region.ready .any ops listed with
  | []=>k e h
  | i :: r=>match firstTake c held n0 ops e listed (i :: r) with
   | some j=>match ops[j]? with
    | some o=>stepA c ops o (fun e=>addrB e n0 o.op) e h (anyK c held n0 ops k n (listed.setIfInBounds j true))
    | none=>False
   | none=>allK (fun j=>match ops[j]? with
    | some o=>stepA c ops o (fun e=>!held || calmB e o.op) e h (anyK c held n0 ops k n (listed.setIfInBounds j true))
    | none=>False) (i :: r)

theorem allK_mem {f:Nat → Prop}:∀ {l:List Nat},allK f l → ∀ i ∈ l,f i
 | [],_,i,h=>by cases h
 | [j],hk,i,h=>by
  rcases List.mem_cons.1 h with rfl | h
  · exact hk
  · cases h
 | j :: k :: r,hk,i,h=>by
  rcases List.mem_cons.1 h with rfl | h
  · exact hk.1
  · exact allK_mem hk.2 i h

theorem firstTake_spec {c:Cfg} {held:Bool} {n0:Nat} {ops:Array Oper} {e:Env} {listed:Array Bool}:∀ {l:List Nat} {j:Nat},firstTake c held n0 ops e listed l = some j → j ∈ l ∧ ∃ o,ops[j]? = some o ∧ takeB c.P held o.op = true ∧ addrB e n0 o.op = true ∧ Region.free .any ops listed j = true
 | [],_,h=>by cases h
 | i :: r,j,h=>by
  simp only [firstTake] at h
  split at h
  · rename_i o ho
    cases hb:takeB c.P held o.op && addrB e n0 o.op && Region.free .any ops listed i with
    | true =>
     rw [hb] at h;cases h
     rw [Bool.and_eq_true,Bool.and_eq_true] at hb
     exact ⟨List.mem_cons_self,o,ho,hb.1.1,hb.1.2,hb.2⟩
    | false =>
     rw [hb] at h
     obtain ⟨h1,h2⟩:=firstTake_spec h
     exact ⟨List.mem_cons_of_mem _ h1,h2⟩
  · obtain ⟨h1,h2⟩:=firstTake_spec h
    exact ⟨List.mem_cons_of_mem _ h1,h2⟩

/-- The blocks that were there when the region began lie in the memory of that time. -/
def Placed (n0:Nat) (w0:World) (φ:Phi) (h:AHeap):Prop:=∀ (i:Nat) (o:AObj) (p:PB),i < n0 → h[i]? = some o → φ[i]? = some p → o ≠ .dead → p.b < w0.heap.size

/-- What may be taken first yields one value, in whatever world that agrees. -/
theorem take_sound {W0:World} {c:Cfg} (hG:GOk c.G W0) {N:Nat} {φ:Phi} {e:Env} {h:AHeap} {a:Act} {w:World} (E:EnvR N φ e a) (S:Sim W0 φ h w) {o:Oper} {held:Bool} (ht:takeB c.P held o.op = true) {n0:Nat} (had:addrB e n0 o.op = true)
 {w0:World} (hW:held = true → W0.heap.size ≤ w0.heap.size) (hpl:held = true → Placed n0 w0 φ h) (hag:held = true → Agree w0 w)
 {k:Value → AHeap → List Nat → Prop} (hk:execK c o e h k):∃ v v',k v h [] ∧ VR φ v v' ∧ ∀ w2:World,(held = true → Agree w0 w2) → (execOp a.eval o).run c.P w2 = .ok (.value v') w2:=by
 obtain ⟨dst,op,ty,pos,after,guard⟩:=o
 have pr:(∀ cs b,op ≠ .select cs b) → (pureK c.P ⟨dst,op,ty,pos,after,guard⟩ e fun v=>k v h []) → ∃ v v',k v h [] ∧ VR φ v v' ∧ ∀ w2:World,(held = true → Agree w0 w2) → (execOp a.eval ⟨dst,op,ty,pos,after,guard⟩).run c.P w2 = .ok (.value v') w2:=fun hs hp=>by
  obtain ⟨v,h1,h2,h3⟩:=pure_sound E hs hp
  exact ⟨v,v,h1,(VR_flat φ _ _ h2).2 rfl,fun w2 _=>h3 w2⟩
 cases op <;> simp only [takeB] at ht <;> try (cases ht;done)
 all_goals simp only [execK] at hk
 case move x =>
  obtain ⟨v,h1,h2⟩:=evK_spec hk
  exact ⟨_,_,h2,ev_sound E h1,fun _ _=>rfl⟩
 case assign x =>
  obtain ⟨v,h1,h2⟩:=evK_spec hk
  exact ⟨_,_,h2,ev_sound E h1,fun _ _=>rfl⟩
 case pick x y z =>
  obtain ⟨v,h1,h2⟩:=evK_spec hk
  have hx:=ev_sound E h1
  split at h2
  · rename_i t
    have e1:a.eval x = .bool t:=by simpa [VR] using hx
    cases t with
    | true =>
     obtain ⟨u,h3,h4⟩:=evK_spec h2
     exact ⟨_,_,h4,ev_sound E h3,fun _ _=>by simp only [execOp,run_bind,e1,asBool,run_pure,if_true]⟩
    | false =>
     obtain ⟨u,h3,h4⟩:=evK_spec h2
     exact ⟨_,_,h4,ev_sound E h3,fun _ _=>by simp only [execOp,run_bind,e1,asBool,run_pure,Bool.false_eq_true,if_false]⟩
  · exact h2.elim
 case load t x =>
  obtain ⟨v,h1,h2⟩:=evK_spec hk
  obtain ⟨u,u',b,a1,a2,a4,a3⟩:=load_sound S hG h2 (ev_sound E h1)
  refine ⟨_,_,a1,a2,fun w2 hw=>run_v (a3 w2 ?_)⟩
  have hb:b < w0.heap.size:=by
   obtain ⟨ad,rfl,h5 | ⟨⟨s,h5⟩,p,o,h6,h7,h8,h9⟩⟩:=a4
   · have:=hW ht;omega
   · simp only [addrB,h1,h5] at had
     rw [← h9]
     exact hpl ht _ _ _ (by simpa [Nat.blt_eq] using had) h7 h6 h8
  rw [hw ht b hb,hag ht b hb]
 case nilCheck x =>
  obtain ⟨v,h1,h2⟩:=evK_spec hk
  have hx:=ev_sound E h1
  split at h2
  · rename_i ad
    have hx0:=hx
    obtain ⟨a',e,_⟩:=VR_addA hx
    rw [e] at hx0
    exact ⟨_,_,h2,hx0,fun _ _=>by simp only [execOp,e,run_pure]⟩
  · rename_i f fs cs
    have hx0:=hx
    obtain ⟨f',c',e,_,_⟩:=hx
    rw [e] at hx0
    exact ⟨_,_,h2,hx0,fun _ _=>by simp only [execOp,e,run_pure]⟩
  · exact h2.elim
 case binOp op t x y yt =>
  obtain ⟨v,h1,h2⟩:=evK_spec hk
  obtain ⟨u,h3,h4⟩:=evK_spec h2
  rcases bin_sound (ox:=x) (oy:=y) h4 (ev_sound E h1) (ev_sound E h3) with hp | ⟨r,r',a1,a2,a3⟩
  · exact pr (by simp) hp
  · exact ⟨_,_,a1,a2,fun w2 _=>run_v (a3 w2)⟩
 case unOp op t x=>exact pr (by simp) hk
 case convert s d x =>
  obtain ⟨v,h1,h2⟩:=evK_spec hk
  simp only [Bool.and_eq_true] at ht
  have hs:elemIs c.P s .u8 = false:=by
   have:=ht.1
   unfold intTB at this
   unfold elemIs
   split at this
   · rename_i hu;rw [hu]
   · cases this
  have hd:elemIs c.P d .u8 = false:=by
   have:=ht.2
   unfold intTB at this
   unfold elemIs
   split at this
   · rename_i hu;rw [hu]
   · cases this
  unfold convertK at h2
  split at h2
  · rw [hd,Bool.false_and] at h2;exact pr (by simp) h2
  · rw [hs,Bool.false_and] at h2;exact h2.elim
  · exact pr (by simp) h2
 case fieldAddr t x f =>
  obtain ⟨v,h1,h2⟩:=evK_spec hk
  obtain ⟨r,r',a1,a2,a3⟩:=fieldAddr_sound h2 (ev_sound E h1)
  exact ⟨_,_,a1,a2,fun w2 _=>run_v (a3 w2)⟩
 case field t x f =>
  obtain ⟨v,h1,h2⟩:=evK_spec hk
  obtain ⟨r,r',a1,a2,a3⟩:=field_sound h2 (ev_sound E h1)
  exact ⟨_,_,a1,a2,fun w2 _=>run_v (a3 w2)⟩
 case indexAddr t x ix =>
  obtain ⟨v,h1,h2⟩:=evK_spec hk
  obtain ⟨u,h3,h4⟩:=evK_spec h2
  obtain ⟨r,r',a1,a2,a3⟩:=indexAddr_sound h4 (ev_sound E h1) (ev_sound E h3)
  exact ⟨_,_,a1,a2,fun w2 _=>run_v (a3 w2)⟩
 case index t x ix =>
  obtain ⟨v,h1,h2⟩:=evK_spec hk
  obtain ⟨u,h3,h4⟩:=evK_spec h2
  obtain ⟨r,r',a1,a2,a3⟩:=index_sound h4 (ev_sound E h1) (ev_sound E h3)
  exact ⟨_,_,a1,a2,fun w2 _=>run_v (a3 w2)⟩
 case extract x i =>
  obtain ⟨v,h1,h2⟩:=evK_spec hk
  have hx:=ev_sound E h1
  split at h2
  · rename_i vs
    split at h2
    · rename_i u hu
      obtain ⟨vs',e,hvs⟩:=hx
      have hvs:VRL φ vs.toList vs'.toList:=by cases vs;exact hvs
      obtain ⟨u',a1,a2⟩:=VRL_get hvs hu
      refine ⟨_,_,h2,a2,fun w2 _=>run_v ?_⟩
      rw [e]
      have:vs'[i]? = some u':=by simpa using a1
      simp only [Instr.extract,this,run_pure]
    · exact h2.elim
  · exact h2.elim

theorem agree_push {w w':World} {x:Obj} (h:w'.heap = w.heap.push x):Agree w w':=fun n hn=>by rw [h,Array.getElem?_push,if_neg (by omega)]

theorem Does.mono {P:Program} {o:Oper} {a:Act} {w:World} {Q Q':Value → World → Prop} (h:Does P o a w Q) (hq:∀ v w',Q v w' → Q' v w'):Does P o a w Q':=by
 obtain ⟨n,w',h1,h2⟩:=h
 refine ⟨n,w',h1,?_⟩
 cases n <;> simp only at h2 ⊢ <;> first
  | exact hq _ _ h2
  | exact Calls.mono h2 (fun e w'' ⟨v,he,hv⟩=>⟨v,he,hq _ _ hv⟩)
  | exact h2.elim

def CalmPost (W0:World) (φ:Phi) (h:AHeap) (w:World) (k:Value → AHeap → List Nat → Prop) (v':Value) (w':World):Prop :=
 ∃ v h' mv φ',k v h' mv ∧ VR φ' v v' ∧ Sim W0 φ' h' w' ∧ Ext φ h w φ' h' w' ∧ (∀ u u',VR φ u u' → VR φ' (pzVs mv u) u') ∧ Agree w w' ∧ (∀ i,i < h.length → φ'[i]? = φ[i]?) ∧ ∀ i,i < h.length → h'[i]? = h[i]?

theorem calm_alloc {W0:World} {φ:Phi} {h:AHeap} {w:World} (S:Sim W0 φ h w) {k:Value → AHeap → List Nat → Prop} {t:TypeId} {vs:List Value} {cs:Array Value} (h1:∀ u ∈ cs.toList,OneC u) (hv:VRL φ vs cs.toList)
 (hk:allocK t vs h fun v h'=>k v h' []):CalmPost W0 φ h w k (.pointer (some ⟨w.heap.size,0,none⟩)) { w with heap:=w.heap.push (.cells cs t) }:=by
 obtain ⟨h1,h2,h3⟩:=push_cells S (fl:=flatL vs) (t:=t) (cs:=cs) (rest:=[]) (fr:=(0,0)) (w':={ w with heap:=w.heap.push (.cells cs t) }) (List.append_nil _).symm h1 hv id (fun j _ h=>by omega) rfl rfl rfl rfl
 refine ⟨_,_,_,_,hk,?_,h1,h2,fun u u' hu=>VR_mono (push_mono φ _) u u' hu,agree_push rfl,fun i hi=>List.getElem?_append_left (by rw [S.len];exact hi),fun i hi=>List.getElem?_append_left hi⟩
 simp only [newAddr,VR]
 exact ⟨_,h3,by simp⟩

/-- What writes nothing that was there. -/
theorem calm_sound {W0:World} {c:Cfg} (hG:GOk c.G W0) (hC:SoundC c W0) {N:Nat} {φ:Phi} {e:Env} {h:AHeap} {a:Act} {w:World} (E:EnvR N φ e a) (S:Sim W0 φ h w) {o:Oper} (hc:calmB e o.op = true)
 {k:Value → AHeap → List Nat → Prop} (hk:execK c o e h k):Does c.P o a w (CalmPost W0 φ h w k):=by
 obtain ⟨dst,op,ty,pos,after,guard⟩:=o
 cases op <;> simp only [calmB] at hc <;> try (cases hc;done)
 all_goals simp only [execK] at hk
 case alloc t =>
  split at hk
  · rename_i i hi
    split at hk
    · rename_i z hz
      obtain ⟨ho,hk⟩:=cond_prop hk
      simp only [Bool.and_eq_true] at ho
      exact .value (run_v (run_alloc hi hz w)) (calm_alloc S (VRL_one (φ:=[]) ho.1 (VRL_flatL ho.2)) (VRL_flatL ho.2) hk)
    · exact hk.elim
  · exact hk.elim
 case box t x =>
  obtain ⟨v,h1,h2⟩:=evK_spec hk
  obtain ⟨ho,hk⟩:=cond_prop h2
  have hv:=VR_cells ho (ev_sound E h1)
  exact .value (v:=.pointer (some ⟨w.heap.size,0,none⟩)) (w':={ w with heap:=w.heap.push (.cells (a.eval x).cells t) })
   (run_v (by simp only [Instr.box,newVar,run_bind,run_newRow,run_pure])) (calm_alloc S (VRL_one ho hv) hv hk)
 case call cl =>
  obtain ⟨callee,args,argTypes⟩:=cl
  cases callee with
  | invoke r m=>cases hc
  | builtin b=>cases hc
  | value f =>
   simp only at hc hk
   split at hk
   · rename_i vs hvs
     have hargs:=evL_sound E hvs
     have hargs':VRL φ vs (args.map a.eval).toList:=by simpa using hargs
     obtain ⟨fv,h1,h2⟩:=evK_spec hk
     have hf:=ev_sound E h1
     split at h2
     · rename_i fid first captured
       simp only [hvs,h1] at hc
       obtain ⟨f',c',e,g1,g2⟩:=hf
       cases hb:entersB c.P fid with
       | false =>
        rw [hb] at h2
        obtain ⟨v,b1,b2,b3⟩:=pure_sound E (by simp) h2
        exact .value (b3 w) ⟨_,_,_,φ,b1,(VR_flat φ _ _ b2).2 rfl,S,Ext.refl _ _ _,fun _ _ h=>h,fun _ _=>rfl,fun _ _=>rfl,fun _ _=>rfl⟩
       | true =>
        rw [hb] at h2
        have g1:VRL φ first.toList f'.toList:=by cases first;exact g1
        have g2:VRL φ captured.toList c'.toList:=by cases captured;exact g2
        refine ⟨.enter fid (f' ++ args.map a.eval ++ c'),w,?_,?_⟩
        · simp only [execOp,resolve,run_bind,e,Deferred.ofValue,run_pure,invoke]
          exact entersB_run hb _ w
        · have hids:idsVL (first.toList ++ vs ++ captured.toList) = []:=by simpa using hc
          rw [cond_true] at h2
          cases hr:memB fid c.ro with
          | true =>
           rw [hr] at h2
           refine (callRo_sound hG hC S h2 (by simpa using VRL_append (VRL_append g1 hargs') g2)).mono ?_
           rintro e w' ⟨v',rfl,v,a1,a2,a3,a4,a5⟩
           exact ⟨v',rfl,v,h,[],φ,a1,a2,a3,Ext.after a4 a5,fun _ _ h=>h,fun n hn=>a5 n hn,fun _ _=>rfl,fun _ _=>rfl⟩
          | false =>
          rw [hr,cond_false] at h2
          unfold callK at h2
          rw [frI_eq] at h2
          unfold callK' at h2
          rw [hids,show reach 4000 h [] [] = [] from rfl] at h2
          obtain ⟨hcl,h2⟩:=cond_prop h2
          rw [frH_eq] at h2
          simp only [Bool.and_eq_true] at hcl
          refine ((hC _ (.inl rfl)).1 _ _ _ _ h2 _ w _ (S.pull true hcl.1) (VRL_pull hcl.2 (by simpa using VRL_append (VRL_append g1 hargs') g2))).mono ?_
          rintro e w' ⟨v',u,h1',φ1,rfl,hK,hv,S1,E1⟩
          rw [frH_eq] at hK
          obtain ⟨m1,m2,m3,m4⟩:=merge S hcl.1 S1 E1
          refine ⟨v',rfl,_,_,_,_,hK,m3 u v' hv,m1,m2,m4,fun n hn=>E1.rest n hn fun i p hl _=>by simp [liveB,pullH] at hl,fun i hi=>?_,fun i hi=>?_⟩
          · rw [mergeP,List.getElem?_append_left (by rw [mapI_length,S.len];exact hi),mapI_get]
            have:(fun p:PB=>cond (memB (0 + i) []) (φ1.getD (findI [] (0 + i)) ⟨0,0,0⟩) p) = fun p=>p:=by funext p;rfl
            rw [this,Option.map_id']
          · rw [mergeH,List.getElem?_append_left (by rw [mapI_length];exact hi),mapI_get]
            have:mergeO [] h.length h1' (0 + i) = fun o=>o:=by funext o;rfl
            rw [this,Option.map_id']
     · exact h2.elim
   · exact hk.elim

theorem stepA_stepK {c:Cfg} {ops:Array Oper} {o:Oper} {chk:Env → Bool} {e:Env} {h:AHeap} {k:Env → AHeap → Prop} (hk:stepA c ops o chk e h k):stepK c ops o e h k:=by
 have go:∀ {e:Env},cond (chk e) (execK c o e h fun v h' mv=>putK c.N (fun d=>modeOf (c.shut d) o.op) o.dst e v mv h' k) False → execK c o e h fun v h' mv=>putK c.N (fun d=>modeOf (c.shut d) o.op) o.dst e v mv h' k:=fun h=>(cond_prop h).2
 cases hg:o.guard with
 | none =>
  simp only [stepA,stepK,hg,guardK] at hk ⊢
  exact go hk
 | some p =>
  obtain ⟨j,want⟩:=p
  simp only [stepA,stepK,hg,guardK] at hk ⊢
  cases hd:(ops[j]?).bind (·.dst) with
  | none=>simp only [hd] at hk
  | some d =>
   simp only [hd] at hk ⊢
   cases he:eget e d with
   | none=>simp only [he] at hk
   | some v =>
    simp only [he] at hk ⊢
    cases v <;> try exact hk.elim
    case tuple l=>exact hk
    case bool b=>cases b <;> cases want <;> first | exact go hk | exact hk

section
variable {W0:World} {c:Cfg} (hG:GOk c.G W0) (hC:SoundC c W0)
include hG hC

/-- A region in whatever order. -/
theorem anyK_sound {held:Bool} {n0:Nat} {ops:Array Oper} (hs:Region.noSelect ops = true) {k:Env → AHeap → Prop} {Q:Exit → Act → World → Prop} (hQp:∀ (c:List PanicEntry) (a a':Act) (w:World),a'.defers = a.defers → Q (.panic c) a w → Q (.panic c) a' w) (w0:World) (hW:W0.heap.size ≤ w0.heap.size) :
 ∀ (n:Nat) (listed:Array Bool) {φ:Phi} {e:Env} {h:AHeap} {a:Act} {w:World},EnvR c.N φ e a → Sim W0 φ h w → n0 ≤ h.length → (held = true → Agree w0 w ∧ w0.heap.size ≤ w.heap.size ∧ Placed n0 w0 φ h) → anyK c held n0 ops k n listed e h →
 (∀ e' h' φ' a' w',k e' h' → EnvR c.N φ' e' a' → Sim W0 φ' h' w' → Ext φ h w φ' h' w' → Q .normal a' w') →
 wpAnyH c.P .any ops Q (fun w2=>held = true → Agree w0 w2) n listed a w
 | 0,listed,φ,e,h,a,w,E,S,hn0,hag,hk,hn=>by
  simp only [anyK] at hk
  split at hk
  · rename_i hr
    exact ⟨hr,hn _ _ _ _ _ hk E S (Ext.refl _ _ _)⟩
  · exact hk.elim
 | n + 1,listed,φ,e,h,a,w,E,S,hn0,hag,hk,hn=>by
  simp only [anyK] at hk
  split at hk
  · rename_i hr
    exact wpAnyH_done hr (hn _ _ _ _ _ hk E S (Ext.refl _ _ _)) (n + 1)
  · rename_i i r hr
    split at hk
    · rename_i j hft
      obtain ⟨hmem,o,ho,htk,had,hfree⟩:=firstTake_spec hft
      rw [ho] at hk
      simp only at hk
      unfold stepA at hk
      have hq:∀ v c a w,Q (.panic c) (a.put o.dst v) w → Q (.panic c) a w:=fun v c a w hq=>hQp c _ _ w (by cases o.dst <;> rfl) hq
      obtain ⟨e',E',hw | hw⟩:=guardK_sound E hk
      · obtain ⟨hw1,hw2⟩:=hw
        obtain ⟨had',hw2⟩:=cond_prop hw2
        have hw:Region.wanted o (yielded ops a.tmps) = true ∧ execK c o e' h (fun v h' mv=>putK c.N (fun d=>modeOf (c.shut d) o.op) o.dst e' v mv h' (anyK c held n0 ops k n (listed.setIfInBounds j true))):=⟨hw1,hw2⟩
        obtain ⟨v,v',h1,h2,h3⟩:=take_sound hG E' S htk had' (fun _=>hW) (fun hh=>(hag hh).2.2) (fun hh=>(hag hh).1) hw.2
        obtain ⟨e2,h6,h7⟩:=putK_sound E' (mv:=[]) (fun _ _ h=>h) h2 h1
        refine wpAnyH_take ho hs hfree (by rw [hr];simpa using hmem) (hq v') (.inl ⟨hw.1,h3⟩) (fun hh=>(hag hh).1) ?_
        exact anyK_sound hs hQp w0 hW n _ h7 S hn0 hag h6 hn
      · obtain ⟨e2,h6,h7⟩:=putK_sound E' (mv:=[]) (fun _ _ h=>h) (VR_undef φ) hw.2
        refine wpAnyH_take ho hs hfree (by rw [hr];simpa using hmem) (hq undef) (.inr ⟨hw.1,rfl⟩) (fun hh=>(hag hh).1) ?_
        exact anyK_sound hs hQp w0 hW n _ h7 S hn0 hag h6 hn
    · refine wpAnyH_all hr (by simp) fun j hj=>?_
      have hkj:=allK_mem hk j hj
      split at hkj
      · rename_i o ho
        cases held with
        | false =>
         refine stepK_sound hG hC ho E S (stepA_stepK hkj) fun e' h' φ' a' w' k1 E1 S1 X1=>⟨(fun h=>by cases h),?_⟩
         exact anyK_sound hs hQp w0 hW n _ E1 S1 (Nat.le_trans hn0 X1.len) (fun h=>by cases h) k1 (fun e2 h2 φ2 a2 w2 k2 E2 S2 X2=>hn _ _ _ _ _ k2 E2 S2 (X1.trans X2))
        | true =>
         obtain ⟨g1,g2,g3⟩:=hag rfl
         unfold wpOp
         split
         · rename_i ho';rw [ho] at ho';cases ho'
         rename_i o2 ho'
         rw [ho] at ho';cases ho'
         unfold stepA at hkj
         obtain ⟨e',E',hw | hw⟩:=guardK_sound E hkj
         · rw [if_pos hw.1]
           obtain ⟨hcalm',hw2⟩:=cond_prop hw.2
           refine .inl ((calm_sound hG hC E' S (by simpa using hcalm') hw2).wp fun v' w' hp=>?_)
           obtain ⟨v,h',mv,φ',h1,h2,h3,h4,h5,h6,h7,h8⟩:=hp
           obtain ⟨e2,h9,h10⟩:=putK_sound E' h5 h2 h1
           have hag':Agree w0 w':=fun m hm=>by rw [h6 m (by omega),g1 m hm]
           refine ⟨fun _=>hag',anyK_sound hs hQp w0 hW n _ h10 h3 (Nat.le_trans hn0 h4.len) (fun _=>⟨hag',Nat.le_trans g2 h4.size,fun i o p hi ho hp hne=>?_⟩) h9
            (fun e2 h2 φ2 a2 w2 k2 E2 S2 X2=>hn _ _ _ _ _ k2 E2 S2 (h4.trans X2))⟩
           rw [h8 i (by omega)] at ho
           rw [h7 i (by omega)] at hp
           exact g3 i o p hi ho hp hne
         · rw [if_neg (by rw [hw.1];simp)]
           obtain ⟨e2,h6,h7⟩:=putK_sound E' (mv:=[]) (fun _ _ h=>h) (VR_undef φ) hw.2
           exact ⟨fun _=>g1,anyK_sound hs hQp w0 hW n _ h7 S hn0 (fun _=>⟨g1,g2,g3⟩) h6 hn⟩
      · exact hkj.elim
end

/-! ### a region that draws its order,some blocks held: those that its calls do not reach -/
def addrH (e:Env) (hs:List Nat):Op → Bool
 | .load _ x=>match ev e x with
  | some (.pointer (some a))=>match a.spot with
   | none=>true
   | some _=>memB a.block hs
  | some (.tuple _)=>true
  | _=>false
 | _=>true
def cellsB:AObj → Bool
 | .cells ..=>true
 | .ro ..=>true
 | _=>false
def okHS (h:AHeap):List Nat → Bool
 | []=>true
 | i :: r=>(match h[i]? with | some o=>cellsB o | none=>false) && okHS h r
def apartB:List Nat → List Nat → Bool
 | [],_=>true
 | i :: r,l=>!(memB i l) && apartB r l
/-- It writes to no held block. -/
def keepB (ro:List Nat) (e:Env) (h:AHeap) (hs:List Nat):Op → Bool
 | .alloc _=>true
 | .box _ _=>true
 | .call cl=>match cl.callee with
  | .value f=>match evL e cl.args.toList,ev e f with
   | some vs,some (.func fn fs cs)=>(match fn with | .func fid=>memB fid ro | _=>false) || apartB hs (reach 4000 h (idsVL (fs.toList ++ vs ++ cs.toList)) [])
   | _,_=>false
  | .builtin .len=>true
  | _=>false
 | _=>false
/-- The held blocks, out of sight. -/
def maskH (hs:List Nat) (h:AHeap):AHeap:=mapI (fun i o=>cond (memB i hs) .keep o) 0 h
def unmaskH (hs mv:List Nat) (h h':AHeap):AHeap:=mapI (fun i o=>cond (memB i hs) (pzOs mv (h.getD i .dead)) o) 0 h'
def keptH (h':AHeap):List Nat → Bool
 | []=>true
 | i :: r=>(match h'[i]? with | some .keep=>true | _=>false) && keptH h' r
/-- An operation, the held blocks out of sight. -/
def execM (c:Cfg) (hs:List Nat) (o:Oper) (e:Env) (h:AHeap) (k:Value → AHeap → List Nat → Prop):Prop :=
 frH (maskH hs h) fun hm=>execK c o e hm fun v h' mv=>cond (keptH h' hs) (frH (unmaskH hs mv h h') fun h'=>k v h' mv) False
noncomputable def stepM (c:Cfg) (hs:List Nat) (ops:Array Oper) (o:Oper) (e:Env) (h:AHeap) (k:Env → AHeap → Prop):Prop :=
 guardK ops o.guard e (fun e=>cond (keepB c.ro e h hs o.op) (execK c o e h fun v h' mv=>putK c.N (fun d=>modeOf (c.shut d) o.op) o.dst e v mv h' k) (execM c hs o e h fun v h' mv=>putK c.N (fun d=>modeOf (c.shut d) o.op) o.dst e v mv h' k))
  (fun e=>putK c.N (fun d=>modeOf (c.shut d) o.op) o.dst e undef [] h k)
def partB (P:Program):Op → Bool
 | .slice t _ _ _ _=>isStringT P t
 | _=>false
def firstTakeH (c:Cfg) (hs:List Nat) (ops:Array Oper) (e:Env) (listed:Array Bool):List Nat → Option Nat
 | []=>none
 | i :: r=>match ops[i]? with
  | some o=>cond ((takeB c.P true o.op || (c.more && partB c.P o.op)) && addrH e hs o.op && Region.free .any ops listed i) (some i) (firstTakeH c hs ops e listed r)
  | none=>firstTakeH c hs ops e listed r
/-- A call that may panic, in a region that draws its order: it is given no block. -/
noncomputable def callQ (c:Cfg) (f:FuncId) (s:List Value → AHeap → (AEnd → AHeap → Prop) → Prop) (args:Array Operand) (o:Oper) (e:Env) (h:AHeap) (k:Env → AHeap → Prop) (pk:Value → Env → AHeap → Prop):Prop :=
 match evL e args.toList with
 | some vs=>cond (entersB c.P f && (idsVL vs).isEmpty) (s vs [] fun en _=>match en with
  | .ret u=>cond (flat u) (putK c.N (fun d=>modeOf (c.shut d) o.op) o.dst e u [] h k) False
  | .pan u=>cond (flat u) (pk u e h) False) False
 | none=>False
noncomputable def anyH (c:Cfg) (hs:List Nat) (ops:Array Oper) (k:Env → AHeap → Prop) (pk:Value → Env → AHeap → Prop):Nat → Array Bool → Env → AHeap → Prop
 | 0,listed,e,h=>match Region.ready .any ops listed with
  | []=>k e h
  | _=>False
 | n + 1,listed,e,h=>match Region.ready .any ops listed with
  | []=>k e h
  | i :: r=>match firstTakeH c hs ops e listed (i :: r) with
   | some j=>match ops[j]? with
    | some o=>stepA c ops o (fun e=>addrH e hs o.op) e h (anyH c hs ops k pk n (listed.setIfInBounds j true))
    | none=>False
   | none=>allK (fun j=>match ops[j]? with
    | some o=>(match pcall c o.op with
     | some q=>(match o.guard with
      | none=>callQ c q.1 q.2.1 q.2.2 o e h (anyH c hs ops k pk n (listed.setIfInBounds j true)) pk
      | some _=>False)
     | none=>stepM c hs ops o e h (anyH c hs ops k pk n (listed.setIfInBounds j true)))
    | none=>False) (i :: r)

theorem firstTakeH_spec {c:Cfg} {hs:List Nat} {ops:Array Oper} {e:Env} {listed:Array Bool}:∀ {l:List Nat} {j:Nat},firstTakeH c hs ops e listed l = some j → j ∈ l ∧ ∃ o,ops[j]? = some o ∧ (takeB c.P true o.op || (c.more && partB c.P o.op)) = true ∧ addrH e hs o.op = true ∧ Region.free .any ops listed j = true
 | [],_,h=>by cases h
 | i :: r,j,h=>by
  simp only [firstTakeH] at h
  split at h
  · rename_i o ho
    cases hb:(takeB c.P true o.op || (c.more && partB c.P o.op)) && addrH e hs o.op && Region.free .any ops listed i with
    | true =>
     rw [hb] at h;cases h
     simp only [Bool.and_eq_true] at hb
     exact ⟨List.mem_cons_self,o,ho,hb.1.1,hb.1.2,hb.2⟩
    | false =>
     rw [hb] at h
     obtain ⟨h1,h2⟩:=firstTakeH_spec h
     exact ⟨List.mem_cons_of_mem _ h1,h2⟩
  · obtain ⟨h1,h2⟩:=firstTakeH_spec h
    exact ⟨List.mem_cons_of_mem _ h1,h2⟩
theorem apartB_mem {l:List Nat}:∀ {hs:List Nat},apartB hs l = true → ∀ i ∈ hs,memB i l = false
 | [],_,i,h=>by cases h
 | j :: r,hk,i,h=>by
  simp only [apartB,Bool.and_eq_true,Bool.not_eq_true'] at hk
  rcases List.mem_cons.1 h with rfl | h
  · exact hk.1
  · exact apartB_mem hk.2 i h
theorem okHS_mem {h:AHeap}:∀ {hs:List Nat},okHS h hs = true → ∀ i ∈ hs,∃ o,h[i]? = some o ∧ cellsB o = true
 | [],_,i,h=>by cases h
 | j :: r,hk,i,h=>by
  simp only [okHS,Bool.and_eq_true] at hk
  rcases List.mem_cons.1 h with rfl | h
  · have:=hk.1
    split at this
    · exact ⟨_,‹_›,this⟩
    · cases this
  · exact okHS_mem hk.2 i h
/-- What was there when the law began, and the held blocks, are as they were. -/
def HeldW (W0:World) (hs:List Nat) (φ0:Phi) (w0 w2:World):Prop:=(∀ n,n < W0.heap.size → w2.heap[n]? = W0.heap[n]?) ∧ ∀ i ∈ hs,∀ p,φ0[i]? = some p → w2.heap[p.b]? = w0.heap[p.b]?
/-- The held blocks lie where they lay. -/
def HeldA (hs:List Nat) (φ0 φ:Phi) (h:AHeap):Prop:=∀ i ∈ hs,φ[i]? = φ0[i]? ∧ ∃ o,h[i]? = some o ∧ cellsB o = true

theorem takeH_sound {W0:World} {c:Cfg} (hG:GOk c.G W0) {N:Nat} {φ φ0:Phi} {e:Env} {h:AHeap} {a:Act} {w w0:World} (E:EnvR N φ e a) (S:Sim W0 φ h w) {o:Oper} {hs:List Nat} (ht:(takeB c.P true o.op || (c.more && partB c.P o.op)) = true) (had:addrH e hs o.op = true)
 (hA:HeldA hs φ0 φ h) (hW:HeldW W0 hs φ0 w0 w) {k:Value → AHeap → List Nat → Prop} (hk:execK c o e h k) :
 ∃ v v',k v h [] ∧ VR φ v v' ∧ ∀ w2:World,HeldW W0 hs φ0 w0 w2 → (execOp a.eval o).run c.P w2 = .ok (.value v') w2:=by
 obtain ⟨dst,op,ty,pos,after,guard⟩:=o
 have non:takeB c.P false op = true → addrB e 0 op = true → ∃ v v',k v h [] ∧ VR φ v v' ∧ ∀ w2:World,HeldW W0 hs φ0 w0 w2 → (execOp a.eval ⟨dst,op,ty,pos,after,guard⟩).run c.P w2 = .ok (.value v') w2:=fun h1 h2=>by
  obtain ⟨v,v',g1,g2,g3⟩:=take_sound (held:=false) (n0:=0) (w0:=w0) hG E S h1 h2 (fun h=>by cases h) (fun h=>by cases h) (fun h=>by cases h) hk
  exact ⟨v,v',g1,g2,fun w2 _=>g3 w2 (fun h=>by cases h)⟩
 cases op
 case slice t x lo hi mx =>
  have ht:isStringT c.P t = true:=by
   have:(c.more && isStringT c.P t) = true:=ht
   rw [Bool.and_eq_true] at this
   exact this.2
  simp only [execK] at hk
  obtain ⟨v,h1,h2⟩:=evK_spec hk
  split at h2
  · exfalso
    clear hk
    have hst:isStringT c.P t = true:=ht
    clear ht
    unfold sliceGK at h2
    unfold isStringT at hst
    split at h2
    · split at h2
      · rename_i hu
        rw [hu] at hst
        cases hst
      · exact h2
    · exact h2
  split at h2
  · rename_i l hh m h3 h4 h5
    obtain ⟨r,r',a1,a2,a3⟩:=sliceS_all ht h2 (ev_sound E h1) (evO_sound E h3) (evO_sound E h4) (evO_sound E h5)
    exact ⟨_,_,a1,a2,fun w2 _=>run_v (a3 w2)⟩
  · exact h2.elim
 case load t x =>
  simp only [execK] at hk
  obtain ⟨v,h1,h2⟩:=evK_spec hk
  obtain ⟨u,u',b,a1,a2,a4,a3⟩:=load_sound S hG h2 (ev_sound E h1)
  refine ⟨_,_,a1,a2,fun w2 hw=>run_v (a3 w2 ?_)⟩
  obtain ⟨ad,rfl,h5 | ⟨⟨s,h5⟩,p,o,h6,h7,h8,h9⟩⟩:=a4
  · rw [hw.1 b (by omega),hW.1 b (by omega)]
  · have had:addrH e hs (.load t x) = true:=had
    simp only [addrH,h1,h5] at had
    have hm:=memB_iff.1 had
    have hp:φ0[ad.block]? = some p:=by rw [← (hA _ hm).1];exact h6
    rw [← h9,hw.2 _ hm p hp,hW.2 _ hm p hp]
 all_goals
  rw [Bool.or_eq_true,Bool.and_eq_true] at ht
  rcases ht with ht | ⟨_,ht⟩
  · first | exact non ht rfl | (cases ht)
  · cases ht

theorem pzOs_cells (l:List Nat) (o:AObj):cellsB (pzOs l o) = cellsB o:=by
 cases l with
 | nil=>rfl
 | cons i r=>cases o with
  | cells fl vs t mv=>cases fl <;> rfl
  | _=>rfl

theorem HeldA.there {W0:World} {φ φ0:Phi} {h:AHeap} {w:World} (S:Sim W0 φ h w) {hs:List Nat} (hA:HeldA hs φ0 φ h) {i:Nat} (hi:i ∈ hs) {p:PB} (hp:φ0[i]? = some p):p.b < w.heap.size:=by
 obtain ⟨h1,o,h2,h3⟩:=hA i hi
 have hp':φ[i]? = some p:=by rw [h1];exact hp
 have hb:=S.blk i o p h2 hp'
 cases o with
 | cells=>exact hb.there rfl
 | ro=>exact Nat.lt_of_lt_of_le hb.1 S.size
 | _=>cases h3
mutual
theorem VR_noids {φ ψ:Phi}:∀ {v v':Value},idsV v = [] → VR φ v v' → VR ψ v v'
 | .pointer (some ⟨b,o,none⟩),_,_,h=>by simpa [VR] using h
 | .pointer (some ⟨b,o,some s⟩),_,hi,_=>by simp [idsV] at hi
 | .slice (some ⟨b,o,none⟩) n c,_,_,h=>by simpa [VR] using h
 | .slice (some ⟨b,o,some s⟩) n c,_,hi,_=>by simp [idsV] at hi
 | .map (some r),_,hi,_=>by simp [idsV] at hi
 | .chan (some _),_,_,_=>by simp [VR]
 | .func fn ⟨f⟩ ⟨c⟩,_,hi,h=>by
  simp only [idsV,idsVA,List.append_eq_nil_iff] at hi
  obtain ⟨f',c',rfl,h1,h2⟩:=h
  exact ⟨f',c',rfl,VRL_noids hi.1 h1,VRL_noids hi.2 h2⟩
 | .iface t v,_,hi,h=>by
  obtain ⟨u,rfl,hu⟩:=h
  exact ⟨u,rfl,VR_noids (by simpa [idsV] using hi) hu⟩
 | .agg ⟨cs⟩,_,hi,h=>by
  obtain ⟨c',rfl,h1⟩:=h
  exact ⟨c',rfl,VRL_noids (by simpa [idsV,idsVA] using hi) h1⟩
 | .tuple ⟨cs⟩,_,hi,h=>by
  obtain ⟨c',rfl,h1⟩:=h
  exact ⟨c',rfl,VRL_noids (by simpa [idsV,idsVA] using hi) h1⟩
 | .bool _,_,_,h=>by simpa [VR] using h
 | .int _ _,_,_,h=>by simpa [VR] using h
 | .float _ _,_,_,h=>by simpa [VR] using h
 | .complex _ _ _,_,_,h=>by simpa [VR] using h
 | .string _,_,_,h=>by simpa [VR] using h
 | .pointer none,_,_,h=>by simpa [VR] using h
 | .slice none _ _,_,_,h=>by simpa [VR] using h
 | .map none,_,_,h=>by simpa [VR] using h
 | .chan none,_,_,h=>by simpa [VR] using h
 | .nilFunc,_,_,h=>by simpa [VR] using h
 | .nilIface,_,_,h=>by simpa [VR] using h
theorem VRL_noids {φ ψ:Phi}:∀ {l l':List Value},idsVL l = [] → VRL φ l l' → VRL ψ l l'
 | [],_,_,h=>h
 | v :: vs,_,hi,h=>by
  simp only [idsVL,List.append_eq_nil_iff] at hi
  obtain ⟨u,us,rfl,h1,h2⟩:=h
  exact ⟨u,us,rfl,VR_noids hi.1 h1,VRL_noids hi.2 h2⟩
end
def KeepPost (W0:World) (hs:List Nat) (φ0 φ:Phi) (h:AHeap) (w:World) (k:Value → AHeap → List Nat → Prop) (v':Value) (w':World):Prop :=
 ∃ v h' mv φ',k v h' mv ∧ VR φ' v v' ∧ Sim W0 φ' h' w' ∧ Ext φ h w φ' h' w' ∧ (∀ u u',VR φ u u' → VR φ' (pzVs mv u) u') ∧ HeldA hs φ0 φ' h' ∧ ∀ i ∈ hs,∀ p,φ0[i]? = some p → w'.heap[p.b]? = w.heap[p.b]?

theorem keep_sound {W0:World} {c:Cfg} (hG:GOk c.G W0) (hC:SoundC c W0) {N:Nat} {φ φ0:Phi} {e:Env} {h:AHeap} {a:Act} {w:World} (E:EnvR N φ e a) (S:Sim W0 φ h w) {hs:List Nat} (hA:HeldA hs φ0 φ h) {o:Oper} (hc:keepB c.ro e h hs o.op = true)
 {k:Value → AHeap → List Nat → Prop} (hk:execK c o e h k):Does c.P o a w (KeepPost W0 hs φ0 φ h w k):=by
 have there:∀ i ∈ hs,∀ p,φ0[i]? = some p → ∃ o,h[i]? = some o ∧ cellsB o = true ∧ φ[i]? = some p ∧ p.b < w.heap.size:=by
  intro i hi p hp
  obtain ⟨h1,o,h2,h3⟩:=hA i hi
  have hp':φ[i]? = some p:=by rw [h1];exact hp
  refine ⟨o,h2,h3,hp',?_⟩
  have hb:=S.blk i o p h2 hp'
  cases o with
  | cells=>exact hb.there rfl
  | ro=>exact Nat.lt_of_lt_of_le hb.1 S.size
  | _=>cases h3
 have calm:calmB e o.op = true → Does c.P o a w (KeepPost W0 hs φ0 φ h w k):=fun hcl=>(calm_sound hG hC E S hcl hk).mono fun v' w' ⟨v,h',mv,φ',h1,h2,h3,h4,h5,h6,h7,h8⟩=>by
  refine ⟨v,h',mv,φ',h1,h2,h3,h4,h5,fun i hi=>?_,fun i hi p hp=>?_⟩
  · obtain ⟨g1,o,g2,g3⟩:=hA i hi
    have hl:i < h.length:=(List.getElem?_eq_some_iff.1 g2).1
    exact ⟨(h7 i hl).trans g1,o,(h8 i hl).trans g2,g3⟩
  · obtain ⟨_,_,_,_,hb⟩:=there i hi p hp
    exact h6 _ hb
 obtain ⟨dst,op,ty,pos,after,guard⟩:=o
 cases op
 case alloc t=>exact calm rfl
 case box t x=>exact calm rfl
 case call cl =>
  simp only [keepB] at hc
  simp only [execK] at hk
  obtain ⟨callee,args,argTypes⟩:=cl
  cases callee with
  | invoke r m=>cases hc
  | builtin b =>
   cases b <;> first | cases hc | skip
   simp only at hk
   split at hk
   · rename_i vs hvs
     have hargs:=evL_sound E hvs
     have hargs':VRL φ vs (args.map a.eval).toList:=by simpa using hargs
     have hrun:∀ {r:Result Next},(builtin .len argTypes ty (args.map fun | .const _=>true | _=>false) (args.map a.eval)).run c.P w = r → (execOp a.eval ⟨dst,.call ⟨.builtin .len,args,argTypes⟩,ty,pos,after,guard⟩).run c.P w = r:=fun h=>by
      rw [← h];exact run_resolve_builtin a.eval .len args argTypes ty w
     simp only [builtinK] at hk
     split at hk
     · rename_i x
       split at hk
       · rename_i t ht
         obtain ⟨u,us,e1,hx,hnil⟩:=hargs'
         simp only [VRL] at hnil
         subst hnil
         have e2:args.map a.eval = #[u]:=Array.toList_inj.1 e1
         rcases len_sound (ty:=ty) ht hk hx w with hp | ⟨v,b1,b2,b3⟩
         · obtain ⟨v,b1,b2,b3⟩:=pure_sound E (by simp) hp
           exact .value (b3 w) ⟨_,_,_,φ,b1,(VR_flat φ _ _ b2).2 rfl,S,Ext.refl _ _ _,fun _ _ h=>h,hA,fun _ _ _ _=>rfl⟩
         · exact .value (hrun (by rw [e2];exact run_v b3)) ⟨_,_,_,φ,b1,(VR_flat φ _ _ b2).2 rfl,S,Ext.refl _ _ _,fun _ _ h=>h,hA,fun _ _ _ _=>rfl⟩
       · exact hk.elim
     · exact hk.elim
   · exact hk.elim
  | value f =>
   simp only at hc hk
   split at hk
   · rename_i vs hvs
     have hargs:=evL_sound E hvs
     have hargs':VRL φ vs (args.map a.eval).toList:=by simpa using hargs
     obtain ⟨fv,h1,h2⟩:=evK_spec hk
     have hf:=ev_sound E h1
     split at h2
     · rename_i fid first captured
       simp only [hvs,h1] at hc
       obtain ⟨f',c',e1,g1,g2⟩:=hf
       cases hb:entersB c.P fid with
       | false =>
        rw [hb] at h2
        obtain ⟨v,b1,b2,b3⟩:=pure_sound E (by simp) h2
        exact .value (b3 w) ⟨_,_,_,φ,b1,(VR_flat φ _ _ b2).2 rfl,S,Ext.refl _ _ _,fun _ _ h=>h,hA,fun _ _ _ _=>rfl⟩
       | true =>
        rw [hb] at h2
        have g1:VRL φ first.toList f'.toList:=by cases first;exact g1
        have g2:VRL φ captured.toList c'.toList:=by cases captured;exact g2
        refine ⟨.enter fid (f' ++ args.map a.eval ++ c'),w,?_,?_⟩
        · simp only [execOp,resolve,run_bind,e1,Deferred.ofValue,run_pure,invoke]
          exact entersB_run hb _ w
        · rw [cond_true] at h2
          cases hr:memB fid c.ro with
          | true =>
           rw [hr] at h2
           refine (callRo_sound hG hC S h2 (by simpa using VRL_append (VRL_append g1 hargs') g2)).mono ?_
           rintro e w' ⟨v',rfl,v,a1,a2,a3,a4,a5⟩
           exact ⟨v',rfl,v,h,[],φ,a1,a2,a3,Ext.after a4 a5,fun _ _ h=>h,hA,fun i hi p hp=>by
            obtain ⟨_,_,_,_,hb⟩:=there i hi p hp
            exact a5 _ hb⟩
          | false =>
          rw [hr,cond_false] at h2
          rw [hr,Bool.false_or] at hc
          unfold callK at h2
          rw [frI_eq] at h2
          revert h2 hc
          generalize reach 4000 h (idsVL (first.toList ++ vs ++ captured.toList)) [] = ι
          intro h2 hc
          unfold callK' at h2
          obtain ⟨hcl,h2⟩:=cond_prop h2
          rw [frH_eq] at h2
          simp only [Bool.and_eq_true] at hcl
          refine ((hC _ (.inl rfl)).1 _ _ _ _ h2 _ w _ (S.pull true hcl.1) (VRL_pull hcl.2 (by simpa using VRL_append (VRL_append g1 hargs') g2))).mono ?_
          rintro e w' ⟨v',u,h1',φ1,rfl,hK,hv,S1,E1⟩
          rw [frH_eq] at hK
          obtain ⟨m1,m2,m3,m4⟩:=merge S hcl.1 S1 E1
          refine ⟨v',rfl,_,_,_,_,hK,m3 u v' hv,m1,m2,m4,fun i hi=>?_,fun i hi p hp=>?_⟩
          · obtain ⟨q1,o,q2,q3⟩:=hA i hi
            have hl:i < h.length:=(List.getElem?_eq_some_iff.1 q2).1
            have hm:=apartB_mem hc i hi
            refine ⟨?_,pzOs (movedIds ι h1') o,?_,by rw [pzOs_cells];exact q3⟩
            · rw [mergeP,List.getElem?_append_left (by rw [mapI_length,S.len];exact hl),mapI_get,Nat.zero_add,hm,← q1]
              cases φ[i]? <;> rfl
            · rw [mergeH,List.getElem?_append_left (by rw [mapI_length];exact hl),mapI_get,Nat.zero_add,q2]
              show some (mergeO ι h.length h1' i o) = _
              rw [mergeO,hm];rfl
          · obtain ⟨o,q2,q3,hp',hbl⟩:=there i hi p hp
            have hm:=memB_false.1 (apartB_mem hc i hi)
            refine E1.rest p.b hbl fun t p' hl' ht' hpe=>?_
            obtain ⟨i',r1,r2⟩:=pullH_live hcl.1 hl'
            obtain ⟨i2,r3,r4⟩:=pullP_at S hcl.1 ht'
            rw [r1] at r3;cases r3
            have hbk:=S.blk i o p q2 hp'
            cases o with
            | cells fl vs' t' mv' =>
             have:i' = i:=S.inj i' i p' p r2 (by simp only [liveB,q2];rfl) r4 hp' hpe
             subst this
             exact hm (List.mem_of_getElem? r1)
            | ro vs' t' =>
             obtain ⟨o',s1,s2⟩:=liveB_some r2
             have:=(S.blk i' o' p' s1 r4).base s2
             have:=hbk.1
             omega
            | _=>cases q3
     · exact h2.elim
   · exact hk.elim
 all_goals cases hc

theorem maskH_get {hs:List Nat} {h:AHeap} {i:Nat} {o:AObj} (ho:(maskH hs h)[i]? = some o):∃ o',h[i]? = some o' ∧ ((memB i hs = true ∧ o = .keep) ∨ (memB i hs = false ∧ o = o')):=by
 unfold maskH at ho
 rw [mapI_get,Nat.zero_add] at ho
 cases hh:h[i]? with
 | none=>rw [hh] at ho;cases ho
 | some o' =>
  rw [hh] at ho
  simp only [Option.map_some,Option.some.injEq] at ho
  cases hm:memB i hs with
  | true=>rw [hm] at ho;exact ⟨o',rfl,.inl ⟨rfl,ho.symm⟩⟩
  | false=>rw [hm] at ho;exact ⟨o',rfl,.inr ⟨rfl,ho.symm⟩⟩
theorem maskH_len (hs:List Nat) (h:AHeap):(maskH hs h).length = h.length:=mapI_length _ _ _
theorem maskH_live {hs:List Nat} {h:AHeap} {i:Nat} (hl:liveB (maskH hs h) i = true):liveB h i = true ∧ memB i hs = false:=by
 obtain ⟨o,h1,h2⟩:=liveB_some hl
 obtain ⟨o',h3,⟨_,rfl⟩ | ⟨h4,rfl⟩⟩:=maskH_get h1
 · cases h2
 · exact ⟨by simp [liveB,h3,h2],h4⟩
theorem Sim.mask {W0:World} {φ:Phi} {h:AHeap} {w:World} (S:Sim W0 φ h w) {hs:List Nat} (hin:∀ i ∈ hs,∃ o,h[i]? = some o ∧ cellsB o = true):Sim W0 φ (maskH hs h) w:=by
 refine ⟨S.os,S.tape,S.out,S.size,S.old,by rw [maskH_len];exact S.len,fun i o p ho hp=>?_,fun i j p q h1 h2=>S.inj i j p q (maskH_live h1).1 (maskH_live h2).1⟩
 obtain ⟨o',h3,⟨h4,rfl⟩ | ⟨h4,rfl⟩⟩:=maskH_get ho
 · obtain ⟨o2,h5,h6⟩:=hin i (memB_iff.1 h4)
   rw [h3] at h5;cases h5
   have hb:=S.blk i o' p h3 hp
   cases o' with
   | cells=>exact hb.there rfl
   | ro=>exact Nat.lt_of_lt_of_le hb.1 S.size
   | _=>cases h6
 · exact S.blk i o p h3 hp
theorem VRL_pzL {φ ψ:Phi} (i:Nat → Bool) (hm:∀ u u',VR φ u u' → VR ψ (pz i u) u'):∀ {l l':List Value},VRL φ l l' → VRL ψ (pzL i l) l'
 | [],_,h=>h
 | v :: vs,_,h=>by
  obtain ⟨u,us,rfl,h1,h2⟩:=h
  exact ⟨u,us,rfl,hm _ _ h1,VRL_pzL i hm h2⟩
theorem VRL_all {φ ψ:Phi} (hm:∀ u u',VR φ u u' → VR ψ u u'):∀ {l l':List Value},VRL φ l l' → VRL ψ l l'
 | [],_,h=>h
 | v :: vs,_,h=>by
  obtain ⟨u,us,rfl,h1,h2⟩:=h
  exact ⟨u,us,rfl,hm _ _ h1,VRL_all hm h2⟩
theorem BlkOk.held {W0:World} {φ ψ:Phi} {p:PB} {o:AObj} {w:World} {mv:List Nat} (hc:cellsB o = true) (hm:∀ u u',VR φ u u' → VR ψ (pzVs mv u) u') (h:BlkOk W0 φ p o w):BlkOk W0 ψ p (pzOs mv o) w:=by
 cases o with
 | ro vs t=>cases mv <;> exact h
 | cells fl vs t b =>
  obtain ⟨h1,h3,cs,fr,h4,h5,h6,pre,us,rest,h7,h9,h10,h8⟩:=h
  cases mv with
  | nil=>exact ⟨h1,h3,cs,fr,h4,h5,h6,pre,us,rest,h7,h9,h10,VRL_all hm h8⟩
  | cons i r =>
   cases fl with
   | true=>exact ⟨h1,h3,cs,fr,h4,h5,h6,pre,us,rest,h7,h9,h10,(VRL_flat ψ vs us (h3 rfl)).2 ((VRL_flat φ vs us (h3 rfl)).1 h8)⟩
   | false=>exact ⟨h1,(fun e=>by cases e),cs,fr,h4,h5,h6,pre,us,rest,h7,h9,h10,VRL_pzL _ hm h8⟩
 | _=>cases hc
theorem keptH_mem {h':AHeap}:∀ {hs:List Nat},keptH h' hs = true → ∀ i ∈ hs,h'[i]? = some .keep
 | [],_,i,h=>by cases h
 | j :: r,hk,i,h=>by
  simp only [keptH,Bool.and_eq_true] at hk
  rcases List.mem_cons.1 h with rfl | h
  · have:=hk.1
    split at this
    · assumption
    · cases this
  · exact keptH_mem hk.2 i h
theorem unmaskH_get {hs mv:List Nat} {h h':AHeap} {i:Nat} {o:AObj} (ho:(unmaskH hs mv h h')[i]? = some o):∃ o',h'[i]? = some o' ∧ ((memB i hs = true ∧ o = pzOs mv (h.getD i .dead)) ∨ (memB i hs = false ∧ o = o')):=by
 unfold unmaskH at ho
 rw [mapI_get,Nat.zero_add] at ho
 cases hh:h'[i]? with
 | none=>rw [hh] at ho;cases ho
 | some o' =>
  rw [hh] at ho
  simp only [Option.map_some,Option.some.injEq] at ho
  cases hm:memB i hs with
  | true=>rw [hm] at ho;exact ⟨o',rfl,.inl ⟨rfl,ho.symm⟩⟩
  | false=>rw [hm] at ho;exact ⟨o',rfl,.inr ⟨rfl,ho.symm⟩⟩

theorem mask_sound {W0:World} {c:Cfg} (hG:GOk c.G W0) (hC:SoundC c W0) {N:Nat} {φ φ0:Phi} {e:Env} {h:AHeap} {a:Act} {w:World} (E:EnvR N φ e a) (S:Sim W0 φ h w) {hs:List Nat} (hA:HeldA hs φ0 φ h) {o:Oper}
 {k:Value → AHeap → List Nat → Prop} (hk:execM c hs o e h k):Does c.P o a w (KeepPost W0 hs φ0 φ h w k):=by
 have S':=S.mask fun i hi=>(hA i hi).2
 unfold execM at hk
 rw [frH_eq] at hk
 refine (exec_sound hG hC E S' hk).mono fun v' w' ⟨v,h',mv,φ',h1,h2,h3,h4,h5⟩=>?_
 obtain ⟨hkept,h1⟩:=cond_prop h1
 rw [frH_eq] at h1
 have kept:=keptH_mem hkept
 -- a held block: where it lies,what it holds
 have held:∀ i ∈ hs,∃ o p,h[i]? = some o ∧ cellsB o = true ∧ φ[i]? = some p ∧ φ'[i]? = some p ∧ w'.heap[p.b]? = w.heap[p.b]?:=by
  intro i hi
  obtain ⟨h7,o,h8,h9⟩:=hA i hi
  obtain ⟨p,hp⟩:=S.some_of h8
  have hlt:i < h.length:=(List.getElem?_eq_some_iff.1 h8).1
  refine ⟨o,p,h8,h9,hp,?_,?_⟩
  · rcases h4.place i (by rw [maskH_len];exact hlt) with e1 | e1
    · rw [e1];exact hp
    · simp [movedB,kept i hi,AObj.movedB] at e1
  · have hb:=S.blk i o p h8 hp
    have hpb:p.b < w.heap.size:=by
     cases o with
     | cells=>exact hb.there rfl
     | ro=>exact Nat.lt_of_lt_of_le hb.1 S.size
     | _=>cases h9
    refine h4.rest p.b hpb fun j q hj hq hpe=>?_
    obtain ⟨hj1,hj2⟩:=maskH_live hj
    cases o with
    | cells =>
     have:=S.inj j i q p hj1 (by simp [liveB,h8,AObj.liveB]) hq hp hpe
     subst this
     rw [memB_iff.2 hi] at hj2;cases hj2
    | ro =>
     obtain ⟨oj,hj3,hj4⟩:=liveB_some hj1
     have:=(S.blk j oj q hj3 hq).base hj4
     have:=hb.1
     omega
    | _=>cases h9
 have hlen:(unmaskH hs mv h h').length = h'.length:=mapI_length _ _ _
 have getD:∀ {i:Nat} {o:AObj},h[i]? = some o → h.getD i .dead = o:=fun ho=>by rw [List.getD_eq_getElem?_getD,ho];rfl
 -- live blocks
 have live:∀ {i:Nat} {p:PB},liveB (unmaskH hs mv h h') i = true → φ'[i]? = some p → (i ∈ hs ∧ liveB h i = true ∧ φ[i]? = some p) ∨ (i ∉ hs ∧ liveB h' i = true):=by
  intro i p hl hp
  obtain ⟨o,h7,h8⟩:=liveB_some hl
  obtain ⟨o',h9,⟨h10,rfl⟩ | ⟨h10,rfl⟩⟩:=unmaskH_get h7
  · have hi:=memB_iff.1 h10
    obtain ⟨o2,p2,g1,g2,g3,g4,g5⟩:=held i hi
    rw [hp] at g4;cases g4
    rw [getD g1,pzOs_liveB] at h8
    exact .inl ⟨hi,by simp [liveB,g1,h8],g3⟩
  · exact .inr ⟨memB_false.1 h10,by simp [liveB,h9,h8]⟩
 have cross:∀ {i j:Nat} {p q:PB},i ∈ hs → liveB h i = true → φ[i]? = some p → j ∉ hs → liveB h' j = true → φ'[j]? = some q → p.b = q.b → False:=by
  intro i j p q a1 a2 a3 b1 b2 b3 e
  obtain ⟨oi,hoi,hli⟩:=liveB_some a2
  have hpb:=(S.blk i oi p hoi a3).there hli
  rcases h4.fresh j q b2 b3 with c1 | ⟨j',q',c1,c2,c3⟩
  · omega
  · obtain ⟨d1,d2⟩:=maskH_live c1
    have:=S.inj i j' p q' a2 d1 a3 c2 (by omega)
    subst this
    rw [memB_iff.2 a1] at d2;cases d2
 refine ⟨v,_,mv,φ',h1,h2,⟨h3.os,h3.tape,h3.out,h3.size,h3.old,by rw [hlen];exact h3.len,fun i o p ho hp=>?_,fun i j p q g1 g2 g3 g4 g5=>?_⟩,⟨?_,h4.size,fun i hi=>?_,fun i hi hm=>?_,fun i p g1 g2=>?_,fun n hn hne=>?_⟩,h5,fun i hi=>?_,fun i hi p hp=>?_⟩
 · obtain ⟨o',h9,⟨h10,rfl⟩ | ⟨h10,rfl⟩⟩:=unmaskH_get ho
   · obtain ⟨o2,p2,g1,g2,g3,g4,g5⟩:=held i (memB_iff.1 h10)
     rw [hp] at g4;cases g4
     rw [getD g1]
     exact ((S.blk i o2 p g1 g3).congr g5).held g2 h5
   · exact h3.blk i o p h9 hp
 · rcases live g1 g3 with ⟨a1,a2,a3⟩ | ⟨a1,a2⟩ <;> rcases live g2 g4 with ⟨b1,b2,b3⟩ | ⟨b1,b2⟩
   · exact S.inj i j p q a2 b2 a3 b3 g5
   · exact (cross a1 a2 a3 b1 b2 g4 g5).elim
   · exact (cross b1 b2 b3 a1 a2 g3 g5.symm).elim
   · exact h3.inj i j p q a2 b2 g3 g4 g5
 · rw [hlen];have:=h4.len;rwa [maskH_len] at this
 · by_cases hi':i ∈ hs
   · obtain ⟨o2,p2,g1,g2,g3,g4,g5⟩:=held i hi'
     exact .inl (by rw [g3,g4])
   · rcases h4.place i (by rw [maskH_len];exact hi) with e1 | e1
     · exact .inl e1
     · right
       simp only [movedB,unmaskH,mapI_get,Nat.zero_add,memB_false.2 hi'] at e1 ⊢
       cases hh:h'[i]? <;> simp_all
 · by_cases hi':i ∈ hs
   · obtain ⟨o2,p2,g1,g2,g3,g4,g5⟩:=held i hi'
     simp only [movedB,unmaskH,mapI_get,Nat.zero_add,memB_iff.2 hi',kept i hi',Option.map_some,cond_true,getD g1,pzOs_movedB]
     simpa [movedB,g1] using hm
   · have hm':movedB (maskH hs h) i = true:=by
      simp only [movedB,maskH,mapI_get,Nat.zero_add,memB_false.2 hi'] at hm ⊢
      cases hh:h[i]? <;> simp_all
     have e1:=h4.moved i (by rw [maskH_len];exact hi) hm'
     simp only [movedB,unmaskH,mapI_get,Nat.zero_add,memB_false.2 hi'] at e1 ⊢
     cases hh:h'[i]? <;> simp_all
 · rcases live g1 g2 with ⟨a1,a2,a3⟩ | ⟨a1,a2⟩
   · exact .inr ⟨i,p,a2,a3,rfl⟩
   · rcases h4.fresh i p a2 g2 with c1 | ⟨j',q',c1,c2,c3⟩
     · exact .inl c1
     · exact .inr ⟨j',q',(maskH_live c1).1,c2,c3⟩
 · exact h4.rest n hn fun i p g1 g2=>hne i p (maskH_live g1).1 g2
 · obtain ⟨o2,p2,g1,g2,g3,g4,g5⟩:=held i hi
   refine ⟨by rw [g4,← g3];exact (hA i hi).1,pzOs mv o2,?_,by rw [pzOs_cells];exact g2⟩
   simp only [unmaskH,mapI_get,Nat.zero_add,memB_iff.2 hi,kept i hi,Option.map_some,cond_true,getD g1]
 · obtain ⟨o2,p2,g1,g2,g3,g4,g5⟩:=held i hi
   have:p = p2:=by rw [← (hA i hi).1,g3] at hp;exact (Option.some.inj hp).symm
   subst this
   exact g5

section
variable {W0:World} {c:Cfg} (hG:GOk c.G W0) (hC:SoundC c W0)
include hG hC

theorem anyH_sound {hs:List Nat} {ops:Array Oper} (hns:Region.noSelect ops = true) {k:Env → AHeap → Prop} {pk:Value → Env → AHeap → Prop} {Q:Exit → Act → World → Prop} (hQp:∀ (c:List PanicEntry) (a a':Act) (w:World),a'.defers = a.defers → Q (.panic c) a w → Q (.panic c) a' w) (φ0:Phi) (w0:World) :
 ∀ (n:Nat) (listed:Array Bool) {φ:Phi} {e:Env} {h:AHeap} {a:Act} {w:World},EnvR c.N φ e a → Sim W0 φ h w → HeldA hs φ0 φ h → HeldW W0 hs φ0 w0 w → anyH c hs ops k pk n listed e h →
 (∀ e' h' φ' a' w',k e' h' → EnvR c.N φ' e' a' → Sim W0 φ' h' w' → Ext φ h w φ' h' w' → Q .normal a' w') →
 (∀ v v' e' h' φ' a' w',pk v e' h' → VR φ' v v' → EnvR c.N φ' e' a' → Sim W0 φ' h' w' → Ext φ h w φ' h' w' → Q (.panic [{ v:=v',recovered:=false }]) a' w') →
 wpAnyH c.P .any ops Q (HeldW W0 hs φ0 w0) n listed a w
 | 0,listed,φ,e,h,a,w,E,S,hA,hW,hk,hn,_=>by
  simp only [anyH] at hk
  split at hk
  · rename_i hr
    exact ⟨hr,hn _ _ _ _ _ hk E S (Ext.refl _ _ _)⟩
  · exact hk.elim
 | n + 1,listed,φ,e,h,a,w,E,S,hA,hW,hk,hn,hp=>by
  simp only [anyH] at hk
  split at hk
  · rename_i hr
    exact wpAnyH_done hr (hn _ _ _ _ _ hk E S (Ext.refl _ _ _)) (n + 1)
  · rename_i i r hr
    split at hk
    · rename_i j hft
      obtain ⟨hmem,o,ho,htk,had,hfree⟩:=firstTakeH_spec hft
      rw [ho] at hk
      simp only at hk
      unfold stepA at hk
      have hq:∀ v c a w,Q (.panic c) (a.put o.dst v) w → Q (.panic c) a w:=fun v c a w hq=>hQp c _ _ w (by cases o.dst <;> rfl) hq
      obtain ⟨e',E',hw | hw⟩:=guardK_sound E hk
      · obtain ⟨hw1,hw2⟩:=hw
        obtain ⟨had',hw2⟩:=cond_prop hw2
        obtain ⟨v,v',h1,h2,h3⟩:=takeH_sound hG E' S htk had' hA hW hw2
        obtain ⟨e2,h6,h7⟩:=putK_sound E' (mv:=[]) (fun _ _ h=>h) h2 h1
        refine wpAnyH_take ho hns hfree (by rw [hr];simpa using hmem) (hq v') (.inl ⟨hw1,h3⟩) hW ?_
        exact anyH_sound hns hQp φ0 w0 n _ h7 S hA hW h6 hn hp
      · obtain ⟨e2,h6,h7⟩:=putK_sound E' (mv:=[]) (fun _ _ h=>h) (VR_undef φ) hw.2
        refine wpAnyH_take ho hns hfree (by rw [hr];simpa using hmem) (hq undef) (.inr ⟨hw.1,rfl⟩) hW ?_
        exact anyH_sound hns hQp φ0 w0 n _ h7 S hA hW h6 hn hp
    · refine wpAnyH_all hr (by simp) fun j hj=>?_
      have hkj:=allK_mem hk j hj
      split at hkj
      · rename_i o ho
        unfold wpOp
        split
        · rename_i ho';rw [ho] at ho';cases ho'
        rename_i o2 ho'
        rw [ho] at ho';cases ho'
        split at hkj
        · rename_i q hq
          split at hkj
          rotate_left
          · exact hkj.elim
          rename_i hg
          obtain ⟨f,s,args⟩:=q
          unfold callQ at hkj
          split at hkj
          rotate_left
          · exact hkj.elim
          rename_i vs hvs
          obtain ⟨hb,hkj⟩:=cond_prop hkj
          rw [Bool.and_eq_true] at hb
          obtain ⟨hb,hids⟩:=hb
          have hids:idsVL vs = []:=by simpa using hids
          have hargs:=evL_sound E hvs
          have hargs':VRL φ vs (args.map a.eval).toList:=by simpa using hargs
          obtain ⟨cl,hop,hcal,hcarg,hpc⟩:=pcall_spec hq
          have hcall:=(hC _ (.inl rfl)).2 f s hpc _ _ _ hkj φ w (args.map a.eval)
          rw [if_pos (by simp [Region.wanted,hg])]
          refine .inl ?_
          unfold Oper.wp
          rw [pcall_run hop hcal hcarg hb a w,Oper.upon_enter]
          obtain ⟨φe,he⟩:∃ φe:Phi,φe = []:=⟨_,rfl⟩
          have hcall0:=(hC _ (.inl rfl)).2 f s hpc _ _ _ hkj [] w (args.map a.eval) ⟨S.os,S.tape,S.out,S.size,S.old,rfl,fun i o p h1 _=>by simp at h1,fun i j p q h1 _ _ _ _=>by simp [liveB] at h1⟩ (VRL_noids hids hargs')
          clear hcall he
          refine hcall0.mono ?_
          rintro en w' (⟨v',u,h1,φ1,rfl,hK,hv,S1,E1⟩ | ⟨v',u,h1,φ1,rfl,hK,hv,S1,E1⟩)
          · obtain ⟨hf,hK⟩:=cond_prop hK
            have:=(VR_flat φ1 _ _ hf).1 hv
            subst this
            have hold:∀ n,n < w.heap.size → w'.heap[n]? = w.heap[n]?:=fun n hn=>E1.rest n hn fun i p hl _=>by simp [liveB] at hl
            have S2:=S.after (S1.os.trans S.os.symm) (S1.tape.trans S.tape.symm) (S1.out.trans S.out.symm) E1.size hold
            obtain ⟨e2,h6,h7⟩:=putK_sound E (mv:=[]) (fun _ _ h=>h) ((VR_flat φ _ _ hf).2 rfl) hK
            have X:=Ext.after (φ:=φ) (h:=h) E1.size hold
            refine ⟨⟨fun m hm=>S2.old m hm,fun i hi p hp=>?_⟩,anyH_sound hns hQp φ0 w0 n _ h7 S2 hA ⟨fun m hm=>S2.old m hm,fun i hi p hp=>?_⟩ h6 (fun e2 h2 φ2 a2 w2 k2 E2 S2 X2=>hn _ _ _ _ _ k2 E2 S2 (X.trans X2)) (fun v v' e2 h2 φ2 a2 w2 k2 V2 E2 S2 X2=>hp _ _ _ _ _ _ _ k2 V2 E2 S2 (X.trans X2))⟩
            all_goals
             rw [hold p.b (HeldA.there S hA hi hp),hW.2 i hi p hp]
          · obtain ⟨hf,hK⟩:=cond_prop hK
            have:=(VR_flat φ1 _ _ hf).1 hv
            subst this
            have hold:∀ n,n < w.heap.size → w'.heap[n]? = w.heap[n]?:=fun n hn=>E1.rest n hn fun i p hl _=>by simp [liveB] at hl
            exact hp _ _ _ _ _ _ _ hK ((VR_flat φ _ _ hf).2 rfl) E (S.after (S1.os.trans S.os.symm) (S1.tape.trans S.tape.symm) (S1.out.trans S.out.symm) E1.size hold) (Ext.after E1.size hold)
        unfold stepM at hkj
        obtain ⟨e',E',hw | hw⟩:=guardK_sound E hkj
        · rw [if_pos hw.1]
          have hdo:Does c.P o a w (KeepPost W0 hs φ0 φ h w fun v h' mv=>putK c.N (fun d=>modeOf (c.shut d) o.op) o.dst e' v mv h' (anyH c hs ops k pk n (listed.setIfInBounds j true))):=by
           have hw2:=hw.2
           cases hb:keepB c.ro e' h hs o.op with
           | true=>rw [hb] at hw2;exact keep_sound hG hC E' S hA hb hw2
           | false=>rw [hb] at hw2;exact mask_sound hG hC E' S hA hw2
          refine .inl (hdo.wp fun v' w' hp=>?_)
          obtain ⟨v,h',mv,φ',h1,h2,h3,h4,h5,h6,h7⟩:=hp
          obtain ⟨e2,h9,h10⟩:=putK_sound E' h5 h2 h1
          have hW':HeldW W0 hs φ0 w0 w':=⟨fun m hm=>h3.old m hm,fun i hi p hp=>by rw [h7 i hi p hp,hW.2 i hi p hp]⟩
          exact ⟨hW',anyH_sound hns hQp φ0 w0 n _ h10 h3 h6 hW' h9 (fun e2 h2 φ2 a2 w2 k2 E2 S2 X2=>hn _ _ _ _ _ k2 E2 S2 (h4.trans X2)) (fun v v' e2 h2 φ2 a2 w2 k2 V2 E2 S2 X2=>hp _ _ _ _ _ _ _ k2 V2 E2 S2 (h4.trans X2))⟩
        · rw [if_neg (by rw [hw.1];simp)]
          obtain ⟨e2,h6,h7⟩:=putK_sound E' (mv:=[]) (fun _ _ h=>h) (VR_undef φ) hw.2
          exact ⟨hW,anyH_sound hns hQp φ0 w0 n _ h7 S hA hW h6 hn hp⟩
      · exact hkj.elim
end
end Go.Am

namespace Go.Am
open Go

/-- As 'Ext', of the first n0 blocks alone: the others may be numbered anew. -/
structure ExtB (n0:Nat) (φ:Phi) (h:AHeap) (w:World) (φ':Phi) (h':AHeap) (w':World):Prop where
 len:n0 ≤ h'.length
 size:w.heap.size ≤ w'.heap.size
 place:∀ i,i < n0 → φ'[i]? = φ[i]? ∨ movedB h' i = true
 moved:∀ i,i < n0 → movedB h i = true → movedB h' i = true
 fresh:∀ (i:Nat) (p:PB),liveB h' i = true → φ'[i]? = some p → w.heap.size ≤ p.b ∨ ∃ (j:Nat) (q:PB),liveB h j = true ∧ φ[j]? = some q ∧ p.b = q.b
 rest:∀ n,n < w.heap.size → (∀ (i:Nat) (p:PB),liveB h i = true → φ[i]? = some p → p.b ≠ n) → w'.heap[n]? = w.heap[n]?
theorem Ext.toB {n0:Nat} {φ φ':Phi} {h h':AHeap} {w w':World} (a:Ext φ h w φ' h' w') (hn:n0 ≤ h.length):ExtB n0 φ h w φ' h' w' :=
 ⟨Nat.le_trans hn a.len,a.size,fun i hi=>a.place i (by omega),fun i hi=>a.moved i (by omega),a.fresh,a.rest⟩
theorem ExtB.refl {n0:Nat} (φ:Phi) {h:AHeap} (w:World) (hn:n0 ≤ h.length):ExtB n0 φ h w φ h w:=(Ext.refl φ h w).toB hn
theorem ExtB.toExt {φ φ':Phi} {h h':AHeap} {w w':World} (a:ExtB h.length φ h w φ' h' w'):Ext φ h w φ' h' w':=⟨a.len,a.size,a.place,a.moved,a.fresh,a.rest⟩
theorem ExtB.trans {n0:Nat} {φ φ' φ'':Phi} {h h' h'':AHeap} {w w' w'':World} (a:ExtB n0 φ h w φ' h' w') (b:ExtB n0 φ' h' w' φ'' h'' w''):ExtB n0 φ h w φ'' h'' w'' where
 len:=b.len
 size:=Nat.le_trans a.size b.size
 place i hi:=by
  rcases a.place i hi with h1 | h1
  · rcases b.place i hi with h2 | h2
    · exact .inl (h2.trans h1)
    · exact .inr h2
  · exact .inr (b.moved i hi h1)
 moved i hi hm:=b.moved i hi (a.moved i hi hm)
 fresh i p h1 h2:=by
  rcases b.fresh i p h1 h2 with h3 | ⟨j,q,h3,h4,h5⟩
  · exact .inl (Nat.le_trans a.size h3)
  · rcases a.fresh j q h3 h4 with h6 | ⟨k,r,h6,h7,h8⟩
    · exact .inl (by rw [h5];exact h6)
    · exact .inr ⟨k,r,h6,h7,h5.trans h8⟩
 rest n hn hne:=by
  have h1:=a.rest n hn hne
  have h2:=b.rest n (Nat.lt_of_lt_of_le hn a.size) (fun i p hl hp=>by
   rcases a.fresh i p hl hp with h3 | ⟨j,q,h3,h4,h5⟩
   · omega
   · rw [h5];exact hne j q h3 h4)
  exact h2.trans h1

def upto:Nat → Nat → List Nat
 | 0,_=>[]
 | n + 1,s=>s :: upto n (s + 1)
/-- The first n blocks keep their numbers. -/
def prefB:Nat → List Nat → Nat → Bool
 | 0,_,_=>true
 | n + 1,i :: r,s=>Nat.beq i s && prefB n r (s + 1)
 | _ + 1,[],_=>false
def kidsH:Nat → AHeap → List Nat
 | 0,_=>[]
 | _ + 1,[]=>[]
 | n + 1,o :: r=>idsO o ++ kidsH n r
theorem prefB_get:∀ {n:Nat} {ι:List Nat} {s:Nat},prefB n ι s = true → n ≤ ι.length ∧ ∀ i,i < n → ι[i]? = some (s + i)
 | 0,_,_,_=>⟨Nat.zero_le _,fun i hi=>by omega⟩
 | n + 1,[],_,h=>by cases h
 | n + 1,j :: r,s,h=>by
  simp only [prefB,Bool.and_eq_true] at h
  have e:j = s:=Nat.eq_of_beq_eq_true h.1
  subst e
  obtain ⟨h1,h2⟩:=prefB_get h.2
  refine ⟨by simp;omega,fun i hi=>?_⟩
  cases i with
  | zero=>rfl
  | succ i =>
   rw [List.getElem?_cons_succ,h2 i (by omega)]
   congr 1;omega


/-- What the slots that are kept reach, and the first blocks with what they reach, are kept and numbered anew. -/
def idsE:Env → List Nat
 | []=>[]
 | (_,v) :: r=>idsV v ++ idsE r
def idsEB (q:Nat → Bool):Env → Bool
 | []=>true
 | (_,v) :: r=>idsB q v && idsEB q r
def rnE (m:Nat → Nat):Env → Env
 | []=>[]
 | (k,v) :: r=>(k,rn m v) :: rnE m r
def gcE' (n0:Nat) (e:Env) (h:AHeap) (k:Env → AHeap → Prop) (ι:List Nat):Prop :=
 cond (prefB n0 ι 0 && closedB h ι && idsEB (fun j=>memB j ι) e) (frH (pullH false h ι) fun h=>k (rnE (findI ι) e) h) False
def gcE (g:Option Nat) (e:Env) (h:AHeap) (k:Env → AHeap → Prop):Prop:=match g with
 | none=>k e h
 | some n0=>frI (reach 4000 h (kidsH n0 h ++ idsE e) (upto n0 0)) (gcE' n0 e h k)
theorem eget_rnE (m:Nat → Nat):∀ (e:Env) (k:Nat),eget (rnE m e) k = (eget e k).map (rn m)
 | [],_=>rfl
 | (j,v) :: r,k=>by
  simp only [rnE,eget]
  cases Nat.beq j k
  · exact eget_rnE m r k
  · rfl
theorem idsEB_get {q:Nat → Bool}:∀ {e:Env} {k:Nat} {v:Value},idsEB q e = true → eget e k = some v → idsB q v = true
 | [],_,_,_,h=>by cases h
 | (j,u) :: r,k,v,hq,h=>by
  simp only [idsEB,Bool.and_eq_true] at hq
  simp only [eget] at h
  cases hj:Nat.beq j k with
  | true=>rw [hj,cond_true] at h;cases h;exact hq.1
  | false=>rw [hj,cond_false] at h;exact idsEB_get hq.2 h

structure FCfg extends Cfg where
 held:Nat → Bool
 loops:Nat → Option (Env → AHeap → (AExit → Env → AHeap → Prop) → Prop)
 keep:Nat → List Nat
 live:Nat → List Nat
 out:Nat → List Nat
 fuel:Nat
 gc:Option Nat
 /-- blocks that are held in a region: its calls do not reach them -/
 hold:Nat → List Nat:=fun _=>[]

def keepE:List Nat → Env → Env
 | [],_=>[]
 | k :: r,e=>match eget e k with
  | some v=>(k,v) :: keepE r e
  | none=>keepE r e
def litE (e:Env) (t:Operand) (b:Bool):Env:=match t with | .tmp d=>eset e d (.bool b) | _=>e

/-- The slots that are kept, and the heap, brought to plain form. -/
def frE (e:Env) (k:Env → Prop):Prop:=match e with
 | []=>k []
 | (i,v) :: r=>frE r fun r=>k ((i,v) :: r)
theorem frE_eq (e:Env):∀ k:Env → Prop,frE e k = k e:=by
 induction e with
 | nil=>exact fun k=>rfl
 | cons o h ih=>exact fun k=>by rw [frE,ih]
def endR (l:List Nat) (e:Env) (h:AHeap) (k:Env → AHeap → Prop):Prop:=frE (keepE l e) fun e=>frH h fun h=>k e h
theorem endR_eq (l:List Nat) (e:Env) (h:AHeap) (k:Env → AHeap → Prop):endR l e h k = k (keepE l e) h:=by
 unfold endR;rw [frE_eq,frH_eq]

def firstReg:Code → Nat
 | .region id _ _=>id
 | .seq a _=>firstReg a
 | .block _ a=>firstReg a
 | .loop a=>firstReg a
 | _=>0

def loopK (g:Option Nat) (live out:List Nat) (body:Env → AHeap → (AExit → Env → AHeap → Prop) → Prop):Nat → Env → AHeap → (AExit → Env → AHeap → Prop) → Prop
 | 0,_,_,_=>False
 | n + 1,e,h,k=>gcE g (keepE live e) h fun e h=>body e h fun x e h=>match x with
  | .normal=>loopK g live out body n e h k
  | .exit i=>gcE g (keepE out e) h (k (.exit i))
  | .ret=>gcE g (keepE out e) h (k .ret)
  | .panic v=>k (.panic v) e h

theorem loopK_succ (g:Option Nat) (live out:List Nat) (body:Env → AHeap → (AExit → Env → AHeap → Prop) → Prop) (n:Nat) (e:Env) (h:AHeap) (k:AExit → Env → AHeap → Prop) :
 loopK g live out body (n + 1) e h k = gcE g (keepE live e) h (fun e h=>body e h (fun x e h=>match x with
  | .normal=>loopK g live out body n e h k
  | .exit i=>gcE g (keepE out e) h (k (.exit i))
  | .ret=>gcE g (keepE out e) h (k .ret)
  | .panic v=>k (.panic v) e h)):=rfl

noncomputable def codeK (f:FCfg):Code → Env → AHeap → (AExit → Env → AHeap → Prop) → Prop
 | .skip,e,h,k=>k .normal e h
 | .region id ops draw,e,h,k=>match draw with
  | false=>seqK f.toCfg ops (fun e h=>endR (f.keep id) e h (k .normal)) (fun v e h=>k (.panic v) e h) ops.toList e h
  | true=>cond (Region.noSelect ops) (match f.hold id with
   | []=>anyK f.toCfg (f.held id) h.length ops (fun e h=>endR (f.keep id) e h (k .normal)) ops.size (Array.replicate ops.size false) e h
   | i :: r=>cond (okHS h (i :: r)) (anyH f.toCfg (i :: r) ops (fun e h=>endR (f.keep id) e h (k .normal)) (fun v e h=>k (.panic v) e h) ops.size (Array.replicate ops.size false) e h) False) False
 | .seq a b,e,h,k=>codeK f a e h fun x e h=>match x with
  | .normal=>codeK f b e h k
  | .exit i=>k (.exit i) e h
  | .ret=>k .ret e h
  | .panic v=>k (.panic v) e h
 | .cond t a b,e,h,k=>evK e t fun v=>match v with
  | .bool v=>cond v (codeK f a (litE e t true) h k) (codeK f b (litE e t false) h k)
  | _=>False
 | .block id a,e,h,k=>codeK f a e h fun x e h=>match x with
  | .normal=>k .normal e h
  | .exit i=>cond (Nat.beq i id) (k .normal e h) (k (.exit i) e h)
  | .ret=>k .ret e h
  | .panic v=>k (.panic v) e h
 | .loop a,e,h,k=>match f.loops (firstReg a) with
  | some T=>gcE f.gc (keepE (f.live (firstReg a)) e) h fun e h=>T e h k
  | none=>loopK f.gc (f.live (firstReg a)) (f.out (firstReg a)) (codeK f a) f.fuel e h k
 | .exit id,e,h,k=>k (.exit id) e h
 | .ret,e,h,k=>k .ret e h
 | .label _,e,h,k=>k .normal e h
 | _,_,_,_=>False

/-- What the end of a piece of code bears. -/
def CPost (W0:World) (N n0:Nat) (φ:Phi) (h:AHeap) (w:World) (k:AExit → Env → AHeap → Prop):Exit → Act → World → Prop:=fun ex a' w' =>
 match ex with
 | .normal=>∃ e' h' φ',k .normal e' h' ∧ EnvR N φ' e' a' ∧ Sim W0 φ' h' w' ∧ ExtB n0 φ h w φ' h' w'
 | .exit id=>∃ e' h' φ',k (.exit id) e' h' ∧ EnvR N φ' e' a' ∧ Sim W0 φ' h' w' ∧ ExtB n0 φ h w φ' h' w'
 | .ret=>∃ e' h' φ',k .ret e' h' ∧ EnvR N φ' e' a' ∧ Sim W0 φ' h' w' ∧ ExtB n0 φ h w φ' h' w'
 | .panic ch=>∃ v v' e' h' φ',(ch = [{ v:=v',recovered:=false }] ∧ a'.defers = []) ∧ k (.panic v) e' h' ∧ VR φ' v v' ∧ Sim W0 φ' h' w' ∧ ExtB n0 φ h w φ' h' w'
 | _=>False

/-- The code runs from the abstract state to k. -/
def Wp (W0:World) (c:Cfg) (n0:Nat) (code:Code) (e:Env) (h:AHeap) (k:AExit → Env → AHeap → Prop):Prop :=
 ∀ (φ:Phi) (a:Act) (w:World),EnvR c.N φ e a → Sim W0 φ h w → n0 ≤ h.length → code.wp c.P (CPost W0 c.N n0 φ h w k) a w

theorem CPost.mono {W0:World} {N n0:Nat} {φ φ0:Phi} {h h0:AHeap} {w w0:World} {k k':AExit → Env → AHeap → Prop} (X:ExtB n0 φ0 h0 w0 φ h w) (hk:∀ x e h,k x e h → k' x e h) {ex:Exit} {a':Act} {w':World}
 (hp:CPost W0 N n0 φ h w k ex a' w'):CPost W0 N n0 φ0 h0 w0 k' ex a' w':=by
 cases ex with
 | normal=>obtain ⟨e',h',φ',h1,h2,h3,h4⟩:=hp;exact ⟨e',h',φ',hk _ _ _ h1,h2,h3,X.trans h4⟩
 | exit id=>obtain ⟨e',h',φ',h1,h2,h3,h4⟩:=hp;exact ⟨e',h',φ',hk _ _ _ h1,h2,h3,X.trans h4⟩
 | ret=>obtain ⟨e',h',φ',h1,h2,h3,h4⟩:=hp;exact ⟨e',h',φ',hk _ _ _ h1,h2,h3,X.trans h4⟩
 | panic ch=>obtain ⟨v,v',e',h',φ',h1,h2,h3,h4,h5⟩:=hp;exact ⟨v,v',e',h',φ',h1,hk _ _ _ h2,h3,h4,X.trans h5⟩
 | _=>exact hp.elim

/-- Numbered anew, the state stands for the same world. -/
theorem gcE_sound {W0:World} {N n0:Nat} {g:Option Nat} (hg:∀ b,g = some b → n0 ≤ b) {φ:Phi} {e:Env} {h:AHeap} {a:Act} {w:World} {k:Env → AHeap → Prop} (hk:gcE g e h k) (E:EnvR N φ e a) (S:Sim W0 φ h w) (hn:n0 ≤ h.length) :
 ∃ e' h' φ',k e' h' ∧ EnvR N φ' e' a ∧ Sim W0 φ' h' w ∧ ExtB n0 φ h w φ' h' w:=by
 cases g with
 | none=>exact ⟨e,h,φ,hk,E,S,ExtB.refl φ w hn⟩
 | some b =>
  have hb:=hg b rfl
  simp only [gcE,frI_eq,gcE',frH_eq] at hk
  revert hk
  generalize reach 4000 h (kidsH b h ++ idsE e) (upto b 0) = ι
  intro hk
  obtain ⟨hc,hk⟩:=cond_prop hk
  simp only [Bool.and_eq_true] at hc
  obtain ⟨⟨hp,hc⟩,hu⟩:=hc
  obtain ⟨hlen,hpre⟩:=prefB_get hp
  have hget:∀ i,i < n0 → ι[i]? = some i:=fun i hi=>by rw [hpre i (by omega),Nat.zero_add]
  refine ⟨_,_,pullP φ ι,hk,⟨E.size,E.defers,fun j v hv=>?_⟩,S.pull false hc,⟨by simp [pullH];omega,Nat.le_refl _,fun i hi=>.inl ?_,fun i hi hm=>?_,fun t p h1 h2=>?_,fun _ _ _=>rfl⟩⟩
  · rw [eget_rnE] at hv
    cases hv':eget e j with
    | none=>rw [hv'] at hv;cases hv
    | some u =>
     rw [hv'] at hv;cases hv
     exact ⟨(E.get j u hv').1,VR_pull (idsEB_get hu hv') (E.get j u hv').2⟩
  · have hi':i < φ.length:=by rw [S.len];omega
    simp only [pullP,List.getElem?_map,hget i hi,Option.map_some,List.getD_eq_getElem?_getD,List.getElem?_eq_getElem hi',Option.getD_some]
  · have hi':i < h.length:=by omega
    simp only [movedB,List.getElem?_eq_getElem hi'] at hm
    simp only [movedB,pullH,List.getElem?_map,hget i hi,Option.map_some,List.getD_eq_getElem?_getD,List.getElem?_eq_getElem hi',Option.getD_some,pullO,cond_false,rnO_movedB]
    exact hm
  · obtain ⟨i,h3,h4⟩:=pullH_live hc h1
    obtain ⟨j,h6,h7⟩:=pullP_at S hc h2
    rw [h3] at h6;cases h6
    exact .inr ⟨i,p,h4,h7,rfl⟩

theorem eget_keepE:∀ (l:List Nat) (e:Env) (k:Nat) (v:Value),eget (keepE l e) k = some v → eget e k = some v
 | [],_,_,_,h=>by cases h
 | j :: r,e,k,v,h=>by
  simp only [keepE] at h
  split at h
  · rename_i u hu
    simp only [eget] at h
    by_cases hj:j = k
    · subst hj
      simp only [Nat.beq_refl,cond_true] at h
      cases h;exact hu
    · rw [beq_ne hj,cond_false] at h
      exact eget_keepE r e k v h
  · exact eget_keepE r e k v h
theorem EnvR.keep {N:Nat} {φ:Phi} {e:Env} {a:Act} (E:EnvR N φ e a) (l:List Nat):EnvR N φ (keepE l e) a :=
 ⟨E.size,E.defers,fun k v hv=>E.get k v (eget_keepE l e k v hv)⟩
theorem EnvR.lits {N:Nat} {φ:Phi} {e:Env} {a:Act} (E:EnvR N φ e a) {t:Operand} {b:Bool} (hb:ev e t = some (.bool b)):EnvR N φ (litE e t b) a:=by
 cases t with
 | tmp d=>exact E.lit hb
 | _=>exact E

section
variable {W0:World} {f:FCfg} {n0:Nat} (hm:f.P.follows .mixedOrders = true) (hG:GOk f.G W0) (hC:SoundC f.toCfg W0) (hgc:∀ b,f.gc = some b → n0 ≤ b)

/-- The summaries of the loops hold. -/
def LoopsOk (W0:World) (f:FCfg) (n0:Nat):Code → Prop
 | .seq a b=>LoopsOk W0 f n0 a ∧ LoopsOk W0 f n0 b
 | .cond _ a b=>LoopsOk W0 f n0 a ∧ LoopsOk W0 f n0 b
 | .block _ a=>LoopsOk W0 f n0 a
 | .loop a=>LoopsOk W0 f n0 a ∧ ∀ T,f.loops (firstReg a) = some T → ∀ e h k,T e h k → Wp W0 f.toCfg n0 (.loop a) e h k
 | _=>True


include hm hG hC hgc

theorem codeK_sound:∀ (code:Code),LoopsOk W0 f n0 code → ∀ (e:Env) (h:AHeap) (k:AExit → Env → AHeap → Prop),codeK f code e h k → Wp W0 f.toCfg n0 code e h k
 | .skip,_,e,h,k,hk=>fun φ a w E S hn=>wp_skip ⟨e,h,φ,hk,E,S,ExtB.refl _ _ hn⟩
 | .label _,_,e,h,k,hk=>fun φ a w E S hn=>wp_label ⟨e,h,φ,hk,E,S,ExtB.refl _ _ hn⟩
 | .exit _,_,e,h,k,hk=>fun φ a w E S hn=>wp_exit ⟨e,h,φ,hk,E,S,ExtB.refl _ _ hn⟩
 | .ret,_,e,h,k,hk=>fun φ a w E S hn=>wp_ret ⟨e,h,φ,hk,E,S,ExtB.refl _ _ hn⟩
 | .region id ops draw,_,e,h,k,hk=>fun φ a w E S hn=>by
  cases draw with
  | false =>
   refine wp_region ?_
   rw [List.range_eq_range',← Array.length_toList]
   exact seqK_sound hG hC ops.toList 0 (by simp) E S hk (fun e' h' φ' a' w' h1 h2 h3 h4=>⟨_,h',φ',(endR_eq _ _ _ _).mp h1,h2.keep _,h3,h4.toB hn⟩) (fun v v' e' h' φ' a' w' h1 h2 h6 h3 h4=>⟨v,v',e',h',φ',⟨rfl,h6.defers⟩,h1,h2,h3,h4.toB hn⟩)
  | true =>
   obtain ⟨hs,hk⟩:=cond_prop hk
   revert hk
   cases f.hold id with
   | cons hi hr =>
    intro hk
    simp only at hk
    obtain ⟨hok,hk⟩:=cond_prop hk
    have S':Sim W0 φ h { w with drawn:=w.drawn + 1 }:=⟨S.os,S.tape,S.out,S.size,S.old,S.len,fun i o p h1 h2=>(S.blk i o p h1 h2).congr rfl,S.inj⟩
    exact wp_region_held hm (anyH_sound hG hC hs (fun c a a' w hd ⟨v,v',e',h',φ',h1,h2⟩=>⟨v,v',e',h',φ',⟨h1.1,hd.trans h1.2⟩,h2⟩) φ { w with drawn:=w.drawn + 1 } _ _ E S' (fun i hi=>⟨rfl,okHS_mem hok i hi⟩) ⟨fun n hn=>S'.old n hn,fun _ _ _ _=>rfl⟩ hk
     (fun e' h' φ' a' w' h1 h2 h3 h4=>⟨_,h',φ',(endR_eq _ _ _ _).mp h1,h2.keep _,h3,⟨Nat.le_trans hn h4.len,h4.size,fun i hi=>h4.place i (by omega),fun i hi=>h4.moved i (by omega),h4.fresh,h4.rest⟩⟩)
     (fun v v' e' h' φ' a' w' h1 h2 h6 h3 h4=>⟨v,v',e',h',φ',⟨rfl,h6.defers⟩,h1,h2,h3,⟨Nat.le_trans hn h4.len,h4.size,fun i hi=>h4.place i (by omega),fun i hi=>h4.moved i (by omega),h4.fresh,h4.rest⟩⟩))
   | nil =>
   intro hk
   simp only at hk
   have S':Sim W0 φ h { w with drawn:=w.drawn + 1 }:=⟨S.os,S.tape,S.out,S.size,S.old,S.len,fun i o p h1 h2=>(S.blk i o p h1 h2).congr rfl,S.inj⟩
   refine wp_region_held (S:=fun w2=>f.held id = true → Agree { w with drawn:=w.drawn + 1 } w2) hm (anyK_sound hG hC hs (fun c a a' w hd ⟨v,v',e',h',φ',h1,h2⟩=>⟨v,v',e',h',φ',⟨h1.1,hd.trans h1.2⟩,h2⟩) { w with drawn:=w.drawn + 1 } S.size _ _ E S' (Nat.le_refl _)
    (fun _=>⟨fun _ _=>rfl,Nat.le_refl _,fun i o p _ ho hp hne=>?_⟩) hk
    (fun e' h' φ' a' w' h1 h2 h3 h4=>⟨_,h',φ',(endR_eq _ _ _ _).mp h1,h2.keep _,h3,⟨Nat.le_trans hn h4.len,h4.size,fun i hi=>h4.place i (by omega),fun i hi=>h4.moved i (by omega),h4.fresh,h4.rest⟩⟩))
   have hb:=S'.blk i o p ho hp
   cases o with
   | dead=>exact absurd rfl hne
   | keep=>exact hb
   | ro vs t=>exact Nat.lt_of_lt_of_le hb.1 S'.size
   | cells=>exact hb.there rfl
   | map=>exact hb.there rfl
   | siter=>exact hb.there rfl
   | miter=>exact hb.there rfl
 | .seq x y,hl,e,h,k,hk=>fun φ a w E S hn=>by
  refine wp_seq (wp_mono (codeK_sound x hl.1 e h _ hk φ a w E S hn) fun ex a' w' hp=>?_)
  cases ex with
  | normal =>
   obtain ⟨e',h',φ',h1,h2,h3,h4⟩:=hp
   exact wp_mono (codeK_sound y hl.2 e' h' k h1 φ' a' w' h2 h3 h4.len) fun ex a w hq=>CPost.mono h4 (fun _ _ _ h=>h) hq
  | exit id=>exact hp
  | ret=>exact hp
  | panic ch=>obtain ⟨v,v',e',h',φ',h1,h2,h3,h4,h5⟩:=hp;exact ⟨v,v',e',h',φ',h1,h2,h3,h4,h5⟩
  | goto l=>exact hp
  | outgrown=>exact hp
 | .cond t x y,hl,e,h,k,hk=>fun φ a w E S hn=>by
  obtain ⟨v,h1,h2⟩:=evK_spec hk
  have hv:=ev_sound E h1
  split at h2
  · rename_i b
    have e1:a.eval t = .bool b:=by simpa [VR] using hv
    cases b with
    | true=>exact wp_cond_true e1 (codeK_sound x hl.1 _ h k h2 φ a w (E.lits h1) S hn)
    | false=>exact wp_cond_false e1 (codeK_sound y hl.2 _ h k h2 φ a w (E.lits h1) S hn)
  · exact h2.elim
 | .block id x,hl,e,h,k,hk=>fun φ a w E S hn=>by
  refine wp_block (wp_mono (codeK_sound x hl e h _ hk φ a w E S hn) fun ex a' w' hp=>?_)
  cases ex with
  | normal=>exact hp
  | exit i =>
   obtain ⟨e',h',φ',h1,h2,h3,h4⟩:=hp
   simp only [Exit.inBlock]
   by_cases hi:i = id
   · subst hi
     rw [if_pos rfl]
     simp only [Nat.beq_refl,cond_true] at h1
     exact ⟨e',h',φ',h1,h2,h3,h4⟩
   · rw [if_neg hi]
     simp only [beq_ne hi,cond_false] at h1
     exact ⟨e',h',φ',h1,h2,h3,h4⟩
  | ret=>exact hp
  | panic ch=>obtain ⟨v,v',e',h',φ',h1,h2,h3,h4,h5⟩:=hp;exact ⟨v,v',e',h',φ',h1,h2,h3,h4,h5⟩
  | goto l=>exact hp.elim
  | outgrown=>exact hp.elim
 | .loop x,hl,e,h,k,hk=>by
  simp only [codeK] at hk
  split at hk
  · rename_i T hT
    intro φ a w E S hn
    obtain ⟨e',h',φ',h1,h2,h3,h4⟩:=gcE_sound hgc hk (E.keep _) S hn
    exact wp_mono (hl.2 T hT e' h' k h1 φ' a w h2 h3 h4.len) fun ex a w hq=>CPost.mono h4 (fun _ _ _ h=>h) hq
  · intro φ a w E S hn
    refine wp_loop_ghost (fun n a' w'=>∃ e' h' φ',loopK f.gc (f.live (firstReg x)) (f.out (firstReg x)) (codeK f x) n e' h' k ∧ EnvR f.N φ' e' a' ∧ Sim W0 φ' h' w' ∧ ExtB n0 φ h w φ' h' w') f.fuel ⟨e,h,φ,hk,E,S,ExtB.refl _ _ hn⟩ ?_
    rintro n a' w' ⟨e',h',φ',h1,h2,h3,h4⟩
    cases n with
    | zero=>exact h1.elim
    | succ n =>
     obtain ⟨eg,hg,φg,g1,g2,g3,g4⟩:=gcE_sound hgc h1 (h2.keep _) h3 h4.len
     refine wp_mono (codeK_sound x hl.1 _ hg _ g1 φg a' w' g2 g3 g4.len) fun ex a2 w2 hp=>?_
     have X:=h4.trans g4
     cases ex with
     | normal=>obtain ⟨e2,h2,φ2,g1,g2,g3,g4⟩:=hp;exact ⟨n,Nat.lt_succ_self _,e2,h2,φ2,g1,g2,g3,X.trans g4⟩
     | exit id =>
      obtain ⟨e2,h2,φ2,g1,g2,g3,g4⟩:=hp
      obtain ⟨e3,h3,φ3,k1,k2,k3,k4⟩:=gcE_sound hgc g1 (g2.keep _) g3 g4.len
      exact ⟨e3,h3,φ3,k1,k2,k3,(X.trans g4).trans k4⟩
     | ret =>
      obtain ⟨e2,h2,φ2,g1,g2,g3,g4⟩:=hp
      obtain ⟨e3,h3,φ3,k1,k2,k3,k4⟩:=gcE_sound hgc g1 (g2.keep _) g3 g4.len
      exact ⟨e3,h3,φ3,k1,k2,k3,(X.trans g4).trans k4⟩
     | panic ch=>obtain ⟨v,v',e2,h2,φ2,g1,g2,g3,g4,g5⟩:=hp;exact ⟨v,v',e2,h2,φ2,g1,g2,g3,g4,X.trans g5⟩
     | goto l=>exact hp.elim
     | outgrown=>exact hp.elim
 | .rangeFunc _ _ _ _,_,_,_,_,hk=>hk.elim
 | .scope _,_,_,_,_,hk=>hk.elim
 | .goto _,_,_,_,_,hk=>hk.elim
 | .refuse _,_,_,_,_,hk=>hk.elim

/-- A loop by rounds, where a number of rounds is given. -/
theorem Wp.rounds {body:Code} (hl:LoopsOk W0 f n0 body) (live out:List Nat):∀ (n:Nat) {e:Env} {h:AHeap} {k:AExit → Env → AHeap → Prop},loopK f.gc live out (codeK f body) n e h k → Wp W0 f.toCfg n0 (.loop body) e h k:=by
 intro m e h k hk φ a w E S hn
 refine wp_loop_ghost (fun n a' w'=>∃ e' h' φ',loopK f.gc live out (codeK f body) n e' h' k ∧ EnvR f.N φ' e' a' ∧ Sim W0 φ' h' w' ∧ ExtB n0 φ h w φ' h' w') m ⟨e,h,φ,hk,E,S,ExtB.refl _ _ hn⟩ ?_
 rintro n a' w' ⟨e',h',φ',h1,h2,h3,h4⟩
 cases n with
 | zero=>exact h1.elim
 | succ n =>
  obtain ⟨eg,hg,φg,g1,g2,g3,g4⟩:=gcE_sound hgc h1 (h2.keep _) h3 h4.len
  refine wp_mono (codeK_sound hm hG hC hgc body hl _ hg _ g1 φg a' w' g2 g3 g4.len) fun ex a2 w2 hp=>?_
  have X:=h4.trans g4
  cases ex with
  | normal=>obtain ⟨e2,h2,φ2,g1,g2,g3,g4⟩:=hp;exact ⟨n,Nat.lt_succ_self _,e2,h2,φ2,g1,g2,g3,X.trans g4⟩
  | exit id =>
   obtain ⟨e2,h2,φ2,g1,g2,g3,g4⟩:=hp
   obtain ⟨e3,h3,φ3,k1,k2,k3,k4⟩:=gcE_sound hgc g1 (g2.keep _) g3 g4.len
   exact ⟨e3,h3,φ3,k1,k2,k3,(X.trans g4).trans k4⟩
  | ret =>
   obtain ⟨e2,h2,φ2,g1,g2,g3,g4⟩:=hp
   obtain ⟨e3,h3,φ3,k1,k2,k3,k4⟩:=gcE_sound hgc g1 (g2.keep _) g3 g4.len
   exact ⟨e3,h3,φ3,k1,k2,k3,(X.trans g4).trans k4⟩
  | panic ch=>obtain ⟨v,v',e2,h2,φ2,g1,g2,g3,g4,g5⟩:=hp;exact ⟨v,v',e2,h2,φ2,g1,g2,g3,g4,X.trans g5⟩
  | goto l=>exact hp.elim
  | outgrown=>exact hp.elim
end
attribute [irreducible] codeK loopK
end Go.Am

namespace Go.Am
open Go

def resK (c:Cfg):List ResultVar → Env → AHeap → (List Value → Prop) → Prop
 | [],_,_,k=>k []
 | .tmp t :: r,e,h,k=>match eget e t with
  | some v=>resK c r e h fun vs=>k (v :: vs)
  | none=>False
 | .cell a t :: r,e,h,k=>match eget e a with
  | some ad=>loadK c t ad h fun v=>resK c r e h fun vs=>k (v :: vs)
  | none=>False
def oneU:List Value → Value
 | [v]=>v
 | vs=>.tuple ⟨vs⟩
def gcK' (n0:Nat) (u:Value) (h:AHeap) (k:Value → AHeap → Prop) (ι:List Nat):Prop :=
 cond (prefB n0 ι 0 && closedB h ι && idsB (fun j=>memB j ι) u) (frH (pullH false h ι) (k (rn (findI ι) u))) False
def gcK (n0:Nat) (u:Value) (h:AHeap) (k:Value → AHeap → Prop):Prop :=
 frI (reach 4000 h (kidsH n0 h ++ idsV u) (upto n0 0)) (gcK' n0 u h k)
def argsE:Nat → List Value → Env
 | _,[]=>[]
 | i,v :: r=>(i,v) :: argsE (i + 1) r
noncomputable def bodyK (f:FCfg) (code:Code) (rs:List ResultVar) (args:List Value) (h:AHeap) (k:Value → AHeap → Prop):Prop :=
 cond (Nat.ble args.length f.N && (match f.gc with | none=>true | some b=>Nat.ble h.length b)) (codeK f code (argsE 0 args) h fun x e h'=>match x with
  | .normal=>resK f.toCfg rs e h' fun vs=>gcK h.length (oneU vs) h' k
  | .ret=>resK f.toCfg rs e h' fun vs=>gcK h.length (oneU vs) h' k
  | _=>False) False

theorem gc_sound {W0:World} {φ φ':Phi} {h h':AHeap} {w w':World} {u v':Value} {k:Value → AHeap → Prop} (hk:gcK h.length u h' k) (hv:VR φ' u v') (S:Sim W0 φ' h' w') (E:Ext φ h w φ' h' w') :
 ∃ u2 h2 φ2,k u2 h2 ∧ VR φ2 u2 v' ∧ Sim W0 φ2 h2 w' ∧ Ext φ h w φ2 h2 w':=by
 unfold gcK at hk
 rw [frI_eq] at hk
 unfold gcK' at hk
 rw [frH_eq] at hk
 revert hk
 generalize reach 4000 h' (kidsH h.length h' ++ idsV u) (upto h.length 0) = ι
 intro hk
 obtain ⟨hc,hk⟩:=cond_prop hk
 simp only [Bool.and_eq_true] at hc
 obtain ⟨⟨hp,hc⟩,hu⟩:=hc
 obtain ⟨hlen,hpre⟩:=prefB_get hp
 have hget:∀ i,i < h.length → ι[i]? = some i:=fun i hi=>by rw [hpre i hi,Nat.zero_add]
 have hPP:∀ i,i < h.length → (pullP φ' ι)[i]? = φ'[i]?:=fun i hi=>by
  have hi':i < φ'.length:=by rw [S.len];exact Nat.lt_of_lt_of_le hi E.len
  simp only [pullP,List.getElem?_map,hget i hi,Option.map_some,List.getD_eq_getElem?_getD,List.getElem?_eq_getElem hi',Option.getD_some]
 have hMM:∀ i,i < h.length → movedB (pullH false h' ι) i = movedB h' i:=fun i hi=>by
  have hi':i < h'.length:=Nat.lt_of_lt_of_le hi E.len
  simp only [movedB,pullH,List.getElem?_map,hget i hi,Option.map_some,List.getD_eq_getElem?_getD,List.getElem?_eq_getElem hi',Option.getD_some,pullO,cond_false,rnO_movedB]
 refine ⟨_,_,pullP φ' ι,hk,VR_pull hu hv,S.pull false hc,⟨by simpa [pullH] using hlen,E.size,fun i hi=>?_,fun i hi hm=>?_,fun t p h1 h2=>?_,E.rest⟩⟩
 · rw [hPP i hi,hMM i hi];exact E.place i hi
 · rw [hMM i hi];exact E.moved i hi hm
 · obtain ⟨i,h3,h4⟩:=pullH_live hc h1
   obtain ⟨j,h6,h7⟩:=pullP_at S hc h2
   rw [h3] at h6;cases h6
   exact E.fresh i p h4 h7

theorem argsE_get:∀ {l:List Value} {i k:Nat} {v:Value},eget (argsE i l) k = some v → i ≤ k ∧ k - i < l.length ∧ l[k - i]? = some v
 | [],_,_,_,h=>by cases h
 | x :: r,i,k,v,h=>by
  simp only [argsE,eget] at h
  by_cases e:i = k
  · subst e
    simp only [Nat.beq_refl,cond_true] at h
    cases h
    simp
  · rw [beq_ne e,cond_false] at h
    obtain ⟨h1,h2,h3⟩:=argsE_get h
    have:k - i = (k - (i + 1)) + 1:=by omega
    rw [this]
    exact ⟨by omega,by simpa using h2,by simpa using h3⟩

theorem argsE_sound {φ:Phi} {args:List Value} {args':Array Value} {N:Nat} (hv:VRL φ args args'.toList) (hn:args.length ≤ N) :
 EnvR N φ (argsE 0 args) { tmps:=args' ++ Array.replicate (N - args'.size) undef,defers:=[] }:=by
 have hl:args'.size = args.length:=by have:=VRL_length hv;simpa using this
 refine ⟨by simp;omega,rfl,fun k v h=>?_⟩
 obtain ⟨_,h1,h2⟩:=argsE_get h
 rw [Nat.sub_zero] at h1 h2
 obtain ⟨v',h3,h4⟩:=VRL_get hv h2
 refine ⟨by omega,?_⟩
 have:(args' ++ Array.replicate (N - args'.size) undef).getD k undef = v':=by
  rw [Array.getD_eq_getD_getElem?,Array.getElem?_append_left (by omega)]
  rw [Array.getElem?_toList] at h3
  rw [h3];rfl
 rw [this];exact h4

theorem resK_sound {W0:World} {c:Cfg} (hG:GOk c.G W0) {N:Nat} {φ:Phi} {e:Env} {h:AHeap} {a:Act} {w:World} (E:EnvR N φ e a) (S:Sim W0 φ h w) :
 ∀ {l:List ResultVar} {k:List Value → Prop},resK c l e h k → ∃ us vs,k us ∧ VRL φ us vs ∧
  (l.mapM (m:=Sem) fun | .tmp t=>pure (a.tmps.getD t undef) | .cell x t=>do loadVar t (← asAddr (a.tmps.getD x undef))).run c.P w = .ok vs w
 | [],k,hk=>⟨[],[],hk,rfl,rfl⟩
 | .tmp t :: r,k,hk=>by
  simp only [resK] at hk
  split at hk
  · rename_i v hv
    obtain ⟨us,vs,h1,h2,h3⟩:=resK_sound hG E S hk
    refine ⟨v :: us,a.tmps.getD t undef :: vs,h1,⟨_,_,rfl,(E.get _ _ hv).2,h2⟩,?_⟩
    rw [List.mapM_cons]
    simp only [run_bind,run_pure,h3]
  · exact hk.elim
 | .cell x t :: r,k,hk=>by
  simp only [resK] at hk
  split at hk
  · rename_i ad had
    have hr:=(E.get _ _ had).2
    obtain ⟨u,v,b,h1,h2,_,h3⟩:=load_sound S hG hk hr
    obtain ⟨us,vs,g1,g2,g3⟩:=resK_sound hG E S h1
    refine ⟨u :: us,v :: vs,g1,⟨_,_,rfl,h2,g2⟩,?_⟩
    have h4:=h3 w rfl
    rw [List.mapM_cons]
    have:((do loadVar t (← asAddr (a.tmps.getD x undef))):Sem Value).run c.P w = .ok v w:=by
     revert h4
     cases a.tmps.getD x undef with
     | pointer p=>cases p with
      | none=>intro h4;simp [Instr.loadAt,Instr.sureAddr] at h4
      | some p=>intro h4;simpa only [Instr.loadAt,Instr.sureAddr,asAddr,run_bind,run_pure] using h4
     | _=>intro h4;simp [Instr.loadAt,Instr.sureAddr] at h4
    simp only [run_bind,this,run_pure,g3]
  · exact hk.elim

theorem fn_sound {W0:World} {f:FCfg} (hm:f.P.follows .mixedOrders = true) (hG:GOk f.G W0) (hC:SoundC f.toCfg W0) {fid:FuncId} {fn:Func} {code:Code} (hf:f.P.funcs[fid]? = some fn) (hb:fn.body = some code)
 (hN:f.N = fn.ntmps) {h:AHeap} (hl:LoopsOk W0 f h.length code) {args:List Value} {K:Value → AHeap → Prop} (hk:bodyK f code fn.results.toList args h K):SoundCall W0 f.P fid args h K:=by
 intro φ w args' S hv
 unfold bodyK at hk
 obtain ⟨hn,hk⟩:=cond_prop hk
 simp only [Bool.and_eq_true] at hn
 obtain ⟨hn,hg⟩:=hn
 have hgc:∀ b,f.gc = some b → h.length ≤ b:=fun b hb=>by rw [hb] at hg;exact Nat.le_of_ble_eq_true hg
 have hn:=Nat.le_of_ble_eq_true hn
 have E:=argsE_sound hv hn
 rw [hN] at E
 have E':EnvR f.N φ (argsE 0 args) { tmps:=args' ++ Array.replicate (fn.ntmps - args'.size) undef,defers:=[] }:=by rw [hN];exact E
 have fin:∀ {e:Env} {h':AHeap} {φ':Phi} {a:Act} {w':World},(resK f.toCfg fn.results.toList e h' fun vs=>gcK h.length (oneU vs) h' K) → EnvR f.N φ' e a → Sim W0 φ' h' w' → Ext φ h w φ' h' w' →
  a.defers = [] ∧ ∃ v,(results fn a.tmps).run f.P w' = .ok v w' ∧ ∃ v' u h2 φ2,Ending.returned v = .returned v' ∧ K u h2 ∧ VR φ2 u v' ∧ Sim W0 φ2 h2 w' ∧ Ext φ h w φ2 h2 w':=by
  intro e h' φ' a w' hk E S X
  obtain ⟨us,vs,h1,h2,h3⟩:=resK_sound hG E S hk
  have hvu:VR φ' (oneU us) (if h:vs.length = 1 then vs[0] else .tuple ⟨vs⟩):=by
   match us,vs,h2 with
   | [],vs,h2=>simp only [VRL] at h2;subst h2;exact ⟨_,rfl,rfl⟩
   | [x],vs,h2=>obtain ⟨v,vs',rfl,a1,a2⟩:=h2;simp only [VRL] at a2;subst a2;exact a1
   | x :: y :: r,vs,h2 =>
    have h2':=h2
    obtain ⟨v,vs',rfl,a1,v2,vs2,rfl,a2,a3⟩:=h2
    have:¬ (v :: v2 :: vs2).length = 1:=by simp
    rw [dif_neg this]
    exact ⟨_,rfl,h2'⟩
  obtain ⟨u2,h2',φ2,b1,b2,b3,b4⟩:=gc_sound h1 hvu S X
  refine ⟨E.defers,_,?_,_,u2,h2',φ2,rfl,b1,b2,b3,b4⟩
  unfold results
  rw [Array.mapM_eq_mapM_toList]
  rw [map_eq_pure_bind,bind_assoc]
  simp only [pure_bind]
  rw [run_bind]
  erw [h3]
  by_cases hl:vs.length = 1 <;> simp [hl]
 refine calls_of_wp hf hb (wp_mono (codeK_sound hm hG hC hgc code hl _ _ _ hk φ _ w E' S (Nat.le_refl _)) fun ex a' w' hp=>?_)
 cases ex with
 | normal=>obtain ⟨e',h',φ',h1,h2,h3,h4⟩:=hp;exact fin h1 h2 h3 h4.toExt
 | ret=>obtain ⟨e',h',φ',h1,h2,h3,h4⟩:=hp;exact fin h1 h2 h3 h4.toExt
 | exit id=>obtain ⟨e',h',φ',h1,h2,h3,h4⟩:=hp;exact h1.elim
 | panic ch=>obtain ⟨v,v',e',h',φ',h1,h2,h3,h4,h5⟩:=hp;exact h2.elim
 | goto l=>exact hp.elim
 | outgrown=>exact hp.elim

/-! ### functions that may panic -/
noncomputable def bodyKP (f:FCfg) (code:Code) (rs:List ResultVar) (args:List Value) (h:AHeap) (k:AEnd → AHeap → Prop):Prop :=
 cond (Nat.ble args.length f.N && (match f.gc with | none=>true | some b=>Nat.ble h.length b)) (codeK f code (argsE 0 args) h fun x e h'=>match x with
  | .normal=>resK f.toCfg rs e h' fun vs=>gcK h.length (oneU vs) h' fun u=>k (.ret u)
  | .ret=>resK f.toCfg rs e h' fun vs=>gcK h.length (oneU vs) h' fun u=>k (.ret u)
  | .panic v=>gcK h.length v h' fun u=>k (.pan u)
  | _=>False) False
attribute [irreducible] bodyKP

/-! ### tables of summaries -/
abbrev Spec:=List Value → AHeap → (Value → AHeap → Prop) → Prop
def tabC:List (Nat × Spec) → Nat → Spec
 | [],_=>fun _ _ _=>False
 | (i,s) :: r,f=>fun args h K=>cond (Nat.beq i f) (s args h K) (tabC r f args h K)
/-- The summary holds of the function, whatever world the law begins in. -/
def SpecOk (P:Program) (G:Nat → Option (List Value)) (fid:Nat) (s:Spec):Prop :=
 ∀ W0:World,GOk G W0 → ∀ args h K,s args h K → SoundCall W0 P fid args h K
def AllOk (P:Program) (G:Nat → Option (List Value)):List (Nat × Spec) → Prop
 | []=>True
 | (i,s) :: r=>SpecOk P G i s ∧ AllOk P G r
theorem tabC_sound {P:Program} {G:Nat → Option (List Value)} {W0:World} (hG:GOk G W0):∀ {l:List (Nat × Spec)},AllOk P G l → ∀ f args h K,tabC l f args h K → SoundCall W0 P f args h K
 | [],_,_,_,_,_,hk=>hk.elim
 | (i,s) :: r,ha,f,args,h,K,hk=>by
  simp only [tabC] at hk
  by_cases e:i = f
  · subst e
    simp only [Nat.beq_refl,cond_true] at hk
    exact ha.1 W0 hG args h K hk
  · rw [beq_ne e,cond_false] at hk
    exact tabC_sound hG ha.2 f args h K hk


attribute [irreducible] bodyK
end Go.Am

namespace Go.Am
open Go

def cap (k:IntKind):Nat:=2 ^ (if k.signed then k.bits - 1 else k.bits)
def iAnd (k:IntKind) (a b:Int):Int:=k.wrap (((BitVec.ofInt k.bits a) &&& (BitVec.ofInt k.bits b)).toNat:Int)
def iOr (k:IntKind) (a b:Int):Int:=k.wrap (((BitVec.ofInt k.bits a) ||| (BitVec.ofInt k.bits b)).toNat:Int)
def iXor (k:IntKind) (a b:Int):Int:=k.wrap (((BitVec.ofInt k.bits a) ^^^ (BitVec.ofInt k.bits b)).toNat:Int)
def iAdd (k:IntKind) (a b:Int):Int:=k.wrap (a + b)
def iSub (k:IntKind) (a b:Int):Int:=k.wrap (a - b)
def iMul (k:IntKind) (a b:Int):Int:=k.wrap (a * b)

theorem cap_le (k:IntKind):cap k ≤ 2 ^ k.bits:=by cases k <;> decide

theorem wrap_cast (k:IntKind) {n:Nat} (h:n < cap k):k.wrap (n:Int) = n:=by
 have hb:=cap_le k
 have h2:((n:Int) % (2 ^ k.bits:Int)) = n:=by
  rw [show (2 ^ k.bits:Int) = ((2 ^ k.bits:Nat):Int) from by simp]
  rw [← Int.natCast_emod,Nat.mod_eq_of_lt (by omega)]
 unfold IntKind.wrap
 simp only [h2]
 rw [if_neg]
 unfold cap at h
 cases hs:k.signed
 · simp
 · rw [hs] at h
   simp only [if_true] at h
   simp only [Bool.true_and,decide_eq_true_eq,ge_iff_le]
   rw [show (2 ^ (k.bits - 1):Int) = ((2 ^ (k.bits - 1):Nat):Int) from by simp]
   omega

theorem ofInt_toNat (w n:Nat) (h:n < 2 ^ w):(BitVec.ofInt w (n:Int)).toNat = n:=by
 rw [BitVec.toNat_ofInt,show (((2:Nat) ^ w:Nat):Int) = ((2 ^ w:Nat):Int) from rfl,← Int.natCast_emod,Int.toNat_natCast,Nat.mod_eq_of_lt h]
theorem cap_pow (k:IntKind):∃ e,cap k = 2 ^ e:=⟨_,rfl⟩
theorem iAnd_cast (k:IntKind) {a b:Nat} (ha:a < cap k) (hb:b < cap k):iAnd k a b = (a &&& b:Nat):=by
 have hc:=cap_le k
 unfold iAnd
 rw [BitVec.toNat_and,ofInt_toNat _ _ (by omega),ofInt_toNat _ _ (by omega)]
 exact wrap_cast k (Nat.lt_of_le_of_lt Nat.and_le_left ha)
theorem iOr_cast (k:IntKind) {a b:Nat} (ha:a < cap k) (hb:b < cap k):iOr k a b = (a ||| b:Nat):=by
 have hc:=cap_le k
 unfold iOr
 rw [BitVec.toNat_or,ofInt_toNat _ _ (by omega),ofInt_toNat _ _ (by omega)]
 obtain ⟨e,he⟩:=cap_pow k
 exact wrap_cast k (by rw [he] at ha hb ⊢;exact Nat.or_lt_two_pow ha hb)
theorem iXor_cast (k:IntKind) {a b:Nat} (ha:a < cap k) (hb:b < cap k):iXor k a b = (a ^^^ b:Nat):=by
 have hc:=cap_le k
 unfold iXor
 rw [BitVec.toNat_xor,ofInt_toNat _ _ (by omega),ofInt_toNat _ _ (by omega)]
 obtain ⟨e,he⟩:=cap_pow k
 exact wrap_cast k (by rw [he] at ha hb ⊢;exact Nat.xor_lt_two_pow ha hb)
theorem iAdd_cast (k:IntKind) {a b:Nat} (h:a + b < cap k):iAdd k a b = (a + b:Nat):=by
 unfold iAdd;rw [← Int.natCast_add];exact wrap_cast k h
theorem iMul_cast (k:IntKind) {a b:Nat} (h:a * b < cap k):iMul k a b = (a * b:Nat):=by
 unfold iMul;rw [← Int.natCast_mul];exact wrap_cast k h
theorem iSub_cast (k:IntKind) {a b:Nat} (hb:b ≤ a) (h:a < cap k):iSub k a b = (a - b:Nat):=by
 unfold iSub;rw [← Int.ofNat_sub hb];exact wrap_cast k (by omega)
theorem fdiv_cast (a b:Nat):Int.fdiv (a:Int) (b:Int) = (a / b:Nat):=by
 rw [Int.fdiv_eq_ediv_of_nonneg _ (Int.natCast_nonneg b),Int.natCast_ediv]
theorem tmod_cast (a b:Nat):Int.tmod (a:Int) (b:Int) = (a % b:Nat):=by
 rw [Int.tmod_eq_emod_of_nonneg (Int.natCast_nonneg a),Int.natCast_emod]
theorem tdiv_cast (a b:Nat):Int.tdiv (a:Int) (b:Int) = (a / b:Nat):=by
 rw [Int.tdiv_eq_ediv_of_nonneg (Int.natCast_nonneg a),Int.natCast_ediv]
/-- A number that is not negative. -/
theorem nat_of {n:Int} (h:0 ≤ n):∃ m:Nat,n = m:=⟨n.toNat,by omega⟩

/-- The loops of a piece of code, by their bodies. -/
def loopsIn:Code → List Code
 | .seq a b=>loopsIn a ++ loopsIn b
 | .cond _ a b=>loopsIn a ++ loopsIn b
 | .block _ a=>loopsIn a
 | .loop a=>a :: loopsIn a
 | _=>[]
end Go.Am

namespace Go.Am
open Go

abbrev LSpec:=Env → AHeap → (AExit → Env → AHeap → Prop) → Prop
def lookL:List (Nat × List Nat) → Nat → List Nat
 | [],_=>[]
 | (i,l) :: r,j=>cond (Nat.beq i j) l (lookL r j)
def lookT:List (Nat × LSpec) → Nat → Option LSpec
 | [],_=>none
 | (i,l) :: r,j=>cond (Nat.beq i j) (some l) (lookT r j)

/-- A configuration in which each result has a name of its own, but for those in 'opn'. -/
noncomputable def mkG (P:Program) (G:Nat → Option (List Value)) (tbl:List (Nat × Spec)) (N:Nat) (keep live out:List (Nat × List Nat)) (loops:List (Nat × LSpec)) (held opn:List Nat) (fuel:Nat) (base:Nat):FCfg :=
 { shut:=fun d=>cond (memB d opn) 0 2,P:=P,G:=G,C:=tabC tbl,N:=N,held:=fun i=>memB i held,loops:=lookT loops,keep:=lookL keep,live:=lookL live,out:=lookL out,fuel:=fuel,gc:=some base }

/-- The nth loop's body. -/
def nthLoop (n:Nat) (c:Code):Code:=(loopsIn c).getD n .skip
/-- The nth loop, from a state at its head. -/
noncomputable def loopN (f:FCfg) (c:Code) (n i:Nat):Nat → LSpec:=loopK f.gc (f.live i) (f.out i) (codeK f (nthLoop n c))
theorem loopN_succ (f:FCfg) (c:Code) (n i m:Nat) (e:Env) (h:AHeap) (k:AExit → Env → AHeap → Prop) :
 loopN f c n i (m + 1) e h k = gcE f.gc (keepE (f.live i) e) h (fun e h=>codeK f (nthLoop n c) e h (fun x e h=>match x with
  | .normal=>loopN f c n i m e h k
  | .exit j=>gcE f.gc (keepE (f.out i) e) h (k (.exit j))
  | .ret=>gcE f.gc (keepE (f.out i) e) h (k .ret)
  | .panic v=>k (.panic v) e h)):=loopK_succ _ _ _ _ _ _ _ _
attribute [irreducible] loopN

def EachLoop (f:FCfg) (c:Code):Nat → List Nat → Prop
 | _,[]=>True
 | j,i :: r=>(match f.loops i with | none=>True | some T=>∀ e h k,T e h k → ∃ m,loopN f c j i m e h k) ∧ EachLoop f c (j + 1) r

theorem EachLoop.get {f:FCfg} {c:Code}:∀ {l:List Nat} {j:Nat},EachLoop f c j l → ∀ t i,l[t]? = some i → ∀ T,f.loops i = some T → ∀ e h k,T e h k → ∃ m,loopN f c (j + t) i m e h k
 | [],_,_,t,i,h=>by simp at h
 | x :: r,j,hE,0,i,h=>by
  simp at h;subst h
  intro T hT
  have h1:=hE.1
  rw [hT] at h1
  exact h1
 | x :: r,j,hE,t + 1,i,h=>by
  rw [List.getElem?_cons_succ] at h
  have:=EachLoop.get hE.2 t i h
  rw [show j + 1 + t = j + (t + 1) from by omega] at this
  exact this

theorem loopsOk_each {W0:World} {f:FCfg} (hm:f.P.follows .mixedOrders = true) (hG:GOk f.G W0) (hC:SoundC f.toCfg W0) {n0:Nat} (hgc:∀ b,f.gc = some b → n0 ≤ b) :
 ∀ {code:Code},(∀ a ∈ loopsIn code,∀ T,f.loops (firstReg a) = some T → ∀ e h k,T e h k → ∃ m,loopK f.gc (f.live (firstReg a)) (f.out (firstReg a)) (codeK f a) m e h k) → LoopsOk W0 f n0 code
 | .seq a b,h=>⟨loopsOk_each hm hG hC hgc fun x hx=>h x (by simp [loopsIn,hx]),loopsOk_each hm hG hC hgc fun x hx=>h x (by simp [loopsIn,hx])⟩
 | .cond _ a b,h=>⟨loopsOk_each hm hG hC hgc fun x hx=>h x (by simp [loopsIn,hx]),loopsOk_each hm hG hC hgc fun x hx=>h x (by simp [loopsIn,hx])⟩
 | .block _ a,h=>loopsOk_each hm hG hC hgc (code:=a) fun x hx=>h x (by simp [loopsIn,hx])
 | .loop a,h=>by
  have hi:LoopsOk W0 f n0 a:=loopsOk_each hm hG hC hgc fun x hx=>h x (by simp [loopsIn,hx])
  refine ⟨hi,fun T hT e h' k hk=>?_⟩
  obtain ⟨m,hm'⟩:=h a (by simp [loopsIn]) T hT e h' k hk
  exact Wp.rounds hm hG hC hgc hi _ _ m hm'
 | .skip,_=>trivial
 | .region _ _ _,_=>trivial
 | .rangeFunc _ _ _ _,_=>trivial
 | .exit _,_=>trivial
 | .scope _,_=>trivial
 | .label _,_=>trivial
 | .goto _,_=>trivial
 | .ret,_=>trivial
 | .refuse _,_=>trivial

/-- A summary out of what the text computes. -/
theorem spec2 {P:Program} {G:Nat → Option (List Value)} {tbl:List (Nat × Spec)} (hm:P.follows .mixedOrders = true) (ht:AllOk P G tbl) {fid:Nat} {fn:Func} {code:Code} (hf:P.funcs[fid]? = some fn) (hb:fn.body = some code)
 (f:FCfg) (hP:f.P = P) (hG:f.G = G) (hC:f.C = tabC tbl) (hN:f.N = fn.ntmps) {ids:List Nat} (hids:(loopsIn code).map firstReg = ids) (hl:EachLoop f code 0 ids)
 {s:Spec} (hs:∀ args h K,s args h K → bodyK f code fn.results.toList args h K) (hpc:∀ i,f.PC i = none:=by exact fun _=>rfl):SpecOk P G fid s:=by
 subst hP hG
 intro W0 hG args h K hk
 have hC':SoundC f.toCfg W0:=fun _ hW=>⟨fun g a h K hk=>tabC_sound (hW.elim (fun e=>e ▸ hG) id) ht g a h K (by rw [← hC];exact hk),fun i _ h=>by rw [hpc i] at h;cases h⟩
 have hbk:=hs args h K hk
 have hgc:∀ b,f.gc = some b → h.length ≤ b:=fun b hb=>by
  unfold bodyK at hbk
  obtain ⟨hn,_⟩:=cond_prop hbk
  simp only [Bool.and_eq_true] at hn
  have hn:=hn.2
  rw [hb] at hn
  exact Nat.le_of_ble_eq_true hn
 refine fn_sound hm hG hC' hf hb hN (loopsOk_each hm hG hC' hgc fun a ha T hT e h k hT'=>?_) hbk
 obtain ⟨t,ht'⟩:=List.getElem?_of_mem ha
 have h1:ids[t]? = some (firstReg a):=by rw [← hids,List.getElem?_map,ht'];rfl
 have h2:=EachLoop.get hl t (firstReg a) h1 T hT e h k hT'
 rw [Nat.zero_add] at h2
 have h3:nthLoop t code = a:=by unfold nthLoop;rw [List.getD_eq_getElem?_getD,ht'];rfl
 unfold loopN at h2
 rw [h3] at h2
 exact h2

/-! ### what the printed equations are simplified by -/

theorem iAdd_i64 {a b:Int} (h0:-9223372036854775808 ≤ a + b) (h1:a + b ≤ 9223372036854775807):iAdd .i64 a b = a + b:=wrap_i64 h0 h1
theorem iSub_i64 {a b:Int} (h0:-9223372036854775808 ≤ a - b) (h1:a - b ≤ 9223372036854775807):iSub .i64 a b = a - b:=wrap_i64 h0 h1
theorem iMul_i64 {a b:Int} (h0:-9223372036854775808 ≤ a * b) (h1:a * b ≤ 9223372036854775807):iMul .i64 a b = a * b:=wrap_i64 h0 h1
theorem wrap_u {k:IntKind} (hs:k.signed = false) (n:Int):k.wrap n = n % (2 ^ k.bits:Nat):=by
 cases k <;> simp [IntKind.signed] at hs <;> simp [IntKind.wrap,IntKind.bits,IntKind.signed]
theorem wrap_u8 {n:Int} (h0:0 ≤ n) (h1:n ≤ 255):IntKind.u8.wrap n = n:=by rw [wrap_u rfl];simp [IntKind.bits];omega
theorem wrap_u16 {n:Int} (h0:0 ≤ n) (h1:n ≤ 65535):IntKind.u16.wrap n = n:=by rw [wrap_u rfl];simp [IntKind.bits];omega
theorem wrap_u32 {n:Int} (h0:0 ≤ n) (h1:n ≤ 4294967295):IntKind.u32.wrap n = n:=by rw [wrap_u rfl];simp [IntKind.bits];omega
theorem wrap_u64 {n:Int} (h0:0 ≤ n) (h1:n ≤ 18446744073709551615):IntKind.u64.wrap n = n:=by rw [wrap_u rfl];simp [IntKind.bits];omega
end Go.Am

namespace Go.Am
open Go Go.RowKit Go.WideShapes Go.ChangeShapes



section
variable {H:Type} {enc:TypeId × Value → H} {P:Program}
theorem post_of_below {f:Func} {s:ChangeSpec} {apart fresh handsOn again:Bool} {W W':World} {args:Array Value} {v:Value} {ds gs:List (DataW H)} {before pa pv:List MemPlace}
 (hW:DataW.Whole enc P f.params.toList s.vars apart W args.toList ds gs before)
 (hres:∀ (b:Nat) (sp:Nat → Bool) (hd:Bool),DataW.TrodAll enc P W' b sp hd f.resultTypes.toList (v.resultList f.resultTypes.size) (s.fn H (ds ++ gs)).results [])
 (hargs:∀ sp:Nat → Bool,(∀ p ∈ before,sp p.block = true) → DataW.TrodAll enc P W' 0 sp true f.params.toList args.toList (s.fn H (ds ++ gs)).args pa)
 (hvars:∀ sp:Nat → Bool,(∀ p ∈ before,sp p.block = true) → DataW.TrodVars enc P W' sp s.vars (s.fn H (ds ++ gs)).vars pv)
 (hps:before = pa ++ pv) (hb:Below W.heap.size W W')
 (hok:∀ (j:Nat) (t:TypeId) (r:Value),f.resultTypes[j]? = some t → (v.resultList f.resultTypes.size)[j]? = some r → Value.okWide P W' .any 0 t r) :
 s.post enc P f apart fresh handsOn again W args v W':=by
 have hlt:∀ p ∈ before,p.block < W.heap.size:=fun p hp=>hW.lt p hp
 have hold:∀ p ∈ before,(fun b=>decide (b < W.heap.size)) p.block = true:=fun p hp=>by simpa using hlt p hp
 refine ⟨ds,gs,before,[],pa,pv,hW,hres _ _ _,hargs _ hold,hvars _ hold,World.keptBut_mono (fun p hp=>⟨hp,?_⟩) (hb.frame (· ∈ before)),fun _=>?_⟩
 · rw [hps,List.mem_append] at hp
   exact Or.inr hp
 · obtain ⟨_,_,_,_,_,hz,hn⟩:=hW
   refine ⟨hok,_,_,([] ++ pa) ++ pv,⟨[] ++ pa,pv,trodAll_append (hargs _ (fun _ _=>rfl)) (hres _ _ _),hvars _ (fun _ _=>rfl),rfl,?_,?_⟩,?_⟩
   · intro b off hp
     have hin:MemPlace.cell b off ∈ before:=by rw [hps];simpa using hp
     rw [hb.frozen (hlt _ hin)]
     exact hz b off hin
   · intro ha
     have:=hn ha
     rw [hps] at this
     simpa using this
   · intro p hp _
     rw [hps]
     simpa using hp
end
end Go.Am

namespace Go.Am
open Go Go.RowKit Go.WideShapes Go.ChangeShapes

section
variable {H:Type} {enc:TypeId × Value → H} {P:Program}
theorem trodAll_stays (hl:laidOutB P = true) {W W':World} {sp':Nat → Bool}:∀ {ts:List TypeId} {vs:List Value} {ds:List (DataW H)} {ps:List MemPlace},(ts.all fun t=>P.readableRec t && decide (t < P.types.size)) = true →
 DataW.TrodAll enc P W 0 (fun _=>true) true ts vs ds ps → (∀ p ∈ ps,W.sameAt W' p) → (∀ p ∈ ps,sp' p.block = true) → DataW.TrodAll enc P W' 0 sp' true ts vs ds ps
 | [],_,_,_,_,h,_,_=>by
  obtain ⟨rfl,rfl,rfl⟩:=trodAll_nil h
  exact trodAll_mk0
 | t :: ts,_,_,_,ha,h,h1,h2=>by
  obtain ⟨v,vs,d,ds',p,q,rfl,rfl,rfl,hd,hr⟩:=trodAll_cons h
  rw [List.all_cons,Bool.and_eq_true,Bool.and_eq_true,decide_eq_true_eq] at ha
  exact trodAll_cons_mk (WideElems.Trod_stays hl ha.1.1 ha.1.2 hd (fun x hx=>h1 x (List.mem_append_left _ hx)) (fun x hx=>h2 x (List.mem_append_left _ hx)))
   (trodAll_stays hl ha.2 hr (fun x hx=>h1 x (List.mem_append_right _ hx)) (fun x hx=>h2 x (List.mem_append_right _ hx)))

/-- A law answered true, and nothing that was there has changed. -/
theorem post_law {f:Func} {s:ChangeSpec} {apart fresh handsOn again:Bool} {W W':World} {args:Array Value} {ds gs:List (DataW H)} {before:List MemPlace} {tb:TypeId}
 (hl:laidOutB P = true) (hpar:(f.params.toList.all fun t=>P.readableRec t && decide (t < P.types.size)) = true) (hv:s.vars = [])
 (hW:DataW.Whole enc P f.params.toList s.vars apart W args.toList ds gs before)
 (hres:(s.fn H (ds ++ gs)).results = [.lit (.bool true)]) (hargs:(s.fn H (ds ++ gs)).args = ds) (hvars:(s.fn H (ds ++ gs)).vars = [])
 (hr:f.resultTypes = #[tb]) (hbool:P.underlying tb = some .bool) (hb:Below W.heap.size W W'):s.post enc P f apart fresh handsOn again W args (.bool true) W':=by
 have hW0:=hW
 obtain ⟨p,q,hA,hV,hpq,_,_⟩:=hW
 rw [hv] at hV
 obtain ⟨hg,hq⟩:=trodVars_none hV
 subst hq
 have hlt:∀ x ∈ p,x.block < W.heap.size:=fun x hx=>hW0.lt x (by rw [hpq];exact List.mem_append_left _ hx)
 refine post_of_below (pa:=p) (pv:=[]) hW0 (fun _ _ _=>?_) (fun sp hsp=>?_) (fun _ _=>?_) hpq hb ?_
 · rw [hres,hr]
   exact trodAll_cons_mk (shut_bool hbool _) trodAll_mk0
 · rw [hargs]
   exact trodAll_stays hl hpar hA (fun x hx=>hb.same (hlt x hx)) (fun x hx=>hsp x (by rw [hpq];exact List.mem_append_left _ hx))
 · rw [hv,hvars];rfl
 · exact ok_one hr rfl (okWide_bool_mk hbool _)
end


/-- The function's own text as its summary. -/
noncomputable def inl (f:FCfg) (code:Code) (rs:List ResultVar):Spec:=fun args h K=>bodyK f code rs args h K
theorem eachNone {f:FCfg} {c:Code} (hn:∀ i,f.loops i = none):∀ (l:List Nat) (j:Nat),EachLoop f c j l
 | [],_=>trivial
 | i :: r,j=>⟨by rw [hn i];trivial,eachNone hn r (j + 1)⟩
end Go.Am

namespace Go.Am
open Go Go.RowKit Go.WideShapes Go.ChangeShapes

section
variable {H:Type} {enc:TypeId × Value → H} {P:Program} {w:World} {base:Nat} {spare:Nat → Bool} {held:Bool} {r:Reach} {b0:Nat} {t:TypeId} {v:Value} {d:DataW H} {p:List MemPlace}
theorem okWide_agg (ht:(∃ fs,P.underlying t = some (.struct fs)) ∨ ∃ n e,P.underlying t = some (.array n e)) (h:Value.okWide P w r b0 t v):∃ cs,v = .agg cs:=by
 unfold Value.okWide at h
 rcases ht with ⟨fs,ht⟩ | ⟨n,e,ht⟩
 · rw [ht] at h;obtain ⟨cs,rfl,_⟩:=h;exact ⟨cs,rfl⟩
 · rw [ht] at h;obtain ⟨cs,rfl,_⟩:=h;exact ⟨cs,rfl⟩
end

/-! ### slices whose elements are one cell -/
theorem add_at (b o j:Nat):(⟨b,o,none⟩:Addr).add j = ⟨b,o + j,none⟩:=by
 unfold Addr.add
 split
 · rename_i h;rw [h];rfl
 · rfl
end Go.Am

namespace Go.Am
open Go Go.RowKit Go.WideShapes Go.ChangeShapes


section
variable {H:Type} {enc:TypeId × Value → H} {P:Program} {w:World} {r:Reach} {b0:Nat} {t e:TypeId} {v:Value} {d:DataW H} {p:List MemPlace}
theorem okWide_slice (ht:P.underlying t = some (.slice e)) (h:Value.okWide P w r b0 t v):v = .slice none 0 0 ∨ ∃ a len cap,v = .slice (some a) len cap ∧ len ≤ cap ∧ a.spot = none ∧ ∃ row sz,w.shape? a.block = some (row,sz):=by
 unfold Value.okWide at h
 rw [ht] at h
 dsimp only at h
 unfold Cell.okWide at h
 rw [ht] at h
 cases v with
 | slice a len cap =>
  unfold Cell.ok at h
  rw [ht] at h
  cases a with
  | none =>
   left
   cases len with
   | zero=>cases cap with
    | zero=>rfl
    | succ n=>exact h.elim
   | succ n=>exact h.elim
  | some a =>
   right
   obtain ⟨h1,_,_,h2,row,sz,h3,_⟩:=h
   exact ⟨a,len,cap,rfl,h1,h2,row,sz,h3⟩
 | _=>unfold Cell.ok at h;rw [ht] at h;exact h.elim
end
end Go.Am

namespace Go.Am
open Go Go.RowKit Go.WideShapes Go.ChangeShapes


section
variable {H:Type} {enc:TypeId × Value → H} {P:Program} {w:World} {r:Reach} {b0:Nat} {t e:TypeId} {v:Value} {d:DataW H} {p:List MemPlace}
/-- A slice of structs whose fields are one cell each. -/
theorem structs_arg {fs:Array Field} (ht:P.underlying t = some (.slice e)) (he:P.underlying e = some (.struct fs)) (hone:fs.toList.zipIdx.all (fun q=>Nat.beq q.1.offset q.2 && Nat.beq (P.cellsOf q.1.type) 1) = true) (hC:P.cellsOf e = fs.size)
 (hv:Value.okWide P w r b0 t v) (h:DataW.Trod enc P w 0 (fun _=>true) true t v d p) :
 v = .slice none 0 0 ∨ ∃ (a:Addr) (len cap row sz n:Nat) (V:Nat → Value),v = .slice (some a) len cap ∧ len ≤ cap ∧ cap ≤ maxLen ∧ a.spot = none ∧ w.shape? a.block = some (row,sz) ∧ (∀ i,i < cap * fs.size → w.cell? (a.add i) = some (V i)) ∧
  ∀ i,i < cap → ∀ (j:Nat) (f:Field),fs[j]? = some f → ∃ y,DataW.trod enc P w 0 (fun _=>true) true n f.type [V (i * fs.size + j)] = some y:=by
 obtain ⟨n,hn⟩:=h
 rcases okWide_slice ht hv with rfl | ⟨a,len,cap,rfl,hle,hsp,row,sz,hsh⟩
 · exact .inl rfl
 · right
   rcases Deep.open_slice ht hn with ⟨h0,_⟩ | ⟨a',len',cap',m,n',D,Pl,h1,_,_,hmax,hm,_,hel⟩
   · cases h0
   · have h1:[Value.slice (some a) len cap] = [Value.slice (some a') len' cap']:=h1
     injection h1 with h1 _
     injection h1 with q1 q2 q3
     injection q1 with q1
     subst q1 q2 q3
     have hm:cap = m:=hm.symm
     subst hm
     refine ⟨a,len,cap,row,sz,n' - 1,fun k=>(w.cell? (a.add k)).getD undef,rfl,hle,hmax,hsp,hsh,?_,?_⟩
     · intro k hk
       have h0:0 < fs.size:=by
        rcases Nat.eq_zero_or_pos fs.size with e0 | e0
        · rw [e0,Nat.mul_zero] at hk;omega
        · exact e0
       have hi:k / fs.size < cap:=(Nat.div_lt_iff_lt_mul h0).2 hk
       have hj:k % fs.size < fs.size:=Nat.mod_lt _ h0
       obtain ⟨cs',g1,g2⟩:=hel _ hi
       rw [hC] at g1
       obtain ⟨_,gl,gat⟩:=World.cells?_some g1
       have g3:=gat _ hj
       rw [Deep.add_add,show k / fs.size * fs.size + k % fs.size = k from Nat.div_add_mod' k fs.size,List.getElem?_eq_getElem (by omega)] at g3
       dsimp only
       rw [g3];rfl
     · intro i hi j f hj
       have hjl:j < fs.size:=(Array.getElem?_eq_some_iff.1 hj).1
       obtain ⟨cs',g1,g2⟩:=hel i hi
       rw [hC] at g1
       obtain ⟨_,gl,gat⟩:=World.cells?_some g1
       have g3:=gat j hjl
       rw [Deep.add_add,List.getElem?_eq_getElem (by omega)] at g3
       obtain ⟨xs,m',hfu,_,hlen,hxl,hf⟩:=DataW.trod_struct he g2
       have hf:=hf j f hj
       have h2:f.offset = j ∧ P.cellsOf f.type = 1:=by
        have hm:(f,j) ∈ fs.toList.zipIdx:=by
         rw [List.mem_zipIdx_iff_getElem?]
         simpa using hj
        have:=List.all_eq_true.1 hone _ hm
        rw [Bool.and_eq_true] at this
        exact ⟨Nat.eq_of_beq_eq_true this.1,Nat.eq_of_beq_eq_true this.2⟩
       have h3:(cs'.drop f.offset).take (P.cellsOf f.type) = [cs'[j]'(by omega)]:=by
        rw [h2.1,h2.2,List.drop_eq_getElem_cons (by omega)];rfl
       rw [h3,List.getElem?_eq_getElem (by omega)] at hf
       dsimp only
       rw [g3]
       have:n' - 1 = m':=by omega
       rw [this]
       exact ⟨_,hf⟩
end
end Go.Am

namespace Go.Am.Lib
open Go Go.Am

/-! ### conditions -/
theorem dT {p:Prop} [Decidable p] (h:p) {A B:Prop}:cond (decide p) A B = A:=by rw [decide_eq_true h,cond_true]
theorem dF {p:Prop} [Decidable p] (h:¬ p) {A B:Prop}:cond (decide p) A B = B:=by rw [decide_eq_false h,cond_false]
theorem dnT {p:Prop} [Decidable p] (h:p) {A B:Prop}:cond (!decide p) A B = B:=by rw [decide_eq_true h,Bool.not_true,cond_false]
theorem dnF {p:Prop} [Decidable p] (h:¬ p) {A B:Prop}:cond (!decide p) A B = A:=by rw [decide_eq_false h,Bool.not_false,cond_true]
theorem dT2 {p q:Prop} [Decidable p] [Decidable q] (hp:p) (hq:q) {A B:Prop}:cond (decide p && decide q) A B = A:=by rw [decide_eq_true hp,decide_eq_true hq,Bool.and_self,cond_true]
theorem dT3 {p q r:Prop} [Decidable p] [Decidable q] [Decidable r] (hp:p) (hq:q) (hr:r) {A B:Prop}:cond (decide p && decide q && decide r) A B = A:=by rw [decide_eq_true hp,decide_eq_true hq,decide_eq_true hr,Bool.and_self,Bool.and_self,cond_true]
theorem isInt_int (k:IntKind) (n:Int):isInt k (.int k n) = true:=decide_eq_true rfl
theorem intOf_int (k:IntKind) (n:Int):intOf (.int k n) = n:=rfl
theorem cap64:cap .i64 = 9223372036854775808:=by decide
theorem cap8:cap .u8 = 256:=by decide
theorem cap16:cap .u16 = 65536:=by decide
theorem wrap8 (N:Nat):IntKind.u8.wrap ((N:Nat):Int) = ((N % 256:Nat):Int):=by rw [wrap_u rfl];simp [IntKind.bits]
theorem wrap16 (N:Nat):IntKind.u16.wrap ((N:Nat):Int) = ((N % 65536:Nat):Int):=by rw [wrap_u rfl];simp [IntKind.bits]
theorem w64 {n:Nat} (h:n < 9223372036854775808):IntKind.i64.wrap ((n:Nat):Int) = n:=wrap_cast .i64 (by rw [cap64];exact h)

/-! ### strings -/
def byteAt (s:ByteArray) (i:Nat):Nat:=(s.data.toList.getD i 0).toNat
theorem byteAt_lt (s:ByteArray) (j:Nat):byteAt s j < 256:=UInt8.toNat_lt _
theorem size_list (s:ByteArray):s.data.toList.length = s.size:=by rw [Array.length_toList];rfl
theorem byteAt_cut (d:ByteArray) {a e j:Nat}:byteAt (d.extract a e) j = if a + j < e then byteAt d (a + j) else 0:=by
 unfold byteAt
 rw [ByteArray.data_extract,Array.toList_extract,List.getD_eq_getElem?_getD,List.getD_eq_getElem?_getD,List.extract_eq_take_drop]
 split
 · next h=>rw [List.getElem?_take_of_lt (by omega),List.getElem?_drop]
 · next h=>rw [List.getElem?_eq_none (by rw [List.length_take];omega)];rfl
theorem bytes_eq {a b:ByteArray} (hs:a.size = b.size) (h:∀ j,j < a.size → byteAt a j = byteAt b j):a = b:=by
 apply ByteArray.ext
 apply Array.toList_inj.1
 apply List.ext_getElem?
 intro i
 by_cases hi:i < a.size
 · have:=h i hi
   unfold byteAt at this
   have ha:i < a.data.toList.length:=by rw [size_list];exact hi
   have hb:i < b.data.toList.length:=by rw [size_list];omega
   rw [List.getD_eq_getElem?_getD,List.getD_eq_getElem?_getD,List.getElem?_eq_getElem ha,List.getElem?_eq_getElem hb,Option.getD_some,Option.getD_some] at this
   rw [List.getElem?_eq_getElem ha,List.getElem?_eq_getElem hb,UInt8.toNat_inj.1 this]
 · rw [List.getElem?_eq_none (by rw [size_list];omega),List.getElem?_eq_none (by rw [size_list];omega)]
theorem byteAt_append (a b:ByteArray) (j:Nat):byteAt (a ++ b) j = if j < a.size then byteAt a j else byteAt b (j - a.size):=by
 unfold byteAt
 rw [ByteArray.data_append,Array.toList_append,List.getD_eq_getElem?_getD,List.getElem?_append,size_list]
 split
 · rw [List.getD_eq_getElem?_getD]
 · rw [List.getD_eq_getElem?_getD]
theorem strEq_iff {a b:ByteArray}:strEq a b = true ↔ a = b:=by
 have key:∀ l r:List UInt8,eqLB l r = true ↔ l = r:=by
  intro l
  induction l with
  | nil=>intro r;cases r <;> simp [eqLB]
  | cons x l ih =>
   intro r
   cases r with
   | nil=>simp [eqLB]
   | cons y r =>
    unfold eqLB
    rw [Bool.and_eq_true,ih r,List.cons.injEq]
    constructor
    · rintro ⟨h1,h2⟩
      exact ⟨UInt8.toNat_inj.1 (Nat.eq_of_beq_eq_true h1),h2⟩
    · rintro ⟨rfl,h2⟩
      exact ⟨Nat.beq_refl _,h2⟩
 unfold strEq
 rw [key]
 exact ⟨fun h=>ByteArray.ext (Array.toList_inj.1 h),fun h=>by rw [h]⟩
theorem strEq_ne {a b:ByteArray} (h:a ≠ b):strEq a b = false:=by rw [← Bool.not_eq_true,strEq_iff];exact h
theorem bytesX {s:ByteArray} {l:List Value} (hl:l.length = s.size) (h:∀ t,t < s.size → l[t]? = some (.int .u8 ((byteAt s t:Nat):Int))):bytesOf l = s:=by
 apply ByteArray.ext
 apply Array.toList_inj.1
 unfold bytesOf
 apply List.ext_getElem?
 intro t
 rw [List.getElem?_map]
 by_cases ht:t < s.size
 · rw [h t ht]
   unfold byteAt
   rw [List.getD_eq_getElem?_getD,List.getElem?_eq_getElem (by rw [size_list];omega),Option.getD_some,Option.map_some,intOf_int,Int.toNat_natCast,UInt8.ofNat_toNat]
 · rw [List.getElem?_eq_none (by omega),List.getElem?_eq_none (by rw [size_list];omega)];rfl
theorem bytesV_length (s:ByteArray):(bytesV s).length = s.size:=by unfold bytesV;rw [List.length_map,size_list]
theorem bytesV_get (s:ByteArray) {j:Nat} (hj:j < s.size):(bytesV s)[j]? = some (.int .u8 ((byteAt s j:Nat):Int)):=by
 unfold bytesV byteAt
 have h:j < s.data.toList.length:=by rw [size_list];exact hj
 rw [List.getElem?_map,List.getD_eq_getElem?_getD,List.getElem?_eq_getElem h];rfl
theorem bytesOf_V (s:ByteArray):bytesOf (bytesV s) = s:=bytesX (bytesV_length s) fun _ ht=>bytesV_get s ht

/-! ### rows -/
theorem getD_set (l:List Value) (i j:Nat) (v:Value) (h:j < l.length):(l.set i v).getD j undef = if i = j then v else l.getD j undef:=by
 rw [List.getD_eq_getElem?_getD,List.getD_eq_getElem?_getD,List.getElem?_set]
 by_cases e:i = j
 · subst e;rw [if_pos rfl,if_pos rfl,if_pos h];rfl
 · rw [if_neg e,if_neg e]
def wv (vs:List Value) (j:Nat):Nat:=(intOf (vs.getD j undef)).toNat
end Go.Am.Lib

namespace Go.Am
open Go Go.RowKit
set_option maxRecDepth 100000

/-- A summary, as a contract of the kit's. -/
theorem calls_flat {P:Program} {G:Nat → Option (List Value)} {f:FuncId} {s:Spec} (hs:SpecOk P G f s) {W0:World} (hG:GOk G W0) {w:World} (hold:∀ n,n < W0.heap.size → w.heap[n]? = W0.heap[n]?) (hsz:W0.heap.size ≤ w.heap.size)
 {args:List Value} (ha:flatL args = true) {v:Value} (hv:flat v = true) (h:s args [] fun u h=>u = v ∧ h = []):Calls P f ⟨args⟩ w fun e w'=>e = .returned v ∧ Below w.heap.size w w':=by
 have hG':GOk G w:=by
  intro g vs hg
  obtain ⟨a1,a2,cs,t,fr,rest,a3,a4⟩:=hG g vs hg
  exact ⟨a1,Nat.lt_of_lt_of_le a2 hsz,cs,t,fr,rest,(hold g a2).trans a3,a4⟩
 have S:Sim w [] [] w:={ os:=rfl,tape:=rfl,out:=rfl,size:=Nat.le_refl _,old:=fun _ _=>rfl,len:=rfl,blk:=fun i o p h=>by simp at h,inj:=fun i j p q h=>by simp [liveB] at h }
 refine (hs w hG' args [] _ h [] w ⟨args⟩ S (VRL_flatL ha)).mono ?_
 rintro e w' ⟨v',u,h',φ',rfl,⟨rfl,rfl⟩,hvr,S1,_⟩
 rw [(VR_flat _ _ _ hv).1 hvr]
 exact ⟨rfl,{ os:=S1.os,tape:=S1.tape,output:=S1.out,size:=S1.size,block:=fun n hn=>S1.old n hn }⟩
end Go.Am
