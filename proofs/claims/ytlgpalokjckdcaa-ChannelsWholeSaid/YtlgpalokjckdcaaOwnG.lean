/-
 A region that draws its order: one invariant serves all orders. Own work.
-/
import Derived.Test.YtlgpalokjckdcaaAmY
import Derived.Deep.RegionLaw
namespace Go.Am.Own
open Go Go.Am Go.RowKit
set_option maxRecDepth 100000

section any
variable {P:Program} {ops:Array Oper} {md:Region.Mode} {Q:Exit → Act → World → Prop}
/-- How many operations have not come up. -/
def unl (l:Array Bool):Nat:=l.toList.countP (fun b=>!b)
theorem countP_set:∀ (l:List Bool) (i:Nat),l[i]? = some false → (l.set i true).countP (fun b=>!b) + 1 = l.countP (fun b=>!b)
 | [],_,h=>by cases h
 | b :: l,0,h=>by
  have h:b = false:=by simpa using h
  subst h
  simp
 | b :: l,i + 1,h=>by
  have:=countP_set l i (by simpa using h)
  simp only [List.set_cons_succ,List.countP_cons]
  omega
theorem unl_set {l:Array Bool} {i:Nat} (h:l.getD i true = false):unl (l.setIfInBounds i true) + 1 = unl l:=by
 unfold unl
 rw [Array.toList_setIfInBounds]
 refine countP_set _ _ ?_
 rw [Array.getElem?_toList]
 rw [Array.getD_eq_getD_getElem?] at h
 cases e:l[i]? with
 | none=>rw [e] at h;cases h
 | some b=>rw [e] at h;exact congrArg some h
theorem ready_nil_of {l:Array Bool} (h:unl l = 0):Region.ready md ops l = []:=by
 refine List.eq_nil_iff_forall_not_mem.2 fun i hi=>?_
 have h0:=(mem_ready.1 hi).1
 have:=unl_set h0
 omega
theorem wpAny_inv (I:Array Bool → Act → World → Prop)
 (step:∀ l a w i,I l a w → i ∈ Region.ready md ops l → wpOp P ops Q i (fun a' w'=>I (l.setIfInBounds i true) a' w') a w)
 (fin:∀ l a w,I l a w → Region.ready md ops l = [] → Q .normal a w) :
 ∀ (fuel:Nat) (l:Array Bool) (a:Act) (w:World),I l a w → unl l ≤ fuel → wpAny P md ops Q fuel l a w
 | 0,l,a,w,h,hu=>⟨ready_nil_of (Nat.le_zero.1 hu),fin l a w h (ready_nil_of (Nat.le_zero.1 hu))⟩
 | fuel + 1,l,a,w,h,hu=>⟨fin l a w h,fun i hi=>wpOp_mono (fun a' w' h'=>wpAny_inv I step fin fuel _ a' w' h' (by have:=unl_set (mem_ready.1 hi).1;omega)) (step l a w i h hi)⟩
end any

/-! ### the temporaries -/
def stepT (ops:List Oper) (L:Nat → Bool) (σ:Nat → Value) (t:Array Value) (q:Nat):Array Value :=
 if L q then (match (ops[q]?).bind (·.dst) with
  | some d=>t.setIfInBounds d (σ q)
  | none=>t) else t
def foldT (ops:List Oper) (L:Nat → Bool) (σ:Nat → Value) (l:List Nat) (t:Array Value):Array Value:=l.foldl (stepT ops L σ) t
def upB (L:Nat → Bool) (i:Nat):Nat → Bool:=fun j=>if j = i then true else L j
def upV (σ:Nat → Value) (i:Nat) (v:Value):Nat → Value:=fun j=>if j = i then v else σ j
@[simp] theorem upB_same (L:Nat → Bool) (i:Nat):upB L i i = true:=if_pos rfl
@[simp] theorem upV_same (σ:Nat → Value) (i:Nat) (v:Value):upV σ i v i = v:=if_pos rfl
theorem upB_other {L:Nat → Bool} {i j:Nat} (h:j ≠ i):upB L i j = L j:=if_neg h
theorem upV_other {σ:Nat → Value} {i j:Nat} {v:Value} (h:j ≠ i):upV σ i v j = σ j:=if_neg h
theorem upB_of {L:Nat → Bool} {i j:Nat} (h:L j = true):upB L i j = true:=by unfold upB;split <;> simp [h]
/-- The temporaries of a region's operations are apart. -/
def dstsOk (ops:List Oper) (n:Nat):Bool:=((ops.filterMap (·.dst)).all (· < n)) && decide ((ops.filterMap (·.dst)).Nodup)
def dstOf (ops:List Oper) (q:Nat):Option Nat:=(ops[q]?).bind (·.dst)
theorem dst_inj {ops:List Oper} (h:(ops.filterMap (·.dst)).Nodup):∀ {i j d},dstOf ops i = some d → dstOf ops j = some d → i = j:=by
 induction ops with
 | nil=>intro i j d h1;cases h1
 | cons o l ih =>
  intro i j d h1 h2
  have hl:(l.filterMap (·.dst)).Nodup:=by
   cases ho:o.dst with
   | none=>rw [List.filterMap_cons_none ho] at h;exact h
   | some d=>rw [List.filterMap_cons_some ho] at h;exact (List.nodup_cons.1 h).2
  have mem:∀ {k d},dstOf l k = some d → d ∈ l.filterMap (·.dst):=fun {k d} hk=>by
   unfold dstOf at hk
   cases e:l[k]? with
   | none=>rw [e] at hk;cases hk
   | some x=>rw [e] at hk;exact List.mem_filterMap.2 ⟨x,List.mem_of_getElem? e,hk⟩
  match i,j with
  | 0,0=>rfl
  | 0,j + 1 =>
   have ho:o.dst = some d:=h1
   rw [List.filterMap_cons_some ho] at h
   exact absurd (mem (k:=j) h2) (List.nodup_cons.1 h).1
  | i + 1,0 =>
   have ho:o.dst = some d:=h2
   rw [List.filterMap_cons_some ho] at h
   exact absurd (mem (k:=i) h1) (List.nodup_cons.1 h).1
  | i + 1,j + 1=>rw [ih hl (i:=i) (j:=j) (d:=d) h1 h2]
theorem foldT_out {ops:List Oper} {L:Nat → Bool} {σ:Nat → Value} {d:Nat}:∀ (l:List Nat) (t:Array Value),(∀ q ∈ l,L q = true → dstOf ops q ≠ some d) → (foldT ops L σ l t)[d]? = t[d]?
 | [],_,_=>rfl
 | q :: l,t,h=>by
  show (foldT ops L σ l (stepT ops L σ t q))[d]? = _
  rw [foldT_out l _ fun q hq=>h q (List.mem_cons_of_mem _ hq)]
  have h0:=h q List.mem_cons_self
  unfold stepT
  split
  · rename_i hq
    split
    · rename_i e he
      have:e ≠ d:=fun e1=>h0 hq (by unfold dstOf;rw [he,e1])
      rw [Array.getElem?_setIfInBounds_ne this]
    · rfl
  · rfl
theorem foldT_in {ops:List Oper} {L:Nat → Bool} {σ:Nat → Value} {d i:Nat} (hinj:∀ {i j d},dstOf ops i = some d → dstOf ops j = some d → i = j) (hi:dstOf ops i = some d) (hL:L i = true):∀ (l:List Nat) (t:Array Value),d < t.size → i ∈ l → l.Nodup → (foldT ops L σ l t)[d]? = some (σ i)
 | [],_,_,h,_=>by cases h
 | q :: l,t,hd,h,hn=>by
  show (foldT ops L σ l (stepT ops L σ t q))[d]? = _
  by_cases e:q = i
  · subst e
    rw [foldT_out l _ fun q' hq' _ h2=>(List.nodup_cons.1 hn).1 (by rw [hinj hi h2];exact hq')]
    unfold stepT
    rw [if_pos hL]
    unfold dstOf at hi
    rw [hi]
    show (t.setIfInBounds d (σ q))[d]? = _
    rw [Array.getElem?_setIfInBounds_self_of_lt hd]
  · have hm:i ∈ l:=(List.mem_cons.1 h).resolve_left fun e'=>e e'.symm
    refine foldT_in hinj hi hL l _ ?_ hm (List.nodup_cons.1 hn).2
    unfold stepT
    split
    · split <;> simp [hd]
    · exact hd
theorem stepT_other {ops:List Oper} {L:Nat → Bool} {σ:Nat → Value} {i q:Nat} {v:Value} (h:q ≠ i) (t:Array Value):stepT ops (upB L i) (upV σ i v) t q = stepT ops L σ t q:=by
 unfold stepT
 rw [upB_other h,upV_other h]
theorem foldT_other {ops:List Oper} {L:Nat → Bool} {σ:Nat → Value} {i:Nat} {v:Value}:∀ (l:List Nat) (t:Array Value),i ∉ l → foldT ops (upB L i) (upV σ i v) l t = foldT ops L σ l t
 | [],_,_=>rfl
 | q :: l,t,h=>by
  have h1:q ≠ i:=fun e=>h (by rw [e];exact List.mem_cons_self)
  show foldT ops _ _ l (stepT ops _ _ t q) = foldT ops L σ l (stepT ops L σ t q)
  rw [stepT_other h1,foldT_other l _ fun hm=>h (List.mem_cons_of_mem _ hm)]
theorem foldT_set {ops:List Oper} {L:Nat → Bool} {σ:Nat → Value} {d:Nat} {v:Value}:∀ (l:List Nat) (t:Array Value),(∀ q ∈ l,dstOf ops q ≠ some d) → foldT ops L σ l (t.setIfInBounds d v) = (foldT ops L σ l t).setIfInBounds d v
 | [],_,_=>rfl
 | q :: l,t,h=>by
  show foldT ops L σ l (stepT ops L σ _ q) = (foldT ops L σ l (stepT ops L σ t q)).setIfInBounds d v
  rw [← foldT_set l _ fun q hq=>h q (List.mem_cons_of_mem _ hq)]
  congr 1
  unfold stepT
  split
  · split
    · rename_i e he
      have:e ≠ d:=fun e1=>h q List.mem_cons_self (by unfold dstOf;rw [he,e1])
      exact Array.setIfInBounds_comm _ _ (Ne.symm this)
    · rfl
  · rfl
theorem foldT_up {ops:List Oper} {L:Nat → Bool} {σ:Nat → Value} {i:Nat} {v:Value} (hinj:∀ {i j d},dstOf ops i = some d → dstOf ops j = some d → i = j) (hL:L i = false):∀ (l:List Nat) (t:Array Value),i ∈ l → l.Nodup →
 foldT ops (upB L i) (upV σ i v) l t = (match dstOf ops i with | some d=>(foldT ops L σ l t).setIfInBounds d v | none=>foldT ops L σ l t)
 | [],_,h,_=>by cases h
 | q :: l,t,h,hn=>by
  by_cases e:q = i
  · subst e
    have hq:=(List.nodup_cons.1 hn).1
    have e1:stepT ops L σ t q = t:=by unfold stepT;rw [hL];rfl
    show foldT ops _ _ l (stepT ops _ _ t q) = (match dstOf ops q with | some d=>(foldT ops L σ l (stepT ops L σ t q)).setIfInBounds d v | none=>foldT ops L σ l (stepT ops L σ t q))
    rw [e1,foldT_other l _ hq]
    unfold stepT
    rw [upB_same,if_pos rfl,upV_same]
    show foldT ops L σ l (match dstOf ops q with | some d=>t.setIfInBounds d v | none=>t) = _
    cases hd:dstOf ops q with
    | none=>rfl
    | some d=>exact foldT_set l t fun q' hq' h2=>hq (by rw [hinj hd h2];exact hq')
  · have hm:i ∈ l:=(List.mem_cons.1 h).resolve_left fun e'=>e e'.symm
    show foldT ops _ _ l (stepT ops _ _ t q) = (match dstOf ops i with | some d=>(foldT ops L σ l (stepT ops L σ t q)).setIfInBounds d v | none=>foldT ops L σ l (stepT ops L σ t q))
    rw [stepT_other e]
    exact foldT_up hinj hL l _ hm (List.nodup_cons.1 hn).2

/-! ### the law -/
/-- What stands when the operations L have come up, with these values. -/
structure Reg (ops:List Oper) (base:Act) (WI:(Nat → Bool) → (Nat → Value) → World → Prop) (l:Array Bool) (L:Nat → Bool) (σ:Nat → Value) (a:Act) (w:World):Prop where
 lL:∀ q,q < ops.length → l.getD q true = L q
 ls:l.size = ops.length
 down:∀ q o,ops[q]? = some o → L q = true → ∀ e ∈ o.after,Region.binds .any e = true → L e.on = true
 defers:a.defers = base.defers
 tmps:a.tmps = foldT ops L σ (List.range ops.length) base.tmps
 wi:WI L σ w
def waitsFor (o:Oper) (q:Nat):Bool:=o.after.any fun e=>Region.binds .any e && e.on == q
/-- Operation s waits for operation q. -/
def waitsAt (ops:List Oper) (s q:Nat):Bool:=match ops[s]? with
 | some o=>waitsFor o q
 | none=>false
def notDst (ops:List Oper) (d:Nat):Bool:=ops.all fun o=>o.dst != some d
/-- What an operation may lean on. -/
structure Vals (ops:List Oper) (base:Act) (L:Nat → Bool) (σ:Nat → Value) (a:Act):Prop where
 down:∀ s q,waitsAt ops s q = true → L s = true → L q = true
 val:∀ q d,dstOf ops q = some d → L q = true → a.tmps[d]?.getD undef = σ q
 old:∀ d,notDst ops d = true → a.tmps[d]?.getD undef = base.tmps[d]?.getD undef
theorem Vals.not {ops:List Oper} {base:Act} {L:Nat → Bool} {σ:Nat → Value} {a:Act} (h:Vals ops base L σ a) {i:Nat} (hi:L i = false) (s:Nat) (hw:waitsAt ops s i = true):L s = false:=by
 cases e:L s with
 | false=>rfl
 | true=>rw [h.down s i hw e] at hi;cases hi
/-- All operations have come up: the temporaries in the text's order. -/
def allT (ops:List Oper) (base:Act) (σ:Nat → Value):Act:={ base with tmps:=foldT ops (fun _=>true) σ (List.range ops.length) base.tmps }
theorem foldT_all {ops:List Oper} {L:Nat → Bool} {σ:Nat → Value}:∀ (l:List Nat) (t:Array Value),(∀ q ∈ l,L q = true) → foldT ops L σ l t = foldT ops (fun _=>true) σ l t
 | [],_,_=>rfl
 | q :: l,t,h=>by
  show foldT ops L σ l (stepT ops L σ t q) = foldT ops _ σ l (stepT ops _ σ t q)
  have:stepT ops L σ t q = stepT ops (fun _=>true) σ t q:=by unfold stepT;rw [h q List.mem_cons_self]
  rw [this,foldT_all l _ fun q hq=>h q (List.mem_cons_of_mem _ hq)]
/-- Every operation waits for operations ahead of it in the order ord alone; none has a guard. -/
def laidOut (ops:List Oper) (ord:List Nat):Bool:=(List.range ops.length).all fun q=>match ops[q]? with | some o=>o.guard.isNone && o.after.all fun e=>!Region.binds .any e || (decide (e.on < ops.length) && decide (ord.idxOf e.on < ord.idxOf q)) | none=>true
theorem wp_region_reg {P:Program} {Q:Exit → Act → World → Prop} {id:Nat} {ops:List Oper} {base:Act} {w0:World} (WI:(Nat → Bool) → (Nat → Value) → World → Prop)
 (hm:P.follows .mixedOrders = true) (ord:List Nat) (hlay:laidOut ops ord = true) (hd:dstsOk ops base.tmps.size = true)
 (h0:WI (fun _=>false) (fun _=>undef) w0.drew)
 (step:∀ i o L σ a w,ops[i]? = some o → L i = false → (∀ q,waitsAt ops i q = true → L q = true) → Vals ops base L σ a → WI L σ w → o.wp P a w (fun a' w'=>∃ v,a' = a.put o.dst v ∧ WI (upB L i) (upV σ i v) w') Q)
 (fin:∀ L σ w,(∀ q,q < ops.length → L q = true) → WI L σ w → Q .normal (allT ops base σ) w):(Code.region id ops.toArray true).wp P Q base w0:=by
 unfold dstsOk at hd
 simp only [Bool.and_eq_true,decide_eq_true_eq] at hd
 obtain ⟨hd1,hd2⟩:=hd
 have hinj:∀ {i j d},dstOf ops i = some d → dstOf ops j = some d → i = j:=fun {i j d}=>dst_inj hd2
 have hlt:∀ {i d},dstOf ops i = some d → d < base.tmps.size:=fun {i d} h=>by
  unfold dstOf at h
  cases e:ops[i]? with
  | none=>rw [e] at h;cases h
  | some x =>
   rw [e] at h
   have:=List.all_eq_true.1 hd1 d (List.mem_filterMap.2 ⟨x,List.mem_of_getElem? e,h⟩)
   simpa using this
 have hlay':∀ q o,ops[q]? = some o → o.guard = none ∧ ∀ e ∈ o.after,Region.binds .any e = true → e.on < ops.length ∧ ord.idxOf e.on < ord.idxOf q:=fun q o ho=>by
  have hq:q < ops.length:=(List.getElem?_eq_some_iff.1 ho).1
  have:=List.all_eq_true.1 hlay q (List.mem_range.2 hq)
  rw [ho] at this
  simp only [Bool.and_eq_true,Option.isNone_iff_eq_none] at this
  refine ⟨this.1,fun e he hb=>?_⟩
  have h2:=Array.all_eq_true_iff_forall_mem.1 this.2 e he
  simp only [hb,Bool.not_true,Bool.false_or,Bool.and_eq_true,decide_eq_true_eq] at h2
  exact h2
 refine wp_region_any hm (wpAny_inv (fun l a w=>∃ L σ,Reg ops base WI l L σ a w) ?_ ?_ _ _ _ _ ⟨fun _=>false,fun _=>undef,⟨?_,?_,?_,rfl,?_,h0⟩⟩ ?_)
 · rintro l a w i ⟨L,σ,h⟩ hi
   obtain ⟨hiu,o,ho,haf⟩:=mem_ready.1 hi
   have ho':ops[i]? = some o:=by simpa using ho
   have hil:i < ops.length:=(List.getElem?_eq_some_iff.1 ho').1
   obtain ⟨hg,hb⟩:=hlay' i o ho'
   have hLi:L i = false:=by rw [← h.lL i hil];exact hiu
   have haf':∀ e ∈ o.after,Region.binds .any e = true → L e.on = true:=fun e he hbd=>by
    have h1:=haf e he hbd
    have h2:=hb e he hbd
    have h3:=h.lL e.on h2.1
    rw [← h3]
    rw [Array.getD_eq_getD_getElem?] at h1 ⊢
    rcases hx:l[e.on]? with _ | b
    · rfl
    · rw [hx] at h1;simpa using h1
   have hV:Vals ops base L σ a:=⟨fun s q hw hs=>?_,fun q d hq hL=>?_,fun d hd=>?_⟩
   · have hwt:∀ q,waitsAt ops i q = true → L q = true:=fun q hq=>by
      unfold waitsAt at hq
      rw [ho'] at hq
      obtain ⟨e,he,hb2⟩:=Array.any_eq_true'.1 hq
      rw [Bool.and_eq_true] at hb2
      have:=haf' e he hb2.1
      rw [show e.on = q by simpa using hb2.2] at this
      exact this
     unfold wpOp
     rw [ho]
     have hw:Region.wanted o (yielded ops.toArray a.tmps) = true:=by simp [Region.wanted,hg]
     simp only [hw,if_true]
     left
     refine Oper.wp_mono ?_ (step i o L σ a w ho' hLi hwt hV h.wi)
     rintro a' w' ⟨v,rfl,hwi⟩
     refine ⟨upB L i,upV σ i v,⟨fun q hq=>?_,?_,fun q o' hq hL e he hbd=>?_,?_,?_,hwi⟩⟩
     · by_cases e:q = i
       · subst e
         rw [upB_same,Array.getD_eq_getD_getElem?,Array.getElem?_setIfInBounds_self_of_lt (by rw [h.ls];exact hq)]
         rfl
       · rw [upB_other e,← h.lL q hq,Array.getD_eq_getD_getElem?,Array.getElem?_setIfInBounds_ne (Ne.symm e),← Array.getD_eq_getD_getElem?]
     · rw [Array.size_setIfInBounds];exact h.ls
     · by_cases e1:q = i
       · subst e1
         rw [ho'] at hq
         injection hq with hq
         subst hq
         exact upB_of (haf' e he hbd)
       · rw [upB_other e1] at hL
         exact upB_of (h.down q o' hq hL e he hbd)
     · rw [← h.defers];unfold Act.put;split <;> rfl
     · rw [foldT_up hinj hLi _ _ (List.mem_range.2 hil) List.nodup_range,← h.tmps]
       have:dstOf ops i = o.dst:=by unfold dstOf;rw [ho'];rfl
       rw [this]
       unfold Act.put
       cases o.dst <;> rfl
   · unfold waitsAt at hw
     split at hw
     · rename_i o' ho2
       obtain ⟨e,he,hb2⟩:=Array.any_eq_true'.1 hw
       rw [Bool.and_eq_true] at hb2
       have:=h.down s o' ho2 hs e he hb2.1
       rw [show e.on = q by simpa using hb2.2] at this
       exact this
     · cases hw
   · have hq':q < ops.length:=by
      unfold dstOf at hq
      cases e:ops[q]? with
      | none=>rw [e] at hq;cases hq
      | some x=>exact (List.getElem?_eq_some_iff.1 e).1
     rw [h.tmps,foldT_in hinj hq hL _ _ (hlt hq) (List.mem_range.2 hq') List.nodup_range]
     rfl
   · rw [h.tmps,foldT_out _ _ fun q _ _ hq=>?_]
     unfold dstOf at hq
     cases e:ops[q]? with
     | none=>rw [e] at hq;cases hq
     | some x =>
      rw [e] at hq
      have h1:=List.all_eq_true.1 hd x (List.mem_of_getElem? e)
      have hq:x.dst = some d:=hq
      rw [hq] at h1
      simp at h1
 · rintro l a w ⟨L,σ,h⟩ hr
   -- nothing is ready: all have come up
   have hall:∀ n q,ord.idxOf q < n → q < ops.length → L q = true:=fun n=>by
    induction n with
    | zero=>intro q h;omega
    | succ n ih =>
     intro q hn hq
     cases hLq:L q with
     | true=>rfl
     | false =>
      exfalso
      obtain ⟨o,ho⟩:∃ o,ops[q]? = some o:=⟨_,List.getElem?_eq_getElem hq⟩
      have hq2:q ∈ Region.ready .any ops.toArray l:=mem_ready.2 ⟨by rw [h.lL q hq];exact hLq,o,by simpa using ho,fun e he hbd=>by
       have h2:=(hlay' q o ho).2 e he hbd
       have h3:=ih e.on (by omega) h2.1
       rw [← h.lL e.on h2.1] at h3
       rw [Array.getD_eq_getD_getElem?] at h3 ⊢
       have h4:e.on < l.size:=by rw [h.ls];exact h2.1
       rw [Array.getElem?_eq_getElem h4] at h3 ⊢
       exact h3⟩
      rw [hr] at hq2
      cases hq2
   have hall:∀ q,q < ops.length → L q = true:=fun q=>hall _ q (Nat.lt_succ_self _)
   have:a = allT ops base σ:=by
    unfold allT
    rw [← foldT_all (L:=L) _ _ fun q hq=>hall q (List.mem_range.1 hq),← h.tmps,← h.defers]
   rw [this]
   exact fin L σ w hall h.wi
 · intro q hq
   rw [Array.getD_eq_getD_getElem?]
   have:(Array.replicate ops.toArray.size false)[q]? = some false:=by simp [hq]
   rw [this]
   rfl
 · simp
 · intro q o _ hL;cases hL
 · have:∀ (l:List Nat) (t:Array Value),foldT ops (fun _=>false) (fun _=>undef) l t = t:=by
    intro l
    induction l with
    | nil=>intro t;rfl
    | cons q l ih=>intro t;show foldT ops _ _ l (stepT ops _ _ t q) = t;rw [show stepT ops (fun _=>false) (fun _=>undef) t q = t from rfl];exact ih t
   exact (this _ _).symm
 · unfold unl
   exact Nat.le_trans (List.countP_le_length) (by simp)
theorem wp_conv {P:Program} {Q:Exit → Act → World → Prop} {c c':Code} {a:Act} {w:World} (h:c = c') (h2:c'.wp P Q a w):c.wp P Q a w:=by rw [h];exact h2
theorem wp_of_K {P:Program} {Q:Exit → Act → World → Prop} {o:Oper} {a:Act} {w:World} {K:Act → World → Prop} (v:Value) (w':World) (h:∀ K':Act → World → Prop,K' (a.put o.dst v) w' → o.wp P a w K' Q) (hK:K (a.put o.dst v) w'):o.wp P a w K Q:=h K hK
/-- The regions of a code, by number. -/
def regOf (k:Nat):Code → Option (Array Oper)
 | .seq a b=>(regOf k a).or (regOf k b)
 | .block _ a=>regOf k a
 | .scope a=>regOf k a
 | .loop a=>regOf k a
 | .cond _ a b=>(regOf k a).or (regOf k b)
 | .region i o _=>if i == k then some o else none
 | _=>none
/-- The values that are the same in every order. -/
def Qv (vq:List (Option Value)) (L:Nat → Bool) (σ:Nat → Value):Prop:=∀ q v,vq[q]? = some (some v) → L q = true → σ q = v
theorem Qv.start (vq:List (Option Value)) (σ:Nat → Value):Qv vq (fun _=>false) σ:=fun _ _ _ h=>by cases h
theorem Qv.put {vq:List (Option Value)} {L:Nat → Bool} {σ:Nat → Value} {i:Nat} {v:Value} (h:Qv vq L σ) (hq:vq[i]? = some (some v)):Qv vq (upB L i) (upV σ i v):=fun q u hu hL=>by
 by_cases e:q = i
 · subst e
   rw [hq] at hu
   rw [upV_same]
   injection hu with hu
   injection hu
 · rw [upB_other e] at hL
   rw [upV_other e]
   exact h q u hu hL
theorem Qv.skip {vq:List (Option Value)} {L:Nat → Bool} {σ:Nat → Value} {i:Nat} {v:Value} (h:Qv vq L σ) (hq:vq[i]? = some none):Qv vq (upB L i) (upV σ i v):=fun q u hu hL=>by
 by_cases e:q = i
 · subst e
   rw [hq] at hu
   injection hu with hu
   cases hu
 · rw [upB_other e] at hL
   rw [upV_other e]
   exact h q u hu hL
end Go.Am.Own
