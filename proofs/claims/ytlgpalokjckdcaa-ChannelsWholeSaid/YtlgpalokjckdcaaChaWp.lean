/-
 Channels: several lists of what is sent grow in one region that draws its order. Own work.
-/
import Derived.Test.YtlgpalokjckdcaaChaWe
import Derived.Test.YtlgpalokjckdcaaOwnG
import Derived.Deep.AppendLies
namespace Go.Am.Cha
open Go Go.Am Go.Am.Lib Go.Lib Go.Proofs Go.RowKit
open Go.Am.Own
set_option maxRecDepth 100000

/-- One list that grows: its row, the operations that make the block, append, store; the value. -/
structure Job where
 row:Nat
 m:Nat
 p:Nat
 s:Nat
 e:TypeId
 x:Value
def jobN (J:List Job):List Nat:=J.map (·.m) ++ (J.map (·.p) ++ J.map (·.s))
def jobsOk (J:List Job):Bool:=(J.all fun j=>Nat.blt j.row 7) && (decide (J.map (·.row)).Nodup && decide (jobN J).Nodup)
def jV (J:List Job) (L:Nat → Bool) (σ:Nat → Value) (V:Nat → Value):Nat → Value:=fun i=>match J.find? (fun j=>j.row == i) with
 | some j=>if L j.s then σ j.p else V i
 | none=>V i
def jR (J:List Job) (L:Nat → Bool) (σ:Nat → Value) (R:Nat → RowM):Nat → RowM:=fun i=>match J.find? (fun j=>j.row == i) with
 | some j=>if L j.p then ((R i).1,σ j.p,(R i).2.2 ++ [j.x]) else R i
 | none=>R i
variable {J:List Job} {H:Nat → Prop} {W w w':World} {B sb mb g cap:Nat} {bk:Nat → Nat} {M M':MS} {ok:Bool} {bs ss:Nat → Int} {V V':Nat → Value} {R R':Nat → RowM} {L:Nat → Bool} {σ:Nat → Value} {j k:Job}
theorem job_row (hJ:jobsOk J = true) (h:j ∈ J):j.row < 7:=by
 unfold jobsOk at hJ
 simp only [Bool.and_eq_true] at hJ
 exact Nat.le_of_ble_eq_true (List.all_eq_true.1 hJ.1 j h)
theorem nodup_map {α β:Type} {f:α → β}:∀ {l:List α},(l.map f).Nodup → ∀ {a b},a ∈ l → b ∈ l → f a = f b → a = b
 | [],_,_,_,h,_,_=>by cases h
 | c :: l,h,a,b,ha,hb,e=>by
  have hc:=List.nodup_cons.1 h
  rcases List.mem_cons.1 ha with ea | ha
  · rcases List.mem_cons.1 hb with eb | hb
    · rw [ea,eb]
    · exact absurd (List.mem_map.2 ⟨b,hb,by rw [← e,ea]⟩) hc.1
  · rcases List.mem_cons.1 hb with eb | hb
    · exact absurd (List.mem_map.2 ⟨a,ha,by rw [e,eb]⟩) hc.1
    · exact nodup_map hc.2 ha hb e
theorem job_inj (hJ:jobsOk J = true) (h:j ∈ J) (h':k ∈ J) (e:j.row = k.row):j = k:=by
 unfold jobsOk at hJ
 simp only [Bool.and_eq_true,decide_eq_true_eq] at hJ
 exact nodup_map hJ.2.1 h h' e
theorem job_apart (hJ:jobsOk J = true) (h:j ∈ J) (h':k ∈ J):(j.m = k.m → j = k) ∧ (j.p = k.p → j = k) ∧ (j.s = k.s → j = k) ∧ j.m ≠ k.p ∧ j.m ≠ k.s ∧ j.p ≠ k.s:=by
 unfold jobsOk jobN at hJ
 simp only [Bool.and_eq_true,decide_eq_true_eq] at hJ
 obtain ⟨h1,h2,h3⟩:=List.nodup_append.1 hJ.2.2
 obtain ⟨h4,h5,h6⟩:=List.nodup_append.1 h2
 exact ⟨nodup_map h1 h h',nodup_map h4 h h',nodup_map h5 h h',fun e=>h3 _ (List.mem_map.2 ⟨j,h,rfl⟩) _ (List.mem_append_left _ (List.mem_map.2 ⟨k,h',rfl⟩)) e,fun e=>h3 _ (List.mem_map.2 ⟨j,h,rfl⟩) _ (List.mem_append_right _ (List.mem_map.2 ⟨k,h',rfl⟩)) e,fun e=>h6 _ (List.mem_map.2 ⟨j,h,rfl⟩) _ (List.mem_map.2 ⟨k,h',rfl⟩) e⟩
theorem job_find (hJ:jobsOk J = true) (h:j ∈ J):J.find? (fun q=>q.row == j.row) = some j:=by
 cases e:J.find? (fun q=>q.row == j.row) with
 | none=>have:=List.find?_eq_none.1 e j h;simp at this
 | some q =>
  have h1:=List.find?_some e
  have h2:=List.mem_of_find?_eq_some e
  exact congrArg some (job_inj hJ h2 h (by simpa using h1))
theorem jV_at (hJ:jobsOk J = true) (h:j ∈ J):jV J L σ V j.row = if L j.s then σ j.p else V j.row:=by unfold jV;rw [job_find hJ h]
theorem jR_at (hJ:jobsOk J = true) (h:j ∈ J):jR J L σ R j.row = if L j.p then ((R j.row).1,σ j.p,(R j.row).2.2 ++ [j.x]) else R j.row:=by unfold jR;rw [job_find hJ h]
theorem jV_congr {L':Nat → Bool} {σ':Nat → Value} (h:∀ j ∈ J,L j.s = L' j.s ∧ (L' j.s = true → σ j.p = σ' j.p)):jV J L σ V = jV J L' σ' V:=by
 funext i
 unfold jV
 split
 · rename_i j hj
   have h1:=h j (List.mem_of_find?_eq_some hj)
   rw [h1.1]
   split
   · rename_i h2;exact h1.2 h2
   · rfl
 · rfl
theorem jR_congr {L':Nat → Bool} {σ':Nat → Value} (h:∀ j ∈ J,L j.p = L' j.p ∧ (L' j.p = true → σ j.p = σ' j.p)):jR J L σ R = jR J L' σ' R:=by
 funext i
 unfold jR
 split
 · rename_i j hj
   have h1:=h j (List.mem_of_find?_eq_some hj)
   rw [h1.1]
   split
   · rename_i h2;rw [h1.2 h2]
   · rfl
 · rfl
theorem jV_other {i:Nat} (h:∀ j ∈ J,j.row ≠ i):jV J L σ V i = V i:=by
 unfold jV
 split
 · rename_i j hj
   exact absurd (by simpa using List.find?_some hj) (h j (List.mem_of_find?_eq_some hj))
 · rfl
theorem jR_other {i:Nat} (h:∀ j ∈ J,j.row ≠ i):jR J L σ R i = R i:=by
 unfold jR
 split
 · rename_i j hj
   exact absurd (by simpa using List.find?_some hj) (h j (List.mem_of_find?_eq_some hj))
 · rfl
/-- What stands while the lists grow. -/
def Pw (J:List Job) (H:Nat → Prop) (W:World) (B sb mb g cap:Nat) (bk:Nat → Nat) (M:MS) (ok:Bool) (bs ss:Nat → Int) (V:Nat → Value) (R:Nat → RowM) (L:Nat → Bool) (σ:Nat → Value) (w:World):Prop :=
 ∃ HH WW,Sg HH WW B sb mb g cap bk M ok bs ss (jV J L σ V) (jR J L σ R) w ∧ As H W WW ∧ (∀ q,H q → HH q) ∧ (∀ j ∈ J,L j.m = true → ∃ b,σ j.m = .slice (some ⟨b,0,none⟩) 1 1 ∧ HH b ∧ WW.heap[b]? = some (.cells #[j.x] j.e (0,0))) ∧ ∀ j ∈ J,L j.p = true → ∃ g' c',σ j.p = .slice (some ⟨g',0,none⟩) ((R j.row).2.2.length + 1) c'
theorem Pw.start (h:Sg H W B sb mb g cap bk M ok bs ss V R w):Pw J H W B sb mb g cap bk M ok bs ss V R (fun _=>false) (fun _=>undef) w:=by
 refine ⟨H,W,?_,As.refl _ _,fun _ h=>h,(fun j _ h=>by cases h),fun j _ h=>by cases h⟩
 have e1:jV J (fun _=>false) (fun _=>undef) V = V:=by funext i;unfold jV;split <;> simp
 have e2:jR J (fun _=>false) (fun _=>undef) R = R:=by funext i;unfold jR;split <;> simp
 rw [e1,e2];exact h
theorem Pw.quiet {i:Nat} {v:Value} (hi:i ∉ jobN J) (h:Pw J H W B sb mb g cap bk M ok bs ss V R L σ w):Pw J H W B sb mb g cap bk M ok bs ss V R (upB L i) (upV σ i v) w:=by
 obtain ⟨HH,WW,h1,h2,h3,h4,h5⟩:=h
 have hm:∀ j ∈ J,j.m ≠ i ∧ j.p ≠ i ∧ j.s ≠ i:=fun j hj=>⟨fun e=>hi (List.mem_append_left _ (List.mem_map.2 ⟨j,hj,e⟩)),fun e=>hi (List.mem_append_right _ (List.mem_append_left _ (List.mem_map.2 ⟨j,hj,e⟩))),fun e=>hi (List.mem_append_right _ (List.mem_append_right _ (List.mem_map.2 ⟨j,hj,e⟩)))⟩
 refine ⟨HH,WW,?_,h2,h3,fun j hj hL=>?_,fun j hj hL=>by
  rw [upB_other (hm j hj).2.1] at hL
  rw [upV_other (hm j hj).2.1]
  exact h5 j hj hL⟩
 · rw [jV_congr (L':=L) (σ':=σ) fun j hj=>⟨upB_other (hm j hj).2.2,fun _=>upV_other (hm j hj).2.1⟩,jR_congr (L':=L) (σ':=σ) fun j hj=>⟨upB_other (hm j hj).2.1,fun _=>upV_other (hm j hj).2.1⟩]
   exact h1
 · rw [upB_other (hm j hj).1] at hL
   rw [upV_other (hm j hj).1]
   exact h4 j hj hL
theorem Pw.make (hJ:jobsOk J = true) (hj:j ∈ J) (h:Pw J H W B sb mb g cap bk M ok bs ss V R L σ w) :
 Pw J H W B sb mb g cap bk M ok bs ss V R (upB L j.m) (upV σ j.m (.slice (some ⟨w.heap.size,0,none⟩) 1 1)) (w.alloc (.cells #[j.x] j.e)):=by
 obtain ⟨HH,WW,h1,h2,h3,h4,h5⟩:=h
 have hb:=(Below.refl w.heap.size w).alloc (Nat.le_refl _) (.cells #[j.x] j.e)
 refine ⟨fun q=>HH q ∨ q = w.heap.size,w.alloc (.cells #[j.x] j.e),?_,?_,fun q hq=>.inl (h3 q hq),fun k hk hL=>?_,fun k hk hL=>by
  have hne:=Ne.symm (job_apart hJ hj hk).2.2.2.1
  rw [upB_other hne] at hL
  rw [upV_other hne]
  exact h5 k hk hL⟩
 · rw [jV_congr (L':=L) (σ':=σ) fun k hk=>⟨upB_other (Ne.symm (job_apart hJ hj hk).2.2.2.2.1),fun _=>upV_other (Ne.symm (job_apart hJ hj hk).2.2.2.1)⟩,jR_congr (L':=L) (σ':=σ) fun k hk=>⟨upB_other (Ne.symm (job_apart hJ hj hk).2.2.2.1),fun _=>upV_other (Ne.symm (job_apart hJ hj hk).2.2.2.1)⟩]
   exact h1.hold _
 · exact ⟨h1.os.trans h2.os,h1.tape.trans h2.tape,h1.output.trans h2.output,Nat.le_trans h2.size (Nat.le_trans h1.size hb.size),fun q hq=>(hb.block q (h1.lt q (h3 q hq))).trans ((h1.block q (h3 q hq)).trans (h2.block q hq))⟩
 · by_cases e:k = j
   · subst e
     rw [upV_same]
     exact ⟨_,rfl,.inr rfl,heap_alloc_new w _⟩
   · have hne:k.m ≠ j.m:=fun e'=>e ((job_apart hJ hk hj).1 e')
     rw [upB_other hne] at hL
     rw [upV_other hne]
     obtain ⟨b,e1,e2,e3⟩:=h4 k hk hL
     exact ⟨b,e1,.inl e2,(hb.block b (h1.lt b e2)).trans ((h1.block b e2).trans e3)⟩
/-- The append of one list, as an operation. -/
theorem Pw.app {P:Program} {Q:Exit → Act → World → Prop} {o:Oper} {a:Act} {s x:Operand} {t:TypeId} {i:TypeInfo} {z:Value} {bytes n c:Nat} {ao:Option Addr}
 (hJ:jobsOk J = true) (hj:j ∈ J) (h:Pw J H W B sb mb g cap bk M ok bs ss V R L σ w)
 (hop:o.op = .call { callee:=.builtin .append,args:=#[s,x],argTypes:=#[t,t] })
 (ht:P.underlying t = some (.slice j.e)) (hi:P.info? j.e = some i) (hz:i.zero = some z) (hsize:i.size = 1) (hby:i.bytes = bytes) (hzs:z.cells.size = 1)
 (hR:R j.row = (j.e,.slice ao n c,(R j.row).2.2)) (hn:(R j.row).2.2.length = n) (h1:j.x.oneCell' = true)
 (h63:n + 1 ≤ maxLen) (hbytes:(n + 1) * bytes ≤ 140737488355328)
 (hLm:L j.m = true) (hLp:L j.p = false) (hLs:L j.s = false) (hs:a.eval s = .slice ao n c) (hx:a.eval x = σ j.m) :
 o.wp P a w (fun a' w'=>∃ v,a' = a.put o.dst v ∧ Pw J H W B sb mb g cap bk M ok bs ss V R (upB L j.p) (upV σ j.p v) w') Q:=by
 obtain ⟨HH,WW,hS,h2,h3,h4,h5⟩:=h
 obtain ⟨b,e1,e2,e3⟩:=h4 j hj hLm
 have hrow:=job_row hJ hj
 have hjR:jR J L σ R j.row = R j.row:=by rw [jR_at hJ hj,hLp];rfl
 have hown:=hS.own j.row hrow
 rw [hjR] at hown
 have hown':w.ownsRow B j.e 1 (.slice ao n c) n (R j.row).2.2:=by
  rw [← hn]
  rw [hR] at hown
  rw [← hn] at hown
  exact hown
 have hb:w.heap[b]? = some (.cells #[j.x] j.e (0,0)):=(hS.block b e2).trans e3
 refine wp_append_lies w s x t hop B j.e i z 1 bytes ht hi hz hsize hby hzs (by decide) _ n _ hs hown' ⟨b,0,none⟩ 1 1 [j.x] (hx.trans e1) rfl (World.news_of_block hb) (by intro u hu;exact one_mem hu h1) (by decide) h63 hbytes hS.hB _ rfl ?_
 intro g' c' w' hown9 hgrow9 hat9 _
 refine ⟨_,rfl,HH,WW,?_,h2,h3,fun k hk hL=>?_,fun k hk hL=>by
  by_cases e:k = j
  · subst e
    exact ⟨g',c',by rw [upV_same,hn]⟩
  · have hne:k.p ≠ j.p:=fun e'=>e ((job_apart hJ hk hj).2.1 e')
    rw [upB_other hne] at hL
    rw [upV_other hne]
    exact h5 k hk hL⟩
 · have hgr:w.grownBy w' (jR J L σ R j.row).2.1.ownBlock:=by rw [hjR,hR];exact hgrow9
   have hV:jV J (upB L j.p) (upV σ j.p (.slice (some ⟨g',0,none⟩) (n + 1) c')) V = jV J L σ V:=jV_congr fun k hk=>⟨upB_other (Ne.symm (job_apart hJ hj hk).2.2.2.2.2),fun hLk=>upV_other fun e=>by
    have:=(job_apart hJ hk hj).2.1 e
    subst this
    rw [hLs] at hLk
    cases hLk⟩
   rw [hV]
   refine hS.push (i:=j.row) (u:=j.x) (e:=j.e) (v':=.slice (some ⟨g',0,none⟩) (n + 1) c') hrow ?_ hgr ?_ ?_ ?_
   · rw [hjR,hn];exact hown9
   · rw [hjR,hR]
     rcases hat9 with e | e
     · exact .inl e.symm
     · exact .inr (congrArg some e)
   · rw [jR_at hJ hj,upB_same,hjR,upV_same,hR];rfl
   · intro q hq hne
     by_cases hf:∃ k ∈ J,k.row = q
     · obtain ⟨k,hk,rfl⟩:=hf
       have hkp:k.p ≠ j.p:=fun e=>hne (by rw [(job_apart hJ hk hj).2.1 e])
       rw [jR_at hJ hk,jR_at hJ hk,upB_other hkp,upV_other hkp]
     · have hf':∀ k ∈ J,k.row ≠ q:=fun k hk e=>hf ⟨k,hk,e⟩
       rw [jR_other hf',jR_other hf']
 · have hne:k.m ≠ j.p:=(job_apart hJ hk hj).2.2.2.1
   rw [upB_other hne] at hL
   rw [upV_other hne]
   exact h4 k hk hL
theorem Pw.store (hJ:jobsOk J = true) (hj:j ∈ J) (h:Pw J H W B sb mb g cap bk M ok bs ss V R L σ w) (v:Value) :
 Pw J H W B sb mb g cap bk M ok bs ss V R (upB L j.s) (upV σ j.s v) (w.setCell ⟨sb,rowO j.row,none⟩ (σ j.p)):=by
 obtain ⟨HH,WW,hS,h2,h3,h4,h5⟩:=h
 have hrow:=job_row hJ hj
 refine ⟨HH,WW,?_,h2,h3,fun k hk hL=>?_,fun k hk hL=>by
  have hne:=(job_apart hJ hk hj).2.2.2.2.2
  rw [upB_other hne] at hL
  rw [upV_other hne]
  exact h5 k hk hL⟩
 · have hR:jR J (upB L j.s) (upV σ j.s v) R = jR J L σ R:=jR_congr fun k hk=>⟨upB_other (job_apart hJ hk hj).2.2.2.2.2,fun _=>upV_other (job_apart hJ hk hj).2.2.2.2.2⟩
   rw [hR]
   refine hS.put (p:=rowO j.row) (u:=σ j.p) ?_
   rw [sgC_setrow _ _ _ _ _ hrow]
   congr 1
   funext i
   by_cases e:i = j.row
   · subst e
     rw [if_pos rfl,jV_at hJ hj,upB_same,if_pos rfl,upV_other (job_apart hJ hj hj).2.2.2.2.2]
   · rw [if_neg e]
     by_cases hf:∃ k ∈ J,k.row = i
     · obtain ⟨k,hk,rfl⟩:=hf
       have hks:k.s ≠ j.s:=fun e'=>e (by rw [(job_apart hJ hk hj).2.2.1 e'])
       rw [jV_at hJ hk,jV_at hJ hk,upB_other hks,upV_other (job_apart hJ hk hj).2.2.2.2.2]
     · have hf':∀ k ∈ J,k.row ≠ i:=fun k hk e=>hf ⟨k,hk,e⟩
       rw [jV_other hf',jV_other hf']
 · have hne:k.m ≠ j.s:=(job_apart hJ hk hj).2.2.2.2.1
   rw [upB_other hne] at hL
   rw [upV_other hne]
   exact h4 k hk hL
/-- The cell of a list that is not yet stored. -/
theorem Pw.cellV (hJ:jobsOk J = true) (hj:j ∈ J) (h:Pw J H W B sb mb g cap bk M ok bs ss V R L σ w) (hL:L j.s = false):w.cell? ⟨sb,rowO j.row,none⟩ = some (V j.row):=by
 obtain ⟨HH,WW,hS,-,-,-,-⟩:=h
 have h1:=(cell_of hS.cell).trans (sgC_row mb ok bs ss (jV J L σ V) (job_row hJ hj))
 rw [jV_at hJ hj,hL] at h1
 exact h1
theorem Pw.fz (h:Pw J H W B sb mb g cap bk M ok bs ss V R L σ w) (p:Nat):w.frozen? ⟨sb,p,none⟩ = false:=by
 obtain ⟨HH,WW,hS,-,-,-,-⟩:=h
 exact fz_of hS.cell p
theorem Pw.cellB (h:Pw J H W B sb mb g cap bk M ok bs ss V R L σ w) {k:Nat} (hk:k < 8):w.cell? ⟨sb,8 + k,none⟩ = some (.int .i64 (bs k)):=by
 obtain ⟨HH,WW,hS,-,-,-,-⟩:=h
 exact (cell_of hS.cell).trans (sgC_bs _ _ _ _ _ hk)
theorem Pw.done (h:Pw J H W B sb mb g cap bk M ok bs ss V R L σ w):Sg H W B sb mb g cap bk M ok bs ss (jV J L σ V) (jR J L σ R) w:=by
 obtain ⟨HH,WW,hS,h2,h3,-,-⟩:=h
 exact hS.rest h3 h2.os h2.tape h2.output h2.size fun q hq=>h2.block q hq
theorem Pw.slice (h:Pw J H W B sb mb g cap bk M ok bs ss V R L σ w) (hj:j ∈ J) (hL:L j.p = true):∃ g' c',σ j.p = .slice (some ⟨g',0,none⟩) ((R j.row).2.2.length + 1) c':=by
 obtain ⟨HH,WW,-,-,-,-,h5⟩:=h
 exact h5 j hj hL
theorem Pw.fin (h:Pw J H W B sb mb g cap bk M ok bs ss V R L σ w) (hL:∀ j ∈ J,L j.p = true ∧ L j.s = true):Sg H W B sb mb g cap bk M ok bs ss (jV J (fun _=>true) σ V) (jR J (fun _=>true) σ R) w:=by
 have hS:=h.done
 rw [jV_congr (L':=fun _=>true) (σ':=σ) fun j hj=>⟨(hL j hj).2,fun _=>rfl⟩,jR_congr (L':=fun _=>true) (σ':=σ) fun j hj=>⟨(hL j hj).1,fun _=>rfl⟩] at hS
 exact hS
theorem eval_of {a:Act} {d:Nat} {v:Value} (h:a.tmps[d]?.getD undef = v):a.eval (.tmp d) = v:=by
 show a.tmps.getD d undef = v
 rw [Array.getD_eq_getD_getElem?];exact h
theorem val_at {ops:List Oper} {base a:Act} {vq:List (Option Value)} {q d:Nat} {v:Value} (hV:Vals ops base L σ a) (hQ:Qv vq L σ) (hd:dstOf ops q = some d) (hL:L q = true) (hq:vq[q]? = some (some v)):a.tmps[d]?.getD undef = v:=(hV.val q d hd hL).trans (hQ q v hq hL)
end Go.Am.Cha
