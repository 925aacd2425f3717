/-
  Tmframe: a filler's calls; what shown comes to. Own work.
-/
import Derived.Test.YtlgpalokjckdcaaTmfX7
import Derived.Test.YtlgpalokjckdcaaTmfXM
namespace Go.Am.Tmf
open Go Go.Am Go.Am.Lib Go.Lib Go.Proofs Go.RowKit
open Go.Am.Own
set_option maxRecDepth 100000

/-- What a filler keeps; N: how many calls there were. -/
structure OkF (x:FS) (N:Nat):Prop where
 lo:32 ≤ x.size
 hi:x.size ≤ 200
 idle:x.idle ≤ x.q.length
 q:x.q.length ≤ 66000
 st:x.st.length ≤ N
 sv:∀ a ∈ x.st,a ≤ 2 ^ 30
 n:N ≤ 2 ^ 20
theorem FAt.keep {S:Nat → Prop} {b:Nat} {x:FS} {w w':World} (h:FAt S b x w) (hs:w.heap.size ≤ w'.heap.size) (hk:∀ k,S k → k < w.heap.size → w'.heap[k]? = w.heap[k]?):FAt S b x w':=by
 obtain ⟨v1,v2,h⟩:=h;exact ⟨v1,v2,h.keep hs hk⟩
theorem FAt.below {S:Nat → Prop} {b:Nat} {x:FS} {w w':World} (h:FAt S b x w) (hb:Below w.heap.size w w'):FAt S b x w':=h.keep hb.size fun k _ hk=>hb.block k hk
theorem FAt.hS {S:Nat → Prop} {b:Nat} {x:FS} {w:World} (h:FAt S b x w):∀ k,w.heap.size ≤ k → S k:=by
 obtain ⟨v1,v2,h⟩:=h;exact h.hS
def fs0 (n:Nat):FS:=⟨n,[],[],0⟩
theorem new_at (n:Int) (h0:32 ≤ n) (h1:n ≤ 200) (w:World):Calls Try.prog 36 #[.int .i64 n] w fun e w'=>e = .returned (.tuple #[.pointer (some ⟨w.heap.size,0,none⟩),.int .i64 0]) ∧ FAt (fun k=>w.heap.size ≤ k) w.heap.size (fs0 n.toNat) w' ∧ Below w.heap.size w w':=by
 go_enter Try.func36,Try.ntmps36
 go_wp2
 go_ret2
 refine ⟨rfl,⟨.slice none 0 0,.slice none 0 0,?_⟩,(Below.refl _ w).alloc (Nat.le_refl _) _⟩
 have hn:intV n.toNat = .int .i64 n:=by unfold intV;rw [Int.toNat_of_nonneg (by omega)]
 exact { hS:=fun k hk=>(by rw [alloc_size] at hk;show w.heap.size ≤ k;omega),hb:=Nat.le_refl w.heap.size,cell:=(by show _ = some (Obj.cells #[_,_,intV n.toNat,intV 0] _ _);rw [hn];exact heap_alloc_new w _),r1:=vrow_nil _,r2:=World.ownsRow_nil _ _ _ _,s1:=fun k hk=>(by cases hk),s2:=fun k hk=>(by cases hk) }
theorem new_no (n:Int) (h:n < 32 ∨ 200 < n) (w:World):Calls Try.prog 36 #[.int .i64 n] w fun e w'=>e = .returned (.tuple #[.pointer none,.int .i64 2]) ∧ w = w':=by
 rcases h with h | h
 · go_enter Try.func36,Try.ntmps36
   go_wp2
   go_ret2
   exact ⟨rfl,rfl⟩
 · have h':¬ n < 32:=by omega
   go_enter Try.func36,Try.ntmps36
   go_wp2
   go_ret2
   exact ⟨rfl,rfl⟩

/-! ### Add -/
theorem waits {S:Nat → Prop} {b N:Nat} {x:FS} {w:World} (h:FAt S b x w) (ho:OkF x N):Calls Try.prog 38 #[.pointer (some ⟨b,0,none⟩)] w fun e w'=>e = .returned (.int .i64 ((x.wait:Nat):Int)) ∧ Below w.heap.size w w':=by
 obtain ⟨v1,v2,h⟩:=h
 exact (wait_calls h (by have:=ho.lo;omega) ho.idle (by have:=ho.q;omega)).mono fun e w' hh=>⟨hh.1,hh.2.1⟩
theorem nones {S:Nat → Prop} {b N:Nat} {x:FS} {w:World} (h:FAt S b x w) (ho:OkF x N):Calls Try.prog 65 #[.pointer (some ⟨b,0,none⟩)] w fun e w'=>e = .returned (.bool false) ∧ w = w':=by
 obtain ⟨v1,v2,h⟩:=h
 exact none_calls h (by have:=ho.lo;omega)
theorem get_e {p:ByteArray} {e:Int} (h:Pkt.getE p = e) (w:World):Calls Try.prog 66 #[.string p] w fun r w'=>r = .returned (.tuple #[.agg #[.bool (Pkt.gC p),.int .i64 ((Pkt.gA p:Nat):Int),.int .i64 ((Pkt.gF p:Nat):Int),.int .i64 ((Pkt.gN p:Nat):Int),.string (Pkt.gD p)],.int .i64 e]) ∧ Below w.heap.size w w':=by
 have:=get_calls p w
 rw [h] at this
 exact this
theorem getE_cases (p:ByteArray):Pkt.getE p = 0 ∨ Pkt.getE p = 6:=by
 unfold Pkt.getE;split
 · exact .inl rfl
 · exact .inr rfl
/-- What Add answers. -/
def addE (x:FS) (p:ByteArray):Int:=if Pkt.getE p ≠ 0 ∨ Pkt.gA p = 2047 then 6 else if 65536 < x.wait + p.size then 5 else 0
theorem fr_below {S:Nat → Prop} {b:Nat} {x:FS} {w w':World} (h:FAt S b x w) (hb:Below w.heap.size w w'):FrS S w w':=fr_of hb h.hS
set_option maxHeartbeats 1600000 in
theorem add_bad {S:Nat → Prop} {b N:Nat} {x:FS} {w:World} (h:FAt S b x w) (ho:OkF x N) (p:ByteArray) (hE:Pkt.getE p = 6) :
 Calls Try.prog 39 #[.pointer (some ⟨b,0,none⟩),.string p] w fun e w'=>e = .returned (.int .i64 6) ∧ FAt S b x w' ∧ FrS S w w':=by
 go_enter Try.func39,Try.ntmps39
 go_wp2_with (go_at_call 65;refine (nones h ho).mono ?_)
 rintro e W1 ⟨rfl,rfl⟩
 go_wp2_with (go_at_call 66;refine (get_e hE _).mono ?_)
 rintro e W2 ⟨rfl,b2⟩
 obtain ⟨A,hA⟩:∃ A,Pkt.gA p = A:=⟨_,rfl⟩
 rw [hA]
 go_wp2
 go_ret
 have b3:=b2.alloc b2.size (.cells #[.bool (Pkt.gC p),.int .i64 ((A:Nat):Int),.int .i64 ((Pkt.gF p:Nat):Int),.int .i64 ((Pkt.gN p:Nat):Int),.string (Pkt.gD p)] 110)
 exact ⟨rfl,h.below b3,fr_below h b3⟩
set_option maxHeartbeats 1600000 in
theorem add_idle {S:Nat → Prop} {b N:Nat} {x:FS} {w:World} (h:FAt S b x w) (ho:OkF x N) (p:ByteArray) (hE:Pkt.getE p = 0) (hA:Pkt.gA p = 2047) :
 Calls Try.prog 39 #[.pointer (some ⟨b,0,none⟩),.string p] w fun e w'=>e = .returned (.int .i64 6) ∧ FAt S b x w' ∧ FrS S w w':=by
 go_enter Try.func39,Try.ntmps39
 go_wp2_with (go_at_call 65;refine (nones h ho).mono ?_)
 rintro e W1 ⟨rfl,rfl⟩
 go_wp2_with (go_at_call 66;refine (get_e hE _).mono ?_)
 rintro e W2 ⟨rfl,b2⟩
 rw [hA]
 go_wp2
 go_ret
 have b3:=b2.alloc b2.size (.cells #[.bool (Pkt.gC p),.int .i64 ((2047:Nat):Int),.int .i64 ((Pkt.gF p:Nat):Int),.int .i64 ((Pkt.gN p:Nat):Int),.string (Pkt.gD p)] 110)
 exact ⟨rfl,h.below b3,fr_below h b3⟩
set_option maxHeartbeats 1600000 in
theorem add_full {S:Nat → Prop} {b N:Nat} {x:FS} {w:World} (h:FAt S b x w) (ho:OkF x N) (p:ByteArray) (hE:Pkt.getE p = 0) (hA:Pkt.gA p ≠ 2047) (hf:65536 < x.wait + p.size) (hp:p.size ≤ 2 ^ 40) :
 Calls Try.prog 39 #[.pointer (some ⟨b,0,none⟩),.string p] w fun e w'=>e = .returned (.int .i64 5) ∧ FAt S b x w' ∧ FrS S w w':=by
 have hwb:x.wait ≤ 66000:=Nat.le_trans (Nat.sub_le _ _) ho.q
 obtain ⟨A,hAA⟩:∃ A,Pkt.gA p = A:=⟨_,rfl⟩
 obtain ⟨wt,hwt⟩:∃ n,x.wait = n:=⟨_,rfl⟩
 have hw:=fun w'=>waits (w:=w') (S:=S) (b:=b) (x:=x) (N:=N)
 rw [hwt] at hf hwb
 have hA':(((A:Nat):Int) == 2047) = false:=by rw [← hAA];simp;omega
 have hf':(65536:Int) < ((wt:Nat):Int) + ((p.size:Nat):Int):=by omega
 simp only [hwt] at hw
 have HW:=Lib.hid hw
 clear hw hwt
 go_enter Try.func39,Try.ntmps39
 go_wp2_with (go_at_call 65;refine (nones h ho).mono ?_)
 rintro e W1 ⟨rfl,rfl⟩
 go_wp2_with (go_at_call 66;refine (get_e hE _).mono ?_)
 rintro e W2 ⟨rfl,b2⟩
 rw [hAA]
 have b3:=b2.alloc b2.size (.cells #[.bool (Pkt.gC p),.int .i64 ((A:Nat):Int),.int .i64 ((Pkt.gF p:Nat):Int),.int .i64 ((Pkt.gN p:Nat):Int),.string (Pkt.gD p)] 110)
 go_wp2_with (go_at_call 38;refine (HW.out _ (h.below b3) ho).mono ?_)
 rintro e W4 ⟨rfl,b4⟩
 have b5:=b3.trans (b4.mono b3.size)
 go_wp2
 go_ret
 exact ⟨rfl,h.below b5,fr_below h b5⟩
set_option maxHeartbeats 1600000 in
theorem add_ok {S:Nat → Prop} {b N:Nat} {x:FS} {w:World} (h:FAt S b x w) (ho:OkF x N) (p:ByteArray) (hE:Pkt.getE p = 0) (hA:Pkt.gA p ≠ 2047) (hf:¬ 65536 < x.wait + p.size) :
 Calls Try.prog 39 #[.pointer (some ⟨b,0,none⟩),.string p] w fun e w'=>e = .returned (.int .i64 0) ∧ FAt S b (x.add p.data.toList) w' ∧ FrS S w w':=by
 have hwb:x.wait ≤ 66000:=Nat.le_trans (Nat.sub_le _ _) ho.q
 have HB:=Lib.hid (And.intro ho.q (And.intro ho.st ho.n))
 obtain ⟨A,hAA⟩:∃ A,Pkt.gA p = A:=⟨_,rfl⟩
 obtain ⟨wt,hwt⟩:∃ n,x.wait = n:=⟨_,rfl⟩
 have hw:=fun w'=>waits (w:=w') (S:=S) (b:=b) (x:=x) (N:=N)
 rw [hwt] at hf hwb
 have hA':(((A:Nat):Int) == 2047) = false:=by rw [← hAA];simp;omega
 have hf':¬ (65536:Int) < ((wt:Nat):Int) + ((p.size:Nat):Int):=by omega
 have hpz:p.size ≤ 65536:=by omega
 simp only [hwt] at hw
 have HW:=Lib.hid hw
 clear hw hwt
 go_enter Try.func39,Try.ntmps39
 go_wp2_with (go_at_call 65;refine (nones h ho).mono ?_;rintro e W1 ⟨rfl,rfl⟩)
 go_wp2_with (go_at_call 66;refine (get_e hE _).mono ?_;rintro e W2 ⟨rfl,b2⟩;rw [hAA])
 have b3:=b2.alloc b2.size (.cells #[.bool (Pkt.gC p),.int .i64 ((A:Nat):Int),.int .i64 ((Pkt.gF p:Nat):Int),.int .i64 ((Pkt.gN p:Nat):Int),.string (Pkt.gD p)] 110)
 go_wp2_with (go_at_call 38;refine (HW.out _ (h.below b3) ho).mono ?_)
 rintro e W4 ⟨rfl,b4⟩
 have b5:=b3.trans (b4.mono b3.size)
 obtain ⟨v1,v2,h5⟩:=h.below b5
 have b6:=fr_below h b5
 clear b3 b4 h HW
 go_wp2_with (go_at_call 67;refine (add_calls h5 p (by have:=HB.out;omega) (by have:=HB.out;omega)).mono ?_)
 rintro e W6 ⟨rfl,h7,b7⟩
 go_wp2
 go_ret
 exact ⟨rfl,h7,b6.trans b7⟩
theorem add_at {S:Nat → Prop} {b N:Nat} {x:FS} {w:World} (h:FAt S b x w) (ho:OkF x N) (p:ByteArray) (hp:p.size ≤ 2 ^ 40) :
 Calls Try.prog 39 #[.pointer (some ⟨b,0,none⟩),.string p] w fun e w'=>e = .returned (.int .i64 (addE x p)) ∧ FAt S b (if addE x p = 0 then x.add p.data.toList else x) w' ∧ FrS S w w':=by
 unfold addE
 rcases getE_cases p with hE | hE
 · by_cases hA:Pkt.gA p = 2047
   · rw [if_pos (.inr hA),if_neg (by decide)]
     exact add_idle h ho p hE hA
   · rw [if_neg (by rw [hE];simp;exact hA)]
     by_cases hf:65536 < x.wait + p.size
     · rw [if_pos hf,if_neg (by decide)]
       exact add_full h ho p hE hA hf hp
     · rw [if_neg hf,if_pos rfl]
       exact add_ok h ho p hE hA hf
 · rw [if_pos (.inl (by rw [hE];decide)),if_neg (by decide)]
   exact add_bad h ho p hE
/-! ### Next -/
theorem cutS_le {n m:Nat} {l:List Nat} (h:∀ a ∈ l,a ≤ m):∀ a ∈ cutS n l,a ≤ m:=by
 intro a ha
 unfold cutS at ha
 obtain ⟨c,hc,rfl⟩:=List.mem_map.1 ha
 have:=h c (List.mem_filter.1 hc).1
 omega
theorem OkF.next {x:FS} {N:Nat} (ho:OkF x N) (hN:N + 1 ≤ 2 ^ 20):OkF (x.next idleL) (N + 1):=by
 obtain ⟨lo,hi,idle,q,st,sv,n⟩:=ho
 unfold FS.next FS.pad
 split
 · next hlt =>
   have hm7:7 ≤ max (x.size - x.q.length) 7:=Nat.le_max_right _ _
   have hmM:x.size - x.q.length ≤ max (x.size - x.q.length) 7:=Nat.le_max_left _ _
   have hm2:max (x.size - x.q.length) 7 ≤ 200:=Nat.max_le.2 ⟨by omega,by omega⟩
   have hl:=idleL_len hm7 (by omega)
   exact
    { lo:=lo,hi:=hi
      idle:=by
       show max (x.size - x.q.length) 7 - (x.size - x.q.length) ≤ ((x.q ++ idleL (max (x.size - x.q.length) 7)).drop x.size).length
       rw [List.length_drop,List.length_append,hl];omega
      q:=by
       show ((x.q ++ idleL (max (x.size - x.q.length) 7)).drop x.size).length ≤ 66000
       rw [List.length_drop,List.length_append,hl];omega
      st:=by
       show (cutS x.size (x.st ++ [x.q.length])).length ≤ N + 1
       have:=cutS_len x.size (x.st ++ [x.q.length])
       rw [List.length_append] at this
       exact Nat.le_trans this (by show x.st.length + 1 ≤ _;omega)
      sv:=cutS_le fun a ha=>by
       rcases List.mem_append.1 ha with ha | ha
       · exact sv a ha
       · have:=List.mem_singleton.1 ha;omega
      n:=hN }
 · next hge =>
   exact
    { lo:=lo,hi:=hi,idle:=Nat.zero_le _
      q:=by show (x.q.drop x.size).length ≤ 66000;rw [List.length_drop];omega
      st:=Nat.le_trans (cutS_len _ _) (Nat.le_succ_of_le st)
      sv:=cutS_le sv
      n:=hN }
theorem OkF.add {x:FS} {N:Nat} (ho:OkF x N) {p:ByteArray} (hN:N + 1 ≤ 2 ^ 20) (hi:x.idle ≤ 400) (hw:¬ 65536 < x.wait + p.size):OkF (x.add p.data.toList) (N + 1):=by
 obtain ⟨lo,hi',idle,q,st,sv,n⟩:=ho
 have hs:=size_list p
 unfold FS.wait at hw
 exact
  { lo:=lo,hi:=hi'
    idle:=by show x.idle ≤ (x.q ++ p.data.toList).length;rw [List.length_append];omega
    q:=by show (x.q ++ p.data.toList).length ≤ 66000;rw [List.length_append];omega
    st:=by show (x.st ++ [x.q.length]).length ≤ N + 1;rw [List.length_append];show x.st.length + 1 ≤ _;omega
    sv:=fun a ha=>by
     rcases List.mem_append.1 ha with ha | ha
     · exact sv a ha
     · have:=List.mem_singleton.1 ha;omega
    n:=hN }
theorem next_some {S:Nat → Prop} {b N:Nat} {x:FS} {w:World} (h:FAt S b x w) (ho:OkF x N) (hw0:x.wait ≠ 0) :
 Calls Try.prog 43 #[.pointer (some ⟨b,0,none⟩)] w (NextPost S b x w):=by
 obtain ⟨v1,v2,h⟩:=h
 obtain ⟨sz,q,st,id⟩:=x
 have h1:=ho.lo
 have h2:=ho.hi
 have h3:=ho.q
 have h4:=ho.st
 have h5:=ho.n
 have h6:=ho.sv
 unfold FS.wait at hw0
 dsimp only at h1 h2 h3 h4 h6 hw0
 by_cases hlt:q.length < sz
 · by_cases h7:sz - q.length < 7
   · exact next_pad7 (M:=sz - q.length) h h1 h2 (by omega) (by omega) (by omega) h7 (by omega) h6
   · exact next_padM (M:=sz - q.length) h h1 h2 (by omega) (by omega) (by omega) (by omega) (by omega) h6
 · exact next_full h h1 h2 (by omega) (by omega) (by omega) (by omega) h6
end Go.Am.Tmf
