/-
 Packet: the encoding and its reading, in plain terms. Own work; no program in sight.
-/
import Derived.Test.YtlgpalokjckdcaaPktX
namespace Go.Am.Pkt
open Go Go.Am

theorem ba_ext {a b:ByteArray} (h:a.data.toList = b.data.toList):a = b:=ByteArray.ext (Array.toList_inj.1 h)
theorem ba_size (a:ByteArray):a.size = a.data.toList.length:=rfl
theorem ext_list (s:ByteArray) (i j:Nat):(s.extract i j).data.toList = (s.data.toList.drop i).take (j - i):=by
 rw [ByteArray.data_extract,Array.toList_extract,List.extract_eq_take_drop]
theorem byt_list {s:ByteArray} {l:List UInt8} (h:s.data.toList = l) (i:Nat):byt s i = (l.getD i 0).toNat:=by unfold byt;rw [h]
theorem enc_list (c:Bool) (a f n:Nat) (d:ByteArray):(encS c a f n d).data.toList = by2 (a + if c then 4096 else 0) ++ (by2 (f * 16384 + n) ++ (by2 (d.size - 1) ++ d.data.toList)):=by
 unfold encS
 rw [ByteArray.data_append,Array.toList_append]
 simp
theorem enc_size (c:Bool) (a f n:Nat) (d:ByteArray):(encS c a f n d).size = 6 + d.size:=by
 rw [ba_size,enc_list,ba_size]
 simp [by2];omega
theorem u8_nat {x:Nat} (h:x < 256):(UInt8.ofNat x).toNat = x:=by
 rw [UInt8.toNat_ofNat'];omega
/-- The first six bytes of an encoding. -/
theorem head6 {c:Bool} {a f n:Nat} {d s:ByteArray} {r:List UInt8} (ha:a ≤ 2047) (hf:f ≤ 3) (hn:n ≤ 16383) (d1:d.size ≤ 1024)
 (hs:s.data.toList = by2 (a + if c then 4096 else 0) ++ (by2 (f * 16384 + n) ++ (by2 (d.size - 1) ++ r))) :
 byt s 0 = (a + if c then 4096 else 0) / 256 ∧ byt s 1 = (a + if c then 4096 else 0) % 256 ∧ byt s 2 = (f * 16384 + n) / 256 ∧ byt s 3 = (f * 16384 + n) % 256 ∧ byt s 4 = (d.size - 1) / 256 ∧ byt s 5 = (d.size - 1) % 256:=by
 have hA:(a + if c then 4096 else 0) < 65536:=by split <;> omega
 refine ⟨?_,?_,?_,?_,?_,?_⟩ <;> rw [byt_list hs]
 · exact u8_nat (by omega)
 · exact u8_nat (by omega)
 · exact u8_nat (by omega)
 · exact u8_nat (by omega)
 · exact u8_nat (by omega)
 · exact u8_nat (by omega)
theorem good6 {c:Bool} {a f n:Nat} {d s:ByteArray} {r:List UInt8} (ha:a ≤ 2047) (hf:f ≤ 3) (hn:n ≤ 16383) (d0:1 ≤ d.size) (d1:d.size ≤ 1024)
 (hs:s.data.toList = by2 (a + if c then 4096 else 0) ++ (by2 (f * 16384 + n) ++ (by2 (d.size - 1) ++ r))):¬ badP s ∧ lenT s = 6 + d.size:=by
 obtain ⟨h0,h1,h2,h3,h4,h5⟩:=head6 ha hf hn d1 hs
 have hA:(a + if c then 4096 else 0) / 256 < 32 ∧ (a + if c then 4096 else 0) / 256 / 8 % 2 = 0:=by split <;> omega
 constructor
 · rintro (⟨_,h | h⟩ | ⟨_,h⟩)
   · rw [h0] at h;omega
   · rw [h0] at h;omega
   · rw [h4] at h;omega
 · unfold lenT;rw [h4,h5];omega
theorem take_enc {c:Bool} {a f n:Nat} {d s:ByteArray} {r:List UInt8} (ha:a ≤ 2047) (hf:f ≤ 3) (hn:n ≤ 16383) (d0:1 ≤ d.size) (d1:d.size ≤ 1024)
 (hs:s.data.toList = (encS c a f n d).data.toList ++ r):takeE s = 0 ∧ pL s = 6 + d.size ∧ pC s = c ∧ pA s = a ∧ pF s = f ∧ pN s = n ∧ pD s = d:=by
 rw [enc_list] at hs
 simp only [List.append_assoc] at hs
 obtain ⟨h0,h1,h2,h3,h4,h5⟩:=head6 ha hf hn d1 hs
 obtain ⟨nb,hl⟩:=good6 ha hf hn d0 d1 hs
 have hsz:s.size = 6 + d.size + r.length:=by
  rw [ba_size,hs,ba_size d];simp [by2];omega
 have e0:takeE s = 0:=takeE_ok nb (by omega)
 have ht:third s = f * 16384 + n:=by unfold third;rw [h2,h3];omega
 refine ⟨e0,?_,?_,?_,?_,?_,?_⟩
 · unfold pL;rw [if_pos e0,hl]
 · unfold pC
   rw [h0]
   cases c
   · simp;omega
   · simp [e0];omega
 · unfold pA
   rw [if_pos e0,h0,h1]
   split <;> omega
 · unfold pF;rw [if_pos e0,ht];omega
 · unfold pN;rw [if_pos e0,ht];omega
 · unfold pD
   rw [if_pos e0,hl]
   apply ba_ext
   rw [ext_list,hs]
   have:(by2 (a + if c = true then 4096 else 0) ++ (by2 (f * 16384 + n) ++ (by2 (d.size - 1) ++ (d.data.toList ++ r)))).drop 6 = d.data.toList ++ r:=rfl
   rw [this,List.take_append_of_le_length (by rw [← ba_size];omega),List.take_of_length_le (by rw [← ba_size];omega)]
theorem take_pre {c:Bool} {a f n k:Nat} {d:ByteArray} (ha:a ≤ 2047) (hf:f ≤ 3) (hn:n ≤ 16383) (d0:1 ≤ d.size) (d1:d.size ≤ 1024) (hk:k < 6 + d.size) :
 takeE ((encS c a f n d).extract 0 k) = 4 ∧ pL ((encS c a f n d).extract 0 k) = 0:=by
 obtain ⟨E,hE⟩:∃ E,E = encS c a f n d:=⟨_,rfl⟩
 have hes:E.size = 6 + d.size:=by rw [hE,enc_size]
 have hEl:=enc_list c a f n d
 rw [← hE] at hEl
 obtain ⟨h0,h1,h2,h3,h4,h5⟩:=head6 ha hf hn d1 hEl
 obtain ⟨nb,hl⟩:=good6 ha hf hn d0 d1 hEl
 rw [← hE]
 obtain ⟨s,hs⟩:∃ s,s = E.extract 0 k:=⟨_,rfl⟩
 rw [← hs]
 have hsl:s.data.toList = E.data.toList.take k:=by rw [hs,ext_list,List.drop_zero,Nat.sub_zero]
 have hsz:s.size = k:=by rw [ba_size,hsl,List.length_take,← ba_size,hes];omega
 have hb:∀ i,i < k → byt s i = byt E i:=fun i hi=>by
  unfold byt
  rw [hsl,List.getD_eq_getElem?_getD,List.getElem?_take_of_lt hi,← List.getD_eq_getElem?_getD]
 have nb':¬ badP s:=by
  rintro (⟨z,h⟩ | ⟨z,h⟩)
  · rw [hb 0 (by omega)] at h;exact nb (.inl ⟨by omega,h⟩)
  · rw [hb 4 (by omega)] at h;exact nb (.inr ⟨by omega,h⟩)
 have e4:takeE s = 4:=takeE_short nb' (by
  by_cases z:s.size < 6
  · exact .inl z
  · right
    have:lenT s = lenT E:=by unfold lenT;rw [hb 4 (by omega),hb 5 (by omega)]
    omega)
 exact ⟨e4,by unfold pL;rw [if_neg (by rw [e4];decide)]⟩
end Go.Am.Pkt
