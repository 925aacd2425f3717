/-
  Channels: a demux follows a mux. Own work.
-/
import Derived.Test.YtlgpalokjckdcaaChaSX
import Derived.Test.YtlgpalokjckdcaaChaGH
import Derived.Test.YtlgpalokjckdcaaChaGJ
import Derived.Test.YtlgpalokjckdcaaTmfAD
import Derived.Test.YtlgpalokjckdcaaPktG2
namespace Go.Am.Tmf
open Go Go.Am Go.Am.Lib Go.Proofs
open Go.Am.Pkt (G0 codeOf mixed none_ok by2)
set_option maxRecDepth 100000

theorem hd_byte {cr ch ma co fi:Nat} {d:ByteArray} {wd:Nat} (j:Nat):byteAt (hdT cr ch ma co fi d wd) j = if j < 6 + d.size then (if j < 6 then byteAt ⟨⟨by2 (cr * 64 + ch * 8) ++ (by2 (ma * 256 + co) ++ by2 fi)⟩⟩ j else byteAt d (j - 6)) else byteAt ⟨⟨by2 (wd / 65536) ++ by2 (wd % 65536)⟩⟩ (j - (6 + d.size)):=by
 unfold hdT
 rw [byteAt_append,byteAt_append,ByteArray.size_append,size6]
theorem enc_byte {cr ch ma co fi:Nat} {d:ByteArray} {wd:Nat} (j:Nat):byteAt (encT cr ch ma co fi d wd) j = if j < 10 + d.size then byteAt (hdT cr ch ma co fi d wd) j else byteAt ⟨⟨by2 (crc (hdT cr ch ma co fi d wd))⟩⟩ (j - (10 + d.size)):=by
 unfold encT
 rw [byteAt_append,hdT_size]
theorem enc_two {cr ch ma co fi:Nat} {d:ByteArray} {wd:Nat} (h:cr * 64 + ch * 8 < 65536):by2N (encT cr ch ma co fi d wd) 0 = cr * 64 + ch * 8:=by
 unfold by2N
 rw [encT_at (by omega),encT_at (by omega),two_at0 h,two_at1];omega
theorem enc_ma {cr ch ma co fi:Nat} {d:ByteArray} {wd:Nat} (h:ma < 256) (h2:co < 256):byteAt (encT cr ch ma co fi d wd) 2 = ma ∧ byteAt (encT cr ch ma co fi d wd) 3 = co:=by
 constructor
 · rw [encT_at (by omega),show (2:Nat) = 0 + 2 from rfl,two_off,two_at0 (by omega)];omega
 · rw [encT_at (by omega),show (3:Nat) = 1 + 2 from rfl,two_off,two_at1];omega
theorem enc_fi {cr ch ma co fi:Nat} {d:ByteArray} {wd:Nat} (h:fi < 65536):by2N (encT cr ch ma co fi d wd) 4 = fi:=by
 unfold by2N
 rw [encT_at (by omega),encT_at (by omega),show (4:Nat) = 0 + 2 + 2 from rfl,show (0 + 2 + 2 + 1:Nat) = 1 + 2 + 2 from rfl,two_off,two_off,two_off,two_off,two_nil fi,two_at0 h,two_at1];omega
theorem enc_dat {cr ch ma co fi:Nat} {d:ByteArray} {wd:Nat}:datT (encT cr ch ma co fi d wd) = d:=by
 refine bytes_eq ?_ fun j hj=>?_
 · unfold datT;rw [ByteArray.size_extract,encT_size];omega
 · unfold datT at hj ⊢
   rw [ByteArray.size_extract,encT_size] at hj
   rw [byteAt_cut,if_pos (by rw [encT_size];omega),enc_byte,if_pos (by omega),hd_byte,if_pos (by omega),if_neg (by omega)]
   congr 1;omega
theorem enc_wd {cr ch ma co fi:Nat} {d:ByteArray} {wd:Nat} (h:wd < 2 ^ 32):gWd (encT cr ch ma co fi d wd) = wd:=by
 unfold gWd by2N
 rw [encT_size]
 have e:∀ k,k < 4 → byteAt (encT cr ch ma co fi d wd) (6 + d.size + k) = byteAt ⟨⟨by2 (wd / 65536) ++ by2 (wd % 65536)⟩⟩ k:=by
  intro k hk
  rw [enc_byte,if_pos (by omega),hd_byte,if_neg (by omega)]
  congr 1;omega
 rw [show 12 + d.size - 6 = 6 + d.size + 0 by omega,show 6 + d.size + 0 + 1 = 6 + d.size + 1 by omega,show 12 + d.size - 4 = 6 + d.size + 2 by omega,show 6 + d.size + 2 + 1 = 6 + d.size + 3 by omega,
  e 0 (by omega),e 1 (by omega),e 2 (by omega),e 3 (by omega),show (2:Nat) = 0 + 2 from rfl,show (3:Nat) = 1 + 2 from rfl,two_off,two_off,two_nil (wd % 65536),two_at0 (by omega),two_at1,two_at0 (by omega),two_at1]
 omega
theorem enc_hd {cr ch ma co fi:Nat} {d:ByteArray} {wd:Nat}:(encT cr ch ma co fi d wd).extract 0 ((encT cr ch ma co fi d wd).size - 2) = hdT cr ch ma co fi d wd:=by
 refine bytes_eq ?_ fun j hj=>?_
 · rw [ByteArray.size_extract,encT_size,hdT_size];omega
 · rw [ByteArray.size_extract,encT_size] at hj
   rw [byteAt_cut,if_pos (by rw [encT_size];omega),enc_byte,if_pos (by omega),Nat.zero_add]
theorem enc_crc {cr ch ma co fi:Nat} {d:ByteArray} {wd:Nat}:by2N (encT cr ch ma co fi d wd) ((encT cr ch ma co fi d wd).size - 2) = crc (hdT cr ch ma co fi d wd):=by
 have hc:=crc_lt (hdT cr ch ma co fi d wd)
 unfold by2N
 rw [encT_size,enc_byte,if_neg (by omega),enc_byte,if_neg (by omega),show 12 + d.size - 2 - (10 + d.size) = 0 by omega,show 12 + d.size - 2 + 1 - (10 + d.size) = 1 by omega,two_nil,two_at0 hc,two_at1]
 omega
theorem getTE_0 {s:ByteArray}:getTE s = 0 ↔ (44 ≤ s.size ∧ s.size ≤ 212 ∧ by2N s (s.size - 2) = crc (s.extract 0 (s.size - 2)) ∧ vldS s = true):=by
 unfold getTE
 constructor
 · intro h
   split at h
   · cases h
   split at h
   · cases h
   split at h
   · cases h
   rename_i h1 h2 h3
   exact ⟨by omega,by omega,by omega,by simpa using h3⟩
 · rintro ⟨h1,h2,h3,h4⟩
   rw [if_neg (by omega),if_neg (by omega),if_neg (by rw [h4];decide)]
/-- Get of what Put returns. -/
theorem enc_get {cr ch ma co fi:Nat} {d:ByteArray} {wd:Nat} (hv:vldT cr ch ma co fi d.size = true):getTE (encT cr ch ma co fi d wd) = 0:=by
 obtain ⟨⟨_,a1⟩,⟨_,a2⟩,⟨_,a3⟩,⟨_,a4⟩,⟨a5,a6⟩,a7⟩:=vldT_iff.1 hv
 have h0:=enc_two (cr:=cr) (ch:=ch) (ma:=ma) (co:=co) (fi:=fi) (d:=d) (wd:=wd) (by omega)
 obtain ⟨h1,h2⟩:=enc_ma (cr:=cr) (ch:=ch) (ma:=ma) (co:=co) (fi:=fi) (d:=d) (wd:=wd) (by omega) (by omega)
 have h3:=enc_fi (cr:=cr) (ch:=ch) (ma:=ma) (co:=co) (fi:=fi) (d:=d) (wd:=wd) (by omega)
 refine getTE_0.2 ⟨by rw [encT_size];omega,by rw [encT_size];omega,by rw [enc_crc,enc_hd],?_⟩
 unfold vldS
 rw [h0,h1,h2,h3,enc_dat,decide_eq_true (show (cr * 64 + ch * 8) % 8 = 0 by omega),Bool.true_and,show (cr * 64 + ch * 8) / 64 = cr by omega,show (cr * 64 + ch * 8) / 8 % 8 = ch by omega]
 exact hv
end Go.Am.Tmf

namespace Go.Am.Cha
open Go Go.Am Go.Am.Lib
open Go.Am.Tmf (FS OkF idleL addE fs0 putT putTE getTE datT gWd by2N)
set_option maxRecDepth 100000

theorem data_len {x:FS} (h:x.size ≤ 200):(x.data idleL).length = x.size:=by
 show ((x.pad idleL).q.take x.size).length = x.size
 unfold Tmf.FS.pad
 split
 · rename_i hlt
   show ((x.q ++ idleL (max (x.size - x.q.length) 7)).take x.size).length = x.size
   have hl:=Tmf.idleL_len (n:=max (x.size - x.q.length) 7) (by omega) (by omega)
   rw [List.length_take,List.length_append,hl]
   omega
 · rw [List.length_take];show min x.size x.q.length = x.size;omega
theorem first_ok (x:FS):x.first idleL < x.size ∨ x.first idleL = 2047:=by
 show Tmf.firstOf x.size (x.pad idleL).st < x.size ∨ Tmf.firstOf x.size (x.pad idleL).st = 2047
 cases (x.pad idleL).st with
 | nil=>exact .inr rfl
 | cons a l =>
  rw [Tmf.firstOf_cons]
  split
  · rename_i h;exact .inl h
  · exact .inr rfl
theorem filled_same (M:MS) (l:List Nat):(filled M l).size = M.size ∧ (filled M l).craft = M.craft ∧ (filled M l).master = M.master:=by
 unfold filled
 split <;> exact ⟨rfl,rfl,rfl⟩
theorem chooseM_same (M:MS):(chooseM M).size = M.size ∧ (chooseM M).craft = M.craft ∧ (chooseM M).master = M.master:=filled_same M (bests M)
theorem filled_keep (M:MS) (l:List Nat) (j:Nat):((filled M l).f j).pr = (M.f j).pr ∧ ((filled M l).f j).sh = (M.f j).sh ∧ ((filled M l).f j).ct = (M.f j).ct:=by
 unfold filled
 split
 · exact ⟨refillJ_pr M _ 8 j,refillJ_sh M _ 8 j,refillJ_ct M _ 8 j⟩
 · exact ⟨rfl,rfl,rfl⟩
/-- The frame of channel k. -/
def frameK (M:MS) (k wd:Nat):ByteArray:=putT ((M.craft:Nat):Int) ((k:Nat):Int) ((M.master:Nat):Int) ((((fieldM (chooseM M) k).f k).ct:Nat):Int) ((((chooseM M).f k).x.first idleL:Nat):Int) ⟨⟨((chooseM M).f k).x.data idleL⟩⟩ ((wd:Nat):Int)
theorem frame_ok {N:Nat} {M:MS} (h:OkM N M) (hw:waitJ M 8 ≠ []) {k:Nat} (hk:k < 8) {wd:Nat} (hwd:wd < 2 ^ 32) :
 putTE ((M.craft:Nat):Int) ((k:Nat):Int) ((M.master:Nat):Int) ((((fieldM (chooseM M) k).f k).ct:Nat):Int) ((((chooseM M).f k).x.first idleL:Nat):Int) ⟨⟨((chooseM M).f k).x.data idleL⟩⟩ = 0 ∧
 getTE (frameK M k wd) = 0 ∧ fC (frameK M k wd) = M.craft ∧ fK (frameK M k wd) = k ∧ fM (frameK M k wd) = M.master ∧ fN (frameK M k wd) = ((fieldM (chooseM M) k).f k).ct ∧ fF (frameK M k wd) = ((chooseM M).f k).x.first idleL ∧ datT (frameK M k wd) = ⟨⟨((chooseM M).f k).x.data idleL⟩⟩ ∧ gWd (frameK M k wd) = wd ∧ (((chooseM M).f k).x.data idleL).length = M.size:=by
 have hc:=h.choose hw
 have hx:=hc.x k hk
 have hsz:((chooseM M).f k).x.size = M.size:=(hc.sz k hk).trans (chooseM_same M).1
 have hlo:=h.lo
 have hhi:=h.hi
 have hd:=data_len (x:=((chooseM M).f k).x) (by rw [hsz];exact hhi)
 have hf:=first_ok ((chooseM M).f k).x
 have hct:((fieldM (chooseM M) k).f k).ct < 256:=by
  show (upd (chooseM M).f k _ k).ct < 256
  rw [upd_same]
  exact hc.ct k hk
 have hcr:=h.craft
 have hma:=h.master
 unfold frameK
 generalize ((fieldM (chooseM M) k).f k).ct = ct at hct ⊢
 generalize ((chooseM M).f k).x.first idleL = fi at hf ⊢
 generalize ((chooseM M).f k).x.data idleL = D at hd ⊢
 rw [hsz] at hd hf
 have hDs:(⟨⟨D⟩⟩:ByteArray).size = M.size:=hd
 have hv:Tmf.vldT ((M.craft:Nat):Int) ((k:Nat):Int) ((M.master:Nat):Int) ((ct:Nat):Int) ((fi:Nat):Int) (⟨⟨D⟩⟩:ByteArray).size = true:=by
  unfold Tmf.vldT
  rw [hDs]
  exact decide_eq_true (by omega)
 have hp:putT ((M.craft:Nat):Int) ((k:Nat):Int) ((M.master:Nat):Int) ((ct:Nat):Int) ((fi:Nat):Int) ⟨⟨D⟩⟩ ((wd:Nat):Int) = Tmf.encT M.craft k M.master ct fi ⟨⟨D⟩⟩ wd:=by
  unfold putT
  rw [if_pos hv]
  rfl
 refine ⟨by unfold putTE;rw [if_pos hv],?_⟩
 rw [hp]
 have h0:=Tmf.enc_two (cr:=M.craft) (ch:=k) (ma:=M.master) (co:=ct) (fi:=fi) (d:=⟨⟨D⟩⟩) (wd:=wd) (by omega)
 have h1:=Tmf.enc_ma (cr:=M.craft) (ch:=k) (ma:=M.master) (co:=ct) (fi:=fi) (d:=⟨⟨D⟩⟩) (wd:=wd) hma hct
 refine ⟨Tmf.enc_get hv,?_,?_,h1.1,h1.2,Tmf.enc_fi (by omega),Tmf.enc_dat,Tmf.enc_wd hwd,hd⟩
 · unfold fC;rw [h0];omega
 · unfold fK;rw [h0];omega
end Go.Am.Cha

namespace Go.Am.Cha
open Go Go.Am Go.Am.Lib
open Go.Am.Tmf (FS OkF idleL addE fs0)
set_option maxRecDepth 100000

/-- The mux behind a frame of channel k. -/
def afterK (M:MS) (k:Nat):MS:=tickM (fieldM (chooseM M) k) k
end Go.Am.Cha

namespace Go.Am.Cha
open Go Go.Am Go.Am.Lib Go.Proofs
open Go.Am.Tmf (OkF FS fs0 idleL idleL_len cat stOf cutS firstOf firstOf_cons cutS_drop cutS_snoc stOf_snoc lenS stOf_ge)
set_option maxRecDepth 100000


def madeL (n k:Nat):L8:=(madeN n k).data.toList
/-- What stands in a queue: packets that the law makes, and idle ones. -/
def Itm (p:L8):Prop:=(∃ n k,7 ≤ n ∧ n ≤ 206 ∧ p = madeL n k) ∨ (∃ k,7 ≤ k ∧ k ≤ 200 ∧ p = idleL k)
def real (p:L8):Bool:=decide (Pkt.pA (strB p) ≠ 2047)
theorem head_size (k n:Nat):(⟨⟨headL k n⟩⟩:ByteArray).size = 1 + n:=by
 show (headL k n).length = _
 unfold headL
 rw [List.length_cons,List.length_replicate];omega
theorem itm_enc {p:L8} (h:Itm p):∃ (a m:Nat) (d:ByteArray),a ≤ 2047 ∧ m ≤ 16383 ∧ 1 ≤ d.size ∧ d.size ≤ 300 ∧ p = (Pkt.encS false a 3 m d).data.toList:=by
 rcases h with ⟨n,k,k0,k1,rfl⟩ | ⟨k,k0,k1,rfl⟩
 · refine ⟨3,k % 16384,⟨⟨headL k (n - 7)⟩⟩,by decide,(by omega),?_,?_,rfl⟩
   · rw [head_size];omega
   · rw [head_size];omega
 · have e:idleL k = (Pkt.encS false 2047 3 0 ⟨⟨List.replicate (k - 6) 0⟩⟩).data.toList:=by
    unfold idleL Tmf.idleS
    rw [if_neg (by omega),Int.toNat_natCast]
   have hs:(⟨⟨List.replicate (k - 6) 0⟩⟩:ByteArray).size = k - 6:=by
    show (List.replicate (k - 6) (0:UInt8)).length = _
    rw [List.length_replicate]
   exact ⟨2047,0,_,Nat.le_refl _,by decide,by rw [hs];omega,by rw [hs];omega,e⟩
theorem itm_take {p:L8} (h:Itm p) {s:ByteArray} {r:L8} (hs:s.data.toList = p ++ r):Pkt.takeE s = 0 ∧ Pkt.pL s = p.length ∧ (real p = decide (Pkt.pA s ≠ 2047)):=by
 obtain ⟨a,m,d,a1,m1,d0,d1,rfl⟩:=itm_enc h
 obtain ⟨h1,h2,_,h4,_⟩:=Pkt.take_enc a1 (by decide) m1 d0 (by omega) hs
 obtain ⟨_,_,_,g4,_⟩:=Pkt.take_enc (c:=false) (a:=a) (f:=3) (n:=m) (d:=d) (s:=strB (Pkt.encS false a 3 m d).data.toList) (r:=[]) a1 (by decide) m1 d0 (by omega) (by rw [List.append_nil];rfl)
 refine ⟨h1,?_,?_⟩
 · rw [h2,← Pkt.ba_size,Pkt.enc_size]
 · unfold real;rw [h4,g4]
theorem itm_pre {p:L8} (h:Itm p) {s:ByteArray} {k:Nat} (hk:k < p.length) (hs:s.data.toList = p.take k):Pkt.takeE s = 4:=by
 obtain ⟨a,m,d,a1,m1,d0,d1,rfl⟩:=itm_enc h
 rw [← Pkt.ba_size,Pkt.enc_size] at hk
 have e:s = (Pkt.encS false a 3 m d).extract 0 k:=Pkt.ba_ext (by rw [hs,Pkt.ext_list,List.drop_zero,Nat.sub_zero])
 rw [e]
 exact (Pkt.take_pre a1 (by decide) m1 d0 (by omega) hk).1
theorem itm_len {p:L8} (h:Itm p):7 ≤ p.length ∧ p.length ≤ 306:=by
 obtain ⟨a,m,d,a1,m1,d0,d1,rfl⟩:=itm_enc h
 rw [← Pkt.ba_size,Pkt.enc_size];omega
theorem real_made {n k:Nat} (h0:7 ≤ n) (h1:n ≤ 206):real (madeL n k) = true:=by
 have hd:=head_size k (n - 7)
 obtain ⟨_,_,_,g4,_⟩:=Pkt.take_enc (c:=false) (a:=3) (f:=3) (n:=k % 16384) (d:=⟨⟨headL k (n - 7)⟩⟩) (s:=strB (madeL n k)) (r:=[]) (by decide) (by decide) (by omega) (by omega) (by omega) (by rw [List.append_nil];rfl)
 unfold real;rw [g4];rfl
theorem real_idle {k:Nat} (h0:7 ≤ k) (h1:k ≤ 200):real (idleL k) = false:=by
 have hs:(⟨⟨List.replicate (k - 6) 0⟩⟩:ByteArray).size = k - 6:=by
  show (List.replicate (k - 6) (0:UInt8)).length = _
  rw [List.length_replicate]
 have e:idleL k = (Pkt.encS false 2047 3 0 ⟨⟨List.replicate (k - 6) 0⟩⟩).data.toList:=by
  unfold idleL Tmf.idleS
  rw [if_neg (by omega),Int.toNat_natCast]
 obtain ⟨_,_,_,g4,_⟩:=Pkt.take_enc (c:=false) (a:=2047) (f:=3) (n:=0) (d:=⟨⟨List.replicate (k - 6) 0⟩⟩) (s:=strB (idleL k)) (r:=[]) (by decide) (by decide) (by decide) (by omega) (by omega) (by rw [List.append_nil,e];rfl)
 unfold real;rw [g4];rfl

/-! ### the stream -/
theorem cutS_cutS (a b:Nat):∀ l:List Nat,cutS a (cutS b l) = cutS (b + a) l
 | []=>rfl
 | x :: l=>by
  have ih:=cutS_cutS a b l
  by_cases h1:b ≤ x
  · have e1:cutS b (x :: l) = (x - b) :: cutS b l:=by unfold cutS;rw [List.filter_cons,decide_eq_true h1,if_pos rfl,List.map_cons]
    rw [e1]
    by_cases h2:b + a ≤ x
    · have e2:cutS (b + a) (x :: l) = (x - (b + a)) :: cutS (b + a) l:=by unfold cutS;rw [List.filter_cons,decide_eq_true h2,if_pos rfl,List.map_cons]
      have e3:cutS a ((x - b) :: cutS b l) = (x - b - a) :: cutS a (cutS b l):=by
       conv=>lhs;unfold cutS
       rw [List.filter_cons,decide_eq_true (show a ≤ x - b by omega),if_pos rfl,List.map_cons];rfl
      rw [e2,e3,ih,Nat.sub_sub]
    · rw [cutS_drop (show x < b + a by omega),cutS_drop (show x - b < a by omega),ih]
  · rw [cutS_drop (show x < b by omega),cutS_drop (show x < b + a by omega),ih]
theorem firstOf_far {n a:Nat} (l:List Nat) (h:n ≤ a):firstOf n (l ++ [a]) = firstOf n l:=by
 cases l with
 | nil=>rw [List.nil_append,firstOf_cons,if_neg (by omega)];rfl
 | cons b l=>rfl
structure Str0 (n:Nat) (x:FS) (A:L8) (T:List L8) (fs:List Nat):Prop where
 size:x.size = n
 lo:32 ≤ n
 hi:n ≤ 200
 flat:A ++ x.q = cat T
 st:x.st = cutS A.length (stOf 0 false T)
 fl:fs.length * n = A.length
 fk:∀ k,k < fs.length → fs[k]? = some (firstOf n (cutS (k * n) (stOf 0 false T)))
 itm:∀ p ∈ T,Itm p
structure Str (n:Nat) (x:FS) (A:L8) (T want:List L8) (fs:List Nat):Prop extends Str0 n x A T fs where
 idle:x.idle ≤ 6
 qi:x.idle ≤ x.q.length
 last:x.idle = 0 ∨ ∃ T0 m T2,T = T0 ++ idleL m :: T2 ∧ A ++ x.q.take x.idle = cat (T0 ++ [idleL m]) ∧ 7 ≤ m ∧ m ≤ 200
 want:want = T.filter real
theorem lenS_eq {n:Nat} {x:FS} {A:L8} {T:List L8} {fs:List Nat} (h:Str0 n x A T fs):lenS T = A.length + x.q.length:=by
 unfold lenS;rw [← h.flat,List.length_append]
theorem cat_snoc (T:List L8) (p:L8):cat (T ++ [p]) = cat T ++ p:=by unfold cat;rw [List.flatten_append];simp
theorem Str0.add {n:Nat} {x:FS} {A:L8} {T:List L8} {fs:List Nat} (h:Str0 n x A T fs) {p:L8} (hp:Itm p):Str0 n (x.add p) A (T ++ [p]) fs:=by
 have hl:=lenS_eq h
 have hs:=stOf_snoc T 0 false p (fun _=>rfl)
 rw [Nat.zero_add] at hs
 refine ⟨h.size,h.lo,h.hi,?_,?_,h.fl,?_,?_⟩
 · show A ++ (x.q ++ p) = _
   rw [cat_snoc,← h.flat,List.append_assoc]
 · show x.st ++ [x.q.length] = _
   rw [hs,cutS_snoc,if_pos (by omega),h.st,hl,Nat.add_sub_cancel_left]
 · intro k hk
   have h1:(k + 1) * n ≤ fs.length * n:=Nat.mul_le_mul_right n hk
   rw [Nat.succ_mul,h.fl] at h1
   rw [h.fk k hk,hs,cutS_snoc,if_pos (by omega),firstOf_far _ (by omega)]
 · intro q hq
   rcases List.mem_append.1 hq with hq | hq
   · exact h.itm q hq
   · rw [List.mem_singleton.1 hq];exact hp
/-- A field is taken. -/
theorem Str0.cut {n:Nat} {x:FS} {A:L8} {T:List L8} {fs:List Nat} (h:Str0 n x A T fs) (hq:n ≤ x.q.length):Str0 n x.cut (A ++ x.q.take n) T (fs ++ [firstOf n x.st]):=by
 have ht:(x.q.take n).length = n:=by rw [List.length_take];omega
 refine ⟨h.size,h.lo,h.hi,?_,?_,?_,?_,h.itm⟩
 · show A ++ x.q.take n ++ x.q.drop x.size = _
   rw [h.size,List.append_assoc,List.take_append_drop,h.flat]
 · show cutS x.size x.st = _
   rw [h.size,h.st,cutS_cutS,List.length_append,ht]
 · rw [List.length_append,List.length_append,ht,List.length_singleton,Nat.succ_mul,h.fl]
 · intro k hk
   rw [List.length_append,List.length_singleton] at hk
   rcases Nat.lt_or_ge k fs.length with hk1 | hk1
   · rw [List.getElem?_append_left hk1,h.fk k hk1]
   · have e:k = fs.length:=by omega
     rw [e,List.getElem?_append_right (Nat.le_refl _),Nat.sub_self,h.fl,h.st];rfl
theorem Str.add {n:Nat} {x:FS} {A:L8} {T want:List L8} {fs:List Nat} (h:Str n x A T want fs) {m k:Nat} (k0:7 ≤ m) (k1:m ≤ 206):Str n (x.add (madeL m k)) A (T ++ [madeL m k]) (want ++ [madeL m k]) fs :=
 { toStr0:=h.toStr0.add (.inl ⟨m,k,k0,k1,rfl⟩)
   idle:=h.idle
   qi:=Nat.le_trans h.qi (by show _ ≤ (x.q ++ madeL m k).length;rw [List.length_append];exact Nat.le_add_right _ _)
   last:=by
    rcases h.last with h0 | ⟨T0,m',T2,e1,e2,m0,m1⟩
    · exact .inl h0
    · refine .inr ⟨T0,m',T2 ++ [madeL m k],by rw [e1,List.append_assoc];rfl,?_,m0,m1⟩
      show A ++ (x.q ++ madeL m k).take x.idle = _
      rw [List.take_append_of_le_length h.qi,e2]
   want:=by rw [List.filter_append,h.want];simp [real_made k0 k1] }
theorem Str.next_full {n:Nat} {x:FS} {A:L8} {T want:List L8} {fs:List Nat} (h:Str n x A T want fs) (hq:n ≤ x.q.length) :
 Str n (x.next idleL) (A ++ x.data idleL) T want (fs ++ [x.first idleL]) ∧ (x.data idleL).length = n ∧ (x.next idleL).q.length + n = x.q.length:=by
 have hsz:=h.size
 have hpad:x.pad idleL = { x with idle:=0 }:=by unfold FS.pad;rw [if_neg (by omega)]
 have h2:=h.toStr0.cut hq
 have ed:x.data idleL = x.q.take n:=by unfold FS.data;rw [hpad,hsz]
 have ef:x.first idleL = firstOf n x.st:=by unfold FS.first;rw [hpad,hsz]
 have en:x.next idleL = { x.cut with idle:=0 }:=by unfold FS.next;rw [hpad];rfl
 refine ⟨?_,?_,?_⟩
 · rw [ed,ef,en]
   exact { size:=h2.size,lo:=h2.lo,hi:=h2.hi,flat:=h2.flat,st:=h2.st,fl:=h2.fl,fk:=h2.fk,itm:=h2.itm,idle:=Nat.zero_le _,qi:=Nat.zero_le _,last:=.inl rfl,want:=h.want }
 · rw [ed,List.length_take];omega
 · rw [en]
   show (x.q.drop x.size).length + n = _
   rw [List.length_drop];omega
theorem Str.next {n:Nat} {x:FS} {A:L8} {T want:List L8} {fs:List Nat} (h:Str n x A T want fs) :
 ∃ T',Str n (x.next idleL) (A ++ x.data idleL) T' want (fs ++ [x.first idleL]) ∧ (∃ E,T' = T ++ E) ∧ (x.data idleL).length = n ∧
  ((x.next idleL).wait = 0 ∨ ((x.next idleL).q.length + n = x.q.length ∧ T' = T)):=by
 have hsz:=h.size
 have hlo:=h.lo
 have hhi:=h.hi
 by_cases hq:x.q.length < x.size
 · obtain ⟨m,hm⟩:∃ m,max (x.size - x.q.length) 7 = m:=⟨_,rfl⟩
   have hm7:7 ≤ m:=by rw [← hm];exact Nat.le_max_right _ _
   have hm2:x.size - x.q.length ≤ m:=by rw [← hm];exact Nat.le_max_left _ _
   have hm3:m ≤ 200:=by rw [← hm];exact Nat.max_le.2 ⟨by omega,by omega⟩
   have hm4:m ≤ x.size - x.q.length + 6:=by rw [← hm];exact Nat.max_le.2 ⟨by omega,by omega⟩
   have hpad:x.pad idleL = { x.add (idleL m) with idle:=m - (x.size - x.q.length) }:=by
    unfold FS.pad;rw [if_pos hq,hm]
   have hil:(idleL m).length = m:=idleL_len hm7 (by omega)
   have h1:=h.toStr0.add (p:=idleL m) (.inr ⟨m,hm7,hm3,rfl⟩)
   have hql:(x.q ++ idleL m).length = x.q.length + m:=by rw [List.length_append,hil]
   have h2:=h1.cut (by show n ≤ (x.q ++ idleL m).length;omega)
   have hw:((x.q ++ idleL m).drop x.size).length = m - (x.size - x.q.length):=by rw [List.length_drop,hql];omega
   have ed:x.data idleL = (x.q ++ idleL m).take n:=by unfold FS.data;rw [hpad,hsz];rfl
   have ef:x.first idleL = firstOf n (x.add (idleL m)).st:=by unfold FS.first;rw [hpad,hsz]
   have en:x.next idleL = { (x.add (idleL m)).cut with idle:=m - (x.size - x.q.length) }:=by unfold FS.next;rw [hpad];rfl
   refine ⟨T ++ [idleL m],?_,?_,?_,?_⟩
   · rw [ed,ef,en]
     refine { size:=h2.size,lo:=h2.lo,hi:=h2.hi,flat:=h2.flat,st:=h2.st,fl:=h2.fl,fk:=h2.fk,itm:=h2.itm,idle:=?_,qi:=?_,last:=?_,want:=?_ }
     · show m - (x.size - x.q.length) ≤ 6;omega
     · show m - (x.size - x.q.length) ≤ ((x.q ++ idleL m).drop x.size).length
       rw [hw];exact Nat.le_refl _
     · refine .inr ⟨T,m,[],rfl,?_,hm7,hm3⟩
       show A ++ (x.q ++ idleL m).take n ++ ((x.q ++ idleL m).drop x.size).take (m - (x.size - x.q.length)) = _
       have e9:((x.q ++ idleL m).drop x.size).take (m - (x.size - x.q.length)) = (x.q ++ idleL m).drop x.size:=List.take_of_length_le (by rw [hw];exact Nat.le_refl _)
       rw [e9,hsz,List.append_assoc,List.take_append_drop,cat_snoc,← h.flat,List.append_assoc]
     · rw [List.filter_append,← h.want];simp [real_idle hm7 hm3]
   · exact ⟨_,rfl⟩
   · rw [ed,List.length_take];omega
   · left
     rw [en]
     show ((x.q ++ idleL m).drop x.size).length - (m - (x.size - x.q.length)) = 0
     rw [hw];omega
 · obtain ⟨g1,g2,g3⟩:=h.next_full (by omega)
   exact ⟨T,g1,⟨[],(List.append_nil T).symm⟩,g2,.inr ⟨g3,rfl⟩⟩
theorem Str.zero {n:Nat} (lo:32 ≤ n) (hi:n ≤ 200):Str n (fs0 n) [] [] [] [] :=
 { size:=rfl,lo:=lo,hi:=hi,flat:=rfl,st:=rfl,fl:=Nat.zero_mul _,fk:=fun k hk=>absurd hk (Nat.not_lt_zero k),itm:=fun p hp=>(by cases hp),idle:=Nat.zero_le _,qi:=Nat.zero_le _,last:=.inl rfl,want:=rfl }

theorem lenS_succ {T:List L8} {j:Nat} {p:L8} (h:T[j]? = some p):lenS (T.take (j + 1)) = lenS (T.take j) + p.length:=by
 have hj:j < T.length:=(List.getElem?_eq_some_iff.1 h).1
 rw [List.take_add_one,h]
 unfold lenS cat
 rw [List.flatten_append,List.length_append];simp
theorem take_succ_some {T:List L8} {j:Nat} {p:L8} (h:T[j]? = some p):T.take (j + 1) = T.take j ++ [p]:=by rw [List.take_add_one,h];rfl
theorem short_nil {T:List L8} (hi:∀ p ∈ T,Itm p) (h:lenS T ≤ 6):T = []:=by
 cases T with
 | nil=>rfl
 | cons p r =>
  exfalso
  have h1:=(itm_len (hi p List.mem_cons_self)).1
  unfold lenS cat at h
  rw [List.flatten_cons,List.length_append] at h
  omega
/-- The last, idle one was cut. -/
theorem parse_part {n:Nat} {x:FS} {A:L8} {T want:List L8} {fs:List Nat} (h:Str n x A T want fs) (hw:x.wait = 0) {j:Nat} {p:L8} (hp:T[j]? = some p) (hgt:A.length < lenS (T.take j) + p.length) :
 T.take (j + 1) = T ∧ real p = false:=by
 have hl:=lenS_eq h.toStr0
 have hq:x.q.length = x.idle:=by have:=h.qi;unfold FS.wait at hw;omega
 have h6:=h.idle
 have hs:=lenS_succ hp
 have hsp:lenS T = lenS (T.take (j + 1)) + lenS (T.drop (j + 1)):=by
  conv=>lhs;rw [← List.take_append_drop (j + 1) T]
  unfold lenS cat
  rw [List.flatten_append,List.length_append]
 have hd:T.drop (j + 1) = []:=short_nil (fun q hq=>h.itm q (List.mem_of_mem_drop hq)) (by omega)
 have ht:T.take (j + 1) = T:=by
  have:=List.take_append_drop (j + 1) T
  rw [hd,List.append_nil] at this
  exact this
 refine ⟨ht,?_⟩
 rcases h.last with h0 | ⟨T0,m,T2,e1,e2,m0,m1⟩
 · exfalso
   rw [hd] at hsp
   have:lenS ([]:List L8) = 0:=rfl
   omega
 · have e3:x.q.take x.idle = x.q:=List.take_of_length_le (by omega)
   rw [e3,h.flat,e1] at e2
   have e4:T2 = []:=by
    refine short_nil (fun q hq=>h.itm q (by rw [e1];exact List.mem_append_right _ (List.mem_cons_of_mem _ hq))) ?_
    have:=congrArg List.length e2
    unfold cat at this
    rw [List.flatten_append,List.flatten_append,List.flatten_cons,List.flatten_cons,List.length_append,List.length_append,List.length_append,List.length_append] at this
    unfold lenS cat
    simp at this
    rw [List.length_flatten,this];exact Nat.zero_le _
   rw [e4] at e1
   have hj:j + 1 = T.length:=by
    have h1:=congrArg List.length ht
    rw [List.length_take] at h1
    have h2:=(List.getElem?_eq_some_iff.1 hp).1
    omega
   have:p = idleL m:=by
    have h2:T[T0.length]? = some (idleL m):=by rw [e1,List.getElem?_append_right (Nat.le_refl _),Nat.sub_self];rfl
    have h3:j = T0.length:=by
     rw [e1,List.length_append] at hj;simp at hj;exact hj
    rw [← h3,hp] at h2
    injection h2
   rw [this];exact real_idle m0 m1
theorem filter_succ {T:List L8} {j:Nat} {p:L8} (h:T[j]? = some p):(T.take (j + 1)).filter real = (T.take j).filter real ++ (if real p = true then [p] else []):=by
 rw [take_succ_some h,List.filter_append,List.filter_cons,List.filter_nil]

/-! ### where the first packet of a field begins -/
end Go.Am.Cha

namespace Go.Am.Cha
open Go Go.Am Go.Am.Lib Go.Proofs
open Go.Am.Tmf (FS fs0 idleL cat stOf cutS firstOf firstOf_cons lenS OkF)
set_option maxRecDepth 100000

theorem cat_nil:cat ([]:List L8) = []:=rfl
theorem cat_cons (p:L8) (T:List L8):cat (p :: T) = p ++ cat T:=rfl
/-- Of the first m bytes of some items: how many items are whole. -/
def wholeN:List L8 → Nat → Nat
 | [],_=>0
 | p :: T,m=>if p.length ≤ m then wholeN T (m - p.length) + 1 else 0
/-- What is left behind these. -/
def leftN:List L8 → Nat → L8
 | [],_=>[]
 | p :: T,m=>if p.length ≤ m then leftN T (m - p.length) else p.take m
/-- The packets of the first m bytes of some items. -/
theorem parse_items (T:List L8):(∀ p ∈ T,Itm p) → ∀ (m:Nat) (s:ByteArray),s.data.toList = (cat T).take m → came (parses s).1 = (T.take (wholeN T m)).filter real ∧ (parses s).2.data.toList = leftN T m ∧ ((parses s).2.size ≠ 0 → Pkt.takeE (parses s).2 = 4):=by
 induction T with
 | nil =>
  intro _ m s hs
  have h0:s.size = 0:=by rw [Pkt.ba_size,hs,cat_nil,List.take_nil];rfl
  have hg:¬ Goes s:=fun h=>h.1 h0
  rw [parses_stops hg]
  exact ⟨rfl,by rw [hs,cat_nil,List.take_nil];rfl,fun h=>absurd h0 h⟩
 | cons p T ih =>
  intro hi m s hs
  have hp:=hi p List.mem_cons_self
  have hl:=itm_len hp
  unfold wholeN leftN
  by_cases hm:p.length ≤ m
  · rw [if_pos hm,if_pos hm]
    have hs2:s.data.toList = p ++ (cat T).take (m - p.length):=by rw [hs,cat_cons,List.take_append,List.take_of_length_le hm]
    obtain ⟨t1,t2,t3⟩:=itm_take hp hs2
    have hsz:s.size ≠ 0:=by rw [Pkt.ba_size,hs2,List.length_append];omega
    have hg:Goes s:=⟨hsz,t1⟩
    have hd:(dropB s).data.toList = (cat T).take (m - p.length):=by
     unfold dropB
     rw [Pkt.ext_list,hs2,t2,List.drop_left,List.take_of_length_le]
     rw [Pkt.ba_size,hs2,List.length_append];omega
    have hh:(headB s).data.toList = p:=by
     unfold headB
     rw [Pkt.ext_list,hs2,t2,List.drop_zero,Nat.sub_zero,List.take_left]
    obtain ⟨i1,i2,i3⟩:=ih (fun q hq=>hi q (List.mem_cons_of_mem _ hq)) (m - p.length) (dropB s) hd
    rw [parses_goes hg]
    dsimp only
    generalize parses (dropB s) = R at i1 i2 i3 ⊢
    refine ⟨?_,i2,i3⟩
    have e:came (s :: R.1) = dlv s (headB s) ++ came R.1:=by unfold came;rw [List.flatMap_cons]
    rw [e,i1,List.take_succ_cons,List.filter_cons]
    unfold dlv
    rw [t3,hh]
    generalize Pkt.pA s = a
    by_cases ha:a = 2047
    · simp [ha]
    · simp [ha]
  · rw [if_neg hm,if_neg hm]
    have hs2:s.data.toList = p.take m:=by rw [hs,cat_cons,List.take_append_of_le_length (by omega)]
    have h4:=itm_pre hp (by omega) hs2
    have hg:¬ Goes s:=fun h=>by rw [h.2] at h4;exact absurd h4 (by decide)
    rw [parses_stops hg]
    exact ⟨rfl,hs2,fun _=>h4⟩
theorem cut_head (p:L8) (T:List L8) {a:Nat} (h:p.length ≤ a) (hp:0 < p.length):cutS a (stOf 0 false (p :: T)) = cutS (a - p.length) (stOf 0 false T):=by
 have e1:stOf 0 false (p :: T) = 0 :: stOf (p.length + 0) false T:=by
  show 0 :: stOf (0 + p.length) false T = _
  rw [Nat.add_comm]
 rw [e1,Tmf.cutS_drop (by omega),Tmf.stOf_shift]
 have e2:a = p.length + (a - p.length):=by omega
 rw [e2,← cutS_cutS,Tmf.cutS_shift]
 congr 1
 omega
/-- What a sink keeps when the first a bytes of some items have come. -/
def SinkP (T:List L8) (a:Nat) (s:Sk):Prop:=(leftN T a = [] → s.bg = false) ∧ (leftN T a ≠ [] → s.bg = true ∧ s.pt.data.toList = leftN T a)
theorem first_behind (p:L8) (T:List L8) {a n:Nat} (h0:0 < a) (h1:a < p.length) (hT:T = [] → p.length - a ≥ n):firstOf n (cutS a (stOf 0 false (p :: T))) = if p.length - a < n then p.length - a else 2047:=by
 have e1:stOf 0 false (p :: T) = 0 :: stOf p.length false T:=by
  show 0 :: stOf (0 + p.length) false T = _
  rw [Nat.zero_add]
 rw [e1,Tmf.cutS_drop (by omega)]
 cases T with
 | nil =>
  have:=hT rfl
  rw [if_neg (by omega)];rfl
 | cons q T =>
  have e2:cutS a (stOf p.length false (q :: T)) = (p.length - a) :: cutS a (stOf (p.length + q.length) false T):=by
   show cutS a (p.length :: _) = _
   unfold cutS
   rw [List.filter_cons,decide_eq_true (by omega),if_pos rfl,List.map_cons]
  rw [e2,firstOf_cons]
theorem whole_zero:∀ (T:List L8),(∀ p ∈ T,Itm p) → wholeN T 0 = 0 ∧ leftN T 0 = []
 | [],_=>⟨rfl,rfl⟩
 | p :: T,h=>by
  have:=itm_len (h p List.mem_cons_self)
  unfold wholeN leftN
  rw [if_neg (by omega),if_neg (by omega)]
  exact ⟨rfl,rfl⟩
theorem sink_tail {T:List L8} {m:Nat} {s:Sk} {R:List ByteArray × ByteArray} (h2:R.2.data.toList = leftN T m) (h3:R.2.size ≠ 0 → Pkt.takeE R.2 = 4) (hb:s.bg = false) (k:Nat) (L:List L8):∃ s',tailM (s,k,L) R = (s',k,L ++ came R.1) ∧ SinkP T m s':=by
 unfold tailM endN
 by_cases hz:R.2.size = 0
 · have hl:leftN T m = []:=by rw [← h2];exact List.eq_nil_of_length_eq_zero hz
   rw [if_neg fun hh=>hh.1 hz,if_neg fun hh=>hh.1 hz]
   exact ⟨_,rfl,fun _=>hb,fun hn=>absurd hl hn⟩
 · have h4:=h3 hz
   rw [if_pos ⟨hz,h4⟩,if_neg fun hh=>hh.2 h4]
   refine ⟨_,rfl,fun hn=>?_,fun _=>⟨rfl,h2⟩⟩
   rw [← h2] at hn
   exact absurd (by rw [Pkt.ba_size,hn];rfl) hz
/-- A sink takes the next field of its channel's stream: the packets that are whole then have arrived. -/
theorem field_step {n:Nat} (hn:0 < n) (hn2:n ≤ 2047) (T:List L8):(∀ p ∈ T,Itm p) → ∀ (a:Nat) (s:Sk) (D:ByteArray),D.data.toList = ((cat T).drop a).take n → D.size = n → SinkP T a s → ∃ s' pk,takeM s (firstOf n (cutS a (stOf 0 false T))) D 0 [] = (s',0,pk) ∧ SinkP T (a + n) s' ∧ (T.take (wholeN T (a + n))).filter real = (T.take (wholeN T a)).filter real ++ pk:=by
 induction T with
 | nil =>
  intro _ a s D hD hs _
  rw [Pkt.ba_size,hD,cat_nil,List.drop_nil,List.take_nil] at hs
  exact absurd hs (by simp;omega)
 | cons p T ih =>
  intro hi a s D hD hs hS
  have hp:=hi p List.mem_cons_self
  have hl:=itm_len hp
  have hiT:∀ q ∈ T,Itm q:=fun q hq=>hi q (List.mem_cons_of_mem _ hq)
  by_cases hpa:p.length ≤ a
  · have e1:a + n - p.length = (a - p.length) + n:=by omega
    have hD2:D.data.toList = ((cat T).drop (a - p.length)).take n:=by rw [hD,cat_cons,List.drop_append,List.drop_of_length_le hpa,List.nil_append]
    have hS2:SinkP T (a - p.length) s:=by
     unfold SinkP leftN at hS
     rw [if_pos hpa] at hS
     exact hS
    obtain ⟨s',pk,g1,g2,g3⟩:=ih hiT (a - p.length) s D hD2 hs hS2
    refine ⟨s',pk,by rw [cut_head p T hpa (by omega)];exact g1,?_,?_⟩
    · unfold SinkP leftN
      rw [if_pos (by omega),e1]
      exact g2
    · unfold wholeN
      rw [if_pos (by omega),if_pos hpa,e1,List.take_succ_cons,List.take_succ_cons,List.filter_cons,List.filter_cons,g3]
      split
      · rfl
      · rfl
  · have w0:wholeN (p :: T) a = 0:=by unfold wholeN;rw [if_neg hpa]
    have l0:leftN (p :: T) a = p.take a:=by unfold leftN;rw [if_neg hpa]
    rw [w0]
    rcases Nat.eq_zero_or_pos a with h0 | h0
    · subst h0
      have hb:s.bg = false:=hS.1 (by rw [l0];rfl)
      have e1:stOf 0 false (p :: T) = 0 :: stOf (0 + p.length) false T:=rfl
      have e2:cutS 0 (stOf 0 false (p :: T)) = (0 - 0) :: cutS 0 (stOf (0 + p.length) false T):=by
       rw [e1]
       unfold cutS
       rw [List.filter_cons,decide_eq_true (Nat.le_refl 0),if_pos rfl,List.map_cons]
      have ef:firstOf n (cutS 0 (stOf 0 false (p :: T))) = 0:=by rw [e2,firstOf_cons,if_pos (by omega)]
      rw [ef]
      have hx:D.extract (min 0 D.size) D.size = D:=Pkt.ba_ext (by rw [Pkt.ext_list,Nat.zero_min,List.drop_zero,Nat.sub_zero];exact List.take_of_length_le (Nat.le_of_eq (Pkt.ba_size D).symm))
      obtain ⟨q1,q2,q3⟩:=parse_items (p :: T) hi n D (by rw [hD,List.drop_zero])
      obtain ⟨s',t1,t2⟩:=sink_tail (s:=s) q2 q3 hb 0 []
      refine ⟨s',_,?_,by rw [Nat.zero_add];exact t2,by rw [Nat.zero_add,← q1];rfl⟩
      unfold takeM stepM
      rw [if_neg (by decide),if_neg (by rw [hb];decide),hx,t1]
      rfl
    · have hne:leftN (p :: T) a ≠ []:=by
       rw [l0]
       intro e
       have:=congrArg List.length e
       rw [List.length_take] at this
       replace this:min a p.length = 0:=this
       omega
      obtain ⟨hb,hpt⟩:=hS.2 hne
      rw [l0] at hpt
      have hDl:D.data.toList.length = n:=hs
      have hlen:a + n ≤ p.length + (cat T).length:=by
       have:=congrArg List.length hD
       rw [hDl,List.length_take,List.length_drop,cat_cons,List.length_append] at this
       omega
      have hT:T = [] → p.length - a ≥ n:=fun e=>by
       subst e
       have:(cat ([]:List L8)).length = 0:=rfl
       omega
      rw [first_behind p T h0 (by omega) hT]
      by_cases hsh:p.length - a < n
      · rw [if_pos hsh]
        have hD2:D.data.toList = p.drop a ++ (cat T).take (n - (p.length - a)):=by
         rw [hD,cat_cons,List.drop_append_of_le_length (by omega),List.take_append,List.length_drop,List.take_of_length_le (by rw [List.length_drop];omega)]
        have hmin:min (p.length - a) D.size = p.length - a:=by omega
        have hq:(p.drop a ++ (cat T).take (n - (p.length - a))).take (p.length - a) = p.drop a:=by
         rw [List.take_append_of_le_length (by rw [List.length_drop];omega),List.take_of_length_le (by rw [List.length_drop];omega)]
        have hx:s.pt ++ D.extract 0 (min (p.length - a) D.size) = strB p:=Pkt.ba_ext (by
         rw [ByteArray.data_append,Array.toList_append,hpt,hmin,Pkt.ext_list,List.drop_zero,Nat.sub_zero,hD2,hq,List.take_append_drop];rfl)
        obtain ⟨t1,t2,t3⟩:=itm_take hp (s:=strB p) (r:=[]) (by rw [List.append_nil];rfl)
        have hr:(D.extract (min (p.length - a) D.size) D.size).data.toList = (cat T).take (n - (p.length - a)):=by
         rw [Pkt.ext_list,hmin,hD2,List.drop_append,List.drop_of_length_le (by rw [List.length_drop];omega),List.nil_append,List.length_drop,Nat.sub_self,List.drop_zero,List.take_take]
         congr 1
         omega
        obtain ⟨q1,q2,q3⟩:=parse_items T hiT (n - (p.length - a)) _ hr
        obtain ⟨s',u1,u2⟩:=sink_tail (s:={ s with bg:=false,pt:=strB p }) q2 q3 rfl 0 ([] ++ dlv (strB p) (strB p))
        have e1:a + n - p.length = n - (p.length - a):=by omega
        refine ⟨s',([] ++ dlv (strB p) (strB p)) ++ came (parses (D.extract (min (p.length - a) D.size) D.size)).1,?_,?_,?_⟩
        · unfold takeM stepM
          rw [if_neg (by omega),if_pos hb,hx,if_pos ⟨t1,t2⟩]
          exact u1
        · unfold SinkP leftN
          rw [if_pos (by omega),e1]
          exact u2
        · unfold wholeN
          rw [if_pos (by omega),e1,List.take_succ_cons,List.filter_cons,t3,← q1]
          unfold dlv
          generalize Pkt.pA (strB p) = x
          generalize came (parses (D.extract (min (p.length - a) D.size) D.size)).1 = y
          by_cases hx:x = 2047
          · simp [hx]
          · simp [hx];rfl
      · rw [if_neg hsh]
        have hD2:D.data.toList = (p.drop a).take n:=by
         rw [hD,cat_cons,List.drop_append_of_le_length (by omega),List.take_append_of_le_length (by rw [List.length_drop];omega)]
        have hmin:min 2047 D.size = n:=by omega
        have hx:(s.pt ++ D.extract 0 (min 2047 D.size)).data.toList = p.take (a + n):=by
         rw [ByteArray.data_append,Array.toList_append,hpt,hmin,Pkt.ext_list,List.drop_zero,Nat.sub_zero,hD2,List.take_take,Nat.min_self,List.take_add]
        unfold takeM stepM
        rw [if_pos rfl,if_pos hb]
        by_cases hfull:p.length = a + n
        · have hx2:s.pt ++ D.extract 0 (min 2047 D.size) = strB p:=Pkt.ba_ext (by rw [hx,← hfull,List.take_length];rfl)
          obtain ⟨t1,t2,t3⟩:=itm_take hp (s:=strB p) (r:=[]) (by rw [List.append_nil];rfl)
          obtain ⟨z1,z2⟩:=whole_zero T hiT
          rw [hx2,if_pos ⟨t1,t2⟩]
          refine ⟨_,_,rfl,?_,?_⟩
          · unfold SinkP leftN
            rw [if_pos (by omega),hfull,Nat.sub_self,z2]
            exact ⟨fun _=>rfl,fun h=>absurd rfl h⟩
          · unfold wholeN
            rw [if_pos (by omega),hfull,Nat.sub_self,z1,List.take_succ_cons,List.filter_cons,t3]
            unfold dlv
            generalize Pkt.pA (strB p) = x
            by_cases hx:x = 2047
            · simp [hx]
            · simp [hx];rfl
        · have h4:=itm_pre hp (k:=a + n) (by omega) hx
          rw [if_neg fun hh=>by rw [hh.1] at h4;exact absurd h4 (by decide),if_neg fun hh=>hh.elim (fun h=>h h4) fun h=>h rfl]
          have w1:wholeN (p :: T) (a + n) = 0:=by unfold wholeN;rw [if_neg (by omega)]
          have l1:leftN (p :: T) (a + n) = p.take (a + n):=by unfold leftN;rw [if_neg (by omega)]
          refine ⟨_,_,rfl,⟨fun e=>?_,fun _=>⟨hb,by rw [l1];exact hx⟩⟩,by rw [w1];rfl⟩
          rw [l1] at e
          have:=congrArg List.length e
          rw [List.length_take] at this
          replace this:min (a + n) p.length = 0:=this
          omega
end Go.Am.Cha

namespace Go.Am.Cha
open Go Go.Am Go.Am.Lib Go.Proofs
open Go.Am.Tmf (FS fs0 idleL cat stOf cutS firstOf firstOf_cons lenS OkF putT putTE getTE datT gWd)
set_option maxRecDepth 100000

/-! ### more items behind -/
theorem whole_more {E:List L8} (hE:∀ p ∈ E,Itm p):∀ (T:List L8) (a:Nat),a ≤ lenS T → wholeN (T ++ E) a = wholeN T a ∧ leftN (T ++ E) a = leftN T a
 | [],a,h=>by
  have h0:a = 0:=Nat.le_zero.1 h
  subst h0
  obtain ⟨z1,z2⟩:=whole_zero E hE
  exact ⟨z1,z2⟩
 | p :: T,a,h=>by
  have hl:lenS (p :: T) = p.length + lenS T:=by unfold lenS;rw [cat_cons,List.length_append]
  rw [List.cons_append]
  unfold wholeN leftN
  by_cases hp:p.length ≤ a
  · obtain ⟨i1,i2⟩:=whole_more hE T (a - p.length) (by omega)
    rw [if_pos hp,if_pos hp,if_pos hp,if_pos hp,i1,i2]
    exact ⟨rfl,rfl⟩
  · rw [if_neg hp,if_neg hp,if_neg hp,if_neg hp]
    exact ⟨rfl,rfl⟩
theorem whole_le:∀ (T:List L8) (a:Nat),wholeN T a ≤ T.length
 | [],_=>Nat.le_refl _
 | p :: T,a=>by
  have:=whole_le T (a - p.length)
  unfold wholeN
  rw [List.length_cons]
  split <;> omega
theorem take_more {E:List L8} (hE:∀ p ∈ E,Itm p) (T:List L8) {a:Nat} (h:a ≤ lenS T):(T ++ E).take (wholeN (T ++ E) a) = T.take (wholeN T a):=by
 rw [(whole_more hE T a h).1,List.take_append_of_le_length (whole_le T a)]
theorem SinkP.more {E:List L8} (hE:∀ p ∈ E,Itm p) {T:List L8} {a:Nat} {s:Sk} (h:SinkP T a s) (ha:a ≤ lenS T):SinkP (T ++ E) a s:=by
 unfold SinkP at h ⊢
 rw [(whole_more hE T a ha).2]
 exact h
/-! ### frames -/
/-- What a frame says. -/
structure FrOf (s:ByteArray) (cr k ma ct fi:Nat) (d:ByteArray):Prop where
 e:getTE s = 0
 c:fC s = cr
 k:fK s = k
 m:fM s = ma
 n:fN s = ct
 f:fF s = fi
 d:datT s = d
theorem put_of {cr k ma ct fi wd:Nat} {d:ByteArray} (h1:cr ≤ 255) (h2:k < 8) (h3:ma < 256) (h4:ct < 256) (h5:32 ≤ d.size) (h6:d.size ≤ 200) (h7:fi < d.size ∨ fi = 2046 ∨ fi = 2047) (_:wd < 2 ^ 32):FrOf (putT ((cr:Nat):Int) ((k:Nat):Int) ((ma:Nat):Int) ((ct:Nat):Int) ((fi:Nat):Int) d ((wd:Nat):Int)) cr k ma ct fi d:=by
 have hv:Tmf.vldT ((cr:Nat):Int) ((k:Nat):Int) ((ma:Nat):Int) ((ct:Nat):Int) ((fi:Nat):Int) d.size = true:=by
  unfold Tmf.vldT
  exact decide_eq_true (by omega)
 have hp:putT ((cr:Nat):Int) ((k:Nat):Int) ((ma:Nat):Int) ((ct:Nat):Int) ((fi:Nat):Int) d ((wd:Nat):Int) = Tmf.encT cr k ma ct fi d wd:=by
  unfold putT
  rw [if_pos hv]
  rfl
 rw [hp]
 have g0:=Tmf.enc_two (cr:=cr) (ch:=k) (ma:=ma) (co:=ct) (fi:=fi) (d:=d) (wd:=wd) (by omega)
 have g1:=Tmf.enc_ma (cr:=cr) (ch:=k) (ma:=ma) (co:=ct) (fi:=fi) (d:=d) (wd:=wd) h3 h4
 refine ⟨Tmf.enc_get hv,?_,?_,g1.1,g1.2,Tmf.enc_fi (by omega),Tmf.enc_dat⟩
 · unfold fC;rw [g0];omega
 · unfold fK;rw [g0];omega
/-- The demux's channel d follows the mux's channel s: want: the packets added; got: those that have arrived. -/
structure Ch (n:Nat) (s:Sr) (d:Sk) (want got:List L8):Prop where
 st:∃ (A:L8) (T:List L8) (fs:List Nat),Str n s.x A T want fs ∧ SinkP T A.length d ∧ got = (T.take (wholeN T A.length)).filter real
 ct:d.kn = true → (d.ct + 1) % 256 = s.ct ∧ fN d.fr = d.ct ∧ d.ct ≤ 255
/-- The demux D follows the mux M. -/
structure Ln (M:MS) (D:Dm) (want got:Nat → List L8):Prop where
 cr:D.craft = M.craft
 sz:D.size = M.size
 ms:D.kn = true → (D.ms + 1) % 256 = M.master ∧ D.ms ≤ 255
 ch:∀ k,k < 8 → Ch M.size (M.f k) (D.sk k) (want k) (got k)
def updL (f:Nat → List L8) (k:Nat) (l:List L8):Nat → List L8:=fun j=>if j = k then l else f j
theorem updL_same (f:Nat → List L8) (k:Nat) (l:List L8):updL f k l k = l:=if_pos rfl
theorem updL_other (f:Nat → List L8) {k j:Nat} (l:List L8) (h:j ≠ k):updL f k l j = f j:=if_neg h
variable {M:MS} {D:Dm} {want got:Nat → List L8}
/-- A packet is added to channel k. -/
theorem Ln.add (h:Ln M D want got) {k:Nat} (hk:k < 8) {n i:Nat} (h0:7 ≤ n) (h1:n ≤ 206) (he:Tmf.addE (M.f k).x (madeN n i) = 0):Ln (addM M k (madeN n i)) D (updL want k (want k ++ [madeL n i])) got:=by
 refine ⟨h.cr,h.sz,h.ms,fun j hj=>?_⟩
 show Ch M.size (upd M.f k _ j) (D.sk j) _ _
 by_cases e:j = k
 · subst e
   rw [upd_same,updL_same,if_pos he]
   obtain ⟨⟨A,T,fs,g1,g2,g3⟩,g4⟩:=h.ch j hj
   have hE:∀ p ∈ [madeL n i],Itm p:=fun p hp=>by rw [List.mem_singleton.1 hp];exact .inl ⟨n,i,h0,h1,rfl⟩
   have hA:A.length ≤ lenS T:=by rw [lenS_eq g1.toStr0];omega
   exact ⟨⟨A,T ++ [madeL n i],fs,g1.add h0 h1,g2.more hE hA,by rw [take_more hE T hA];exact g3⟩,g4⟩
 · rw [upd_other _ _ e,updL_other _ _ e]
   exact h.ch j hj
/-- A demux with another sink. -/
def Dm.now (D:Dm) (ma k:Nat) (s:Sk):Dm:=({ D with kn:=true,ms:=ma }:Dm).put k s
theorem now_sk (D:Dm) (ma k:Nat) (s:Sk) (j:Nat):(D.now ma k s).sk j = if j = k then s else D.sk j:=rfl
/-- What is said of a frame that follows. -/
theorem feed_of {s:ByteArray} {k ma ct fi:Nat} {d:ByteArray} (h:Ln M D want got) (hk:k < 8) (hf:FrOf s M.craft k M.master (M.f k).ct fi d) (hd:d.size = M.size) (_hct:(M.f k).ct < 256) (_hma:M.master < 256) (h1:ma = M.master) (h2:ct = (M.f k).ct) :
 feedE D s = 0 ∧ feedG D s = (D.now ma k (if fi = 2046 then ((⟨true,s,ct,(D.sk k).bg,(D.sk k).pt⟩:Sk),0,([]:List L8)) else takeM ⟨true,s,ct,(D.sk k).bg,(D.sk k).pt⟩ fi d 0 []).1,⟨k,false,0,0,(if fi = 2046 then ((⟨true,s,ct,(D.sk k).bg,(D.sk k).pt⟩:Sk),0,([]:List L8)) else takeM ⟨true,s,ct,(D.sk k).bg,(D.sk k).pt⟩ fi d 0 []).2.2,(if fi = 2046 then ((⟨true,s,ct,(D.sk k).bg,(D.sk k).pt⟩:Sk),0,([]:List L8)) else takeM ⟨true,s,ct,(D.sk k).bg,(D.sk k).pt⟩ fi d 0 []).2.1,gWd s⟩):=by
 subst h1 h2
 have hE:feedE D s = 0:=by
  unfold feedE
  rw [if_neg (by rw [hf.e];decide),if_neg]
  rw [hf.c,hf.d,h.cr,h.sz,hd]
  rintro (e | e)
  · exact e rfl
  · exact e rfl
 have hct4:=(h.ch k hk).ct
 have hdup:¬ dupS D s:=by
  rintro ⟨d1,d2⟩
  rw [hf.k] at d1 d2
  obtain ⟨q1,q2,q3⟩:=hct4 d1
  rw [d2,hf.n] at q2
  omega
 have hlost:lostN D s = 0:=by
  unfold lostN
  rw [hf.k,hf.n]
  split
  · rename_i hkn
    obtain ⟨q1,-,q3⟩:=hct4 hkn
    unfold behindN
    omega
  · rfl
 have hmiss:missN D s = 0:=by
  unfold missN
  rw [hf.m]
  split
  · rename_i hkn
    obtain ⟨q1,q2⟩:=h.ms hkn
    unfold behindN
    omega
  · rfl
 refine ⟨hE,?_⟩
 have hnow:nowS D s = (⟨true,s,(M.f k).ct,(D.sk k).bg,(D.sk k).pt⟩,0):=by
  unfold nowS cutM
  rw [hlost,hf.k,hf.n,if_neg fun hh=>hh.1 rfl]
 have hfield:fieldS D s = if fi = 2046 then ((⟨true,s,(M.f k).ct,(D.sk k).bg,(D.sk k).pt⟩:Sk),0,([]:List L8)) else takeM ⟨true,s,(M.f k).ct,(D.sk k).bg,(D.sk k).pt⟩ fi d 0 []:=by
  unfold fieldS
  rw [hnow,hf.f,hf.d]
 unfold feedG
 rw [if_neg (by rw [hE];decide),if_neg fun hh=>hdup ((dupB_iff D s).1 hh),hfield,hlost,hmiss,hf.k,hf.m]
 rfl
end Go.Am.Cha

namespace Go.Am.Cha
open Go Go.Am Go.Am.Lib Go.Proofs
open Go.Am.Tmf (FS fs0 idleL cat stOf cutS firstOf firstOf_cons lenS OkF putT putTE getTE datT gWd)
set_option maxRecDepth 100000

variable {M:MS} {D:Dm} {want got:Nat → List L8} {N:Nat}
theorem stepM_keep (s:Sk) (f:Nat) (d:ByteArray) (n:Nat) (L:List L8):(stepM s f d n L).1.kn = s.kn ∧ (stepM s f d n L).1.fr = s.fr ∧ (stepM s f d n L).1.ct = s.ct:=by
 unfold stepM
 split
 · split
   · exact ⟨rfl,rfl,rfl⟩
   · split <;> exact ⟨rfl,rfl,rfl⟩
 · exact ⟨rfl,rfl,rfl⟩
theorem tailM_keep (a:Sk × Nat × List L8) (p:List ByteArray × ByteArray):(tailM a p).1.kn = a.1.kn ∧ (tailM a p).1.fr = a.1.fr ∧ (tailM a p).1.ct = a.1.ct:=by
 unfold tailM
 dsimp only
 split <;> exact ⟨rfl,rfl,rfl⟩
theorem takeM_keep (s:Sk) (f:Nat) (d:ByteArray) (n:Nat) (L:List L8):(takeM s f d n L).1.kn = s.kn ∧ (takeM s f d n L).1.fr = s.fr ∧ (takeM s f d n L).1.ct = s.ct:=by
 have h1:=stepM_keep s f d n L
 unfold takeM
 split
 · exact h1
 · have h2:=tailM_keep (stepM s f d n L) (parses (d.extract (min f d.size) d.size))
   exact ⟨h2.1.trans h1.1,h2.2.1.trans h1.2.1,h2.2.2.trans h1.2.2⟩
/-- A channel's stream goes on. -/
theorem ch_next {n:Nat} {x:FS} {d:Sk} {A:L8} {T w g:List L8} {fs:List Nat} (hs:Str n x A T w fs) (hd:SinkP T A.length d) (hg:g = (T.take (wholeN T A.length)).filter real) :
 ∃ (d':Sk) (pk:List L8) (A':L8) (T':List L8) (fs':List Nat),takeM d (x.first idleL) ⟨⟨x.data idleL⟩⟩ 0 [] = (d',0,pk) ∧ Str n (x.next idleL) A' T' w fs' ∧ SinkP T' A'.length d' ∧ g ++ pk = (T'.take (wholeN T' A'.length)).filter real:=by
 obtain ⟨T',h1,⟨E,hE⟩,h2,-⟩:=hs.next
 have hlo:=hs.lo
 have hhi:=hs.hi
 have hEi:∀ p ∈ E,Itm p:=fun p hp=>h1.itm p (by rw [hE];exact List.mem_append_right _ hp)
 have hA:A.length ≤ lenS T:=by rw [lenS_eq hs.toStr0];omega
 have hd':SinkP T' A.length d:=by rw [hE];exact hd.more hEi hA
 have hg':g = (T'.take (wholeN T' A.length)).filter real:=by rw [hE,take_more hEi T hA];exact hg
 have hk:=h1.fk fs.length (by rw [List.length_append];exact Nat.lt_succ_self _)
 rw [List.getElem?_append_right (Nat.le_refl _),Nat.sub_self,hs.fl] at hk
 have hk:x.first idleL = firstOf n (cutS A.length (stOf 0 false T')):=by simpa using hk
 have hD:(⟨⟨x.data idleL⟩⟩:ByteArray).data.toList = ((cat T').drop A.length).take n:=by
  rw [← h1.flat,List.append_assoc,List.drop_left]
  show x.data idleL = _
  rw [List.take_append_of_le_length (by omega),List.take_of_length_le (by omega)]
 obtain ⟨d2,pk,g1,g2,g3⟩:=field_step (n:=n) (by omega) (by omega) T' h1.itm A.length d ⟨⟨x.data idleL⟩⟩ hD h2 hd'
 have hl:(A ++ x.data idleL).length = A.length + n:=by rw [List.length_append,h2]
 exact ⟨d2,pk,A ++ x.data idleL,T',_,by rw [hk];exact g1,h1,by rw [hl];exact g2,by rw [hl,g3,← hg']⟩
theorem field_ct (M:MS) (k:Nat):((fieldM (chooseM M) k).f k).ct = (M.f k).ct:=by
 show (upd (chooseM M).f k _ k).ct = _
 rw [upd_same]
 show (upd (filled M (bests M)).f (chosen M) _ k).ct = _
 have h:=(filled_keep M (bests M) k).2.2
 unfold upd
 split
 · rename_i e;rw [← e];exact h
 · exact h
theorem choose_ct (M:MS) (j:Nat):((chooseM M).f j).ct = (M.f j).ct:=by
 have h:=(filled_keep M (bests M) j).2.2
 show (upd (filled M (bests M)).f (chosen M) _ j).ct = _
 unfold upd
 split
 · rename_i e;rw [← e];exact h
 · exact h
theorem after_x (M:MS) (k j:Nat):((afterK M k).f j).x = (if j = k then (M.f k).x.next idleL else (M.f j).x) ∧ ((afterK M k).f j).ct = (if j = k then ((M.f k).ct + 1) % 256 else (M.f j).ct):=by
 unfold afterK
 show (upd (fieldM (chooseM M) k).f k _ j).x = _ ∧ (upd (fieldM (chooseM M) k).f k _ j).ct = _
 by_cases e:j = k
 · subst e
   rw [upd_same,if_pos rfl,if_pos rfl]
   refine ⟨?_,?_⟩
   · show (upd (chooseM M).f j _ j).x = _
     rw [upd_same]
     show ((chooseM M).f j).x.next idleL = _
     rw [chooseM_x]
   · show (((fieldM (chooseM M) j).f j).ct + 1) % 256 = _
     rw [field_ct]
 · rw [upd_other _ _ e,if_neg e,if_neg e]
   show (upd (chooseM M).f k _ j).x = _ ∧ (upd (chooseM M).f k _ j).ct = _
   rw [upd_other _ _ e]
   exact ⟨chooseM_x M j,choose_ct M j⟩
theorem after_same (M:MS) (k:Nat):(afterK M k).craft = M.craft ∧ (afterK M k).size = M.size ∧ (afterK M k).master = (M.master + 1) % 256:=by
 have h:=chooseM_same M
 refine ⟨h.2.1,h.1,?_⟩
 show ((chooseM M).master + 1) % 256 = _
 rw [h.2.2]
/-- A frame is fed again: it is doubled. -/
theorem feed_twice {D':Dm} {s:ByteArray} {cr k ma ct fi:Nat} {d:ByteArray} (hf:FrOf s cr k ma ct fi d) (h1:D'.craft = cr) (h2:D'.size = d.size) (h3:(D'.sk k).kn = true) (h4:(D'.sk k).fr = s):feedE D' s = 0 ∧ feedG D' s = (D',{ arr0 with ch:=k,wd:=gWd s,db:=true }):=by
 have hE:feedE D' s = 0:=by
  unfold feedE
  rw [if_neg (by rw [hf.e];decide),if_neg]
  rw [hf.c,hf.d,h1,h2]
  rintro (e | e)
  · exact e rfl
  · exact e rfl
 refine ⟨hE,?_⟩
 unfold feedG
 rw [if_neg (by rw [hE];decide),if_pos ((dupB_iff D' s).2 ⟨by rw [hf.k];exact h3,by rw [hf.k];exact h4⟩),hf.k]
/-- What a demux says of the mux's next frame s of channel k, and how both go on. -/
def Says (D:Dm) (want got:Nat → List L8) (s:ByteArray) (k:Nat) (M':MS):Prop :=
 ∃ (D':Dm) (pk:List L8),feedE D s = 0 ∧ feedG D s = (D',⟨k,false,0,0,pk,0,gWd s⟩) ∧ Ln M' D' want (updL got k (got k ++ pk)) ∧ feedE D' s = 0 ∧ feedG D' s = (D',{ arr0 with ch:=k,wd:=gWd s,db:=true })
theorem Ln.next (h:Ln M D want got) (ho:OkM N M) (hw:waitJ M 8 ≠ []) {wd:Nat} (hwd:wd < 2 ^ 32):Says D want got (frameK M (chosen M) wd) (chosen M) (afterK M (chosen M)):=by
 have hk:chosen M < 8:=bests_lt (topS_mem (bests_ne hw))
 generalize chosen M = k at hk ⊢
 have hx:=ho.x k hk
 have hsz:=ho.sz k hk
 have hlo:=ho.lo
 have hhi:=ho.hi
 have hfo:=first_ok (M.f k).x
 rw [hsz] at hfo
 obtain ⟨⟨A,T,fs,g1,g2,g3⟩,g4⟩:=h.ch k hk
 have hdl:((M.f k).x.data idleL).length = M.size:=by rw [← hsz];exact data_len (by omega)
 have hds:(⟨⟨(M.f k).x.data idleL⟩⟩:ByteArray).size = M.size:=hdl
 have hf:FrOf (frameK M k wd) M.craft k M.master (M.f k).ct ((M.f k).x.first idleL) ⟨⟨(M.f k).x.data idleL⟩⟩:=by
  unfold frameK
  rw [field_ct,chooseM_x]
  exact put_of ho.craft hk ho.master (ho.ct k hk) (by rw [hds];exact hlo) (by rw [hds];exact hhi) (by rw [hds];omega) hwd
 generalize frameK M k wd = s at hf ⊢
 obtain ⟨f1,f2⟩:=feed_of h hk hf hds (ho.ct k hk) ho.master rfl rfl
 have hd0:SinkP T A.length ⟨true,s,(M.f k).ct,(D.sk k).bg,(D.sk k).pt⟩:=g2
 obtain ⟨d',pk,A',T',fs',t1,t2,t3,t4⟩:=ch_next g1 hd0 g3
 have hkeep:=takeM_keep ⟨true,s,(M.f k).ct,(D.sk k).bg,(D.sk k).pt⟩ ((M.f k).x.first idleL) ⟨⟨(M.f k).x.data idleL⟩⟩ 0 []
 rw [t1] at hkeep
 rw [if_neg (by omega),t1] at f2
 refine ⟨D.now M.master k d',pk,f1,f2,?_,?_⟩
 · obtain ⟨m1,m2,m3⟩:=after_same M k
   refine ⟨h.cr.trans m1.symm,h.sz.trans m2.symm,fun _=>⟨m3.symm,by have:=ho.master;show M.master ≤ 255;omega⟩,fun j hj=>?_⟩
   rw [m2]
   obtain ⟨a1,a2⟩:=after_x M k j
   rw [now_sk]
   by_cases e:j = k
   · subst e
     rw [if_pos rfl] at a1 a2
     rw [if_pos rfl,updL_same]
     refine ⟨⟨A',T',fs',by rw [a1];exact t2,t3,t4⟩,fun _=>?_⟩
     rw [hkeep.2.2,hkeep.2.1,a2,hf.n]
     exact ⟨rfl,rfl,by have:=ho.ct j hj;show (M.f j).ct ≤ 255;omega⟩
   · rw [if_neg e] at a1 a2
     rw [if_neg e,updL_other _ _ e]
     obtain ⟨⟨A2,T2,fs2,b1,b2,b3⟩,b4⟩:=h.ch j hj
     exact ⟨⟨A2,T2,fs2,by rw [a1];exact b1,b2,b3⟩,by rw [a2];exact b4⟩
 · exact feed_twice hf h.cr (h.sz.trans hds.symm) (by rw [now_sk,if_pos rfl];exact hkeep.1) (by rw [now_sk,if_pos rfl];exact hkeep.2.1)
/-- The idle frame of a mux in which nothing waits. -/
def frameI (M:MS) (wd:Nat):ByteArray:=putT ((M.craft:Nat):Int) 7 ((M.master:Nat):Int) (((M.f 7).ct:Nat):Int) 2046 (uuu M.size) ((wd:Nat):Int)
theorem uuu_size (n:Nat):(uuu n).size = n:=by
 have e:(uuu n).size = (Lib.repeatL [85] n).length:=rfl
 rw [e,Lib.repeatL_length]
 exact Nat.mul_one n
theorem Ln.idle (h:Ln M D want got) (ho:OkM N M) {wd:Nat} (hwd:wd < 2 ^ 32):Says D want got (frameI M wd) 7 (tickM M 7):=by
 have hk:7 < 8:=by decide
 have hlo:=ho.lo
 have hhi:=ho.hi
 have hds:=uuu_size M.size
 have hf:FrOf (frameI M wd) M.craft 7 M.master (M.f 7).ct 2046 (uuu M.size):=put_of (fi:=2046) ho.craft hk ho.master (ho.ct 7 hk) (by rw [hds];exact hlo) (by rw [hds];exact hhi) (.inr (.inl rfl)) hwd
 generalize frameI M wd = s at hf ⊢
 obtain ⟨f1,f2⟩:=feed_of h hk hf hds (ho.ct 7 hk) ho.master rfl rfl
 rw [if_pos rfl] at f2
 refine ⟨D.now M.master 7 ⟨true,s,(M.f 7).ct,(D.sk 7).bg,(D.sk 7).pt⟩,[],f1,f2,?_,?_⟩
 · refine ⟨h.cr,h.sz,fun _=>⟨rfl,by have:=ho.master;show M.master ≤ 255;omega⟩,fun j hj=>?_⟩
   rw [now_sk]
   show Ch M.size (upd M.f 7 { M.f 7 with ct:=((M.f 7).ct + 1) % 256 } j) _ _ _
   by_cases e:j = 7
   · subst e
     rw [if_pos rfl,updL_same,upd_same,List.append_nil]
     obtain ⟨⟨A,T,fs,g1,g2,g3⟩,g4⟩:=h.ch 7 hk
     refine ⟨⟨A,T,fs,g1,g2,g3⟩,fun _=>?_⟩
     show ((M.f 7).ct + 1) % 256 = _ ∧ fN s = _ ∧ _
     rw [hf.n]
     exact ⟨rfl,rfl,by have:=ho.ct 7 hk;show (M.f 7).ct ≤ 255;omega⟩
   · rw [if_neg e,updL_other _ _ e,upd_other _ _ e]
     exact h.ch j hj
 · exact feed_twice hf h.cr (h.sz.trans hds.symm) (by rw [now_sk,if_pos rfl]) (by rw [now_sk,if_pos rfl])
theorem whole_max:∀ (T:List L8) (a:Nat) (p:L8),T[wholeN T a]? = some p → a < lenS (T.take (wholeN T a)) + p.length
 | [],_,_,h=>by simp at h
 | q :: T,a,p,h=>by
  unfold wholeN at h ⊢
  by_cases hq:q.length ≤ a
  · rw [if_pos hq] at h ⊢
    rw [List.getElem?_cons_succ] at h
    have ih:=whole_max T (a - q.length) p h
    rw [List.take_succ_cons]
    unfold lenS at ih ⊢
    rw [cat_cons,List.length_append];omega
  · rw [if_neg hq] at h ⊢
    rw [List.getElem?_cons_zero] at h
    injection h with h
    subst h
    rw [List.take_zero]
    show a < 0 + _
    omega
/-- At the end nothing waits: all packets have arrived. -/
theorem Ch.all {n:Nat} {s:Sr} {d:Sk} {w g:List L8} (h:Ch n s d w g) (hw:s.x.wait = 0):g = w:=by
 obtain ⟨⟨A,T,fs,g1,g2,g3⟩,-⟩:=h
 rw [g3,g1.want]
 cases hp:T[wholeN T A.length]? with
 | none =>
  rw [List.getElem?_eq_none_iff] at hp
  rw [List.take_of_length_le hp]
 | some p =>
  obtain ⟨e1,e2⟩:=parse_part g1 hw hp (whole_max T A.length p hp)
  have e3:=filter_succ hp
  rw [e1,e2] at e3
  rw [e3];simp
end Go.Am.Cha
