/-
  Memory: MemoryBytes. Own work.
-/
import Derived.Test.YtjbagcmcpmhfnaaDoorMemO
namespace Go.Am.Mem
open Go Go.Am Go.Am.Ham Go.Proofs
set_option maxRecDepth 100000

theorem wb_good (s : ByteArray) {n : Nat} : ∀ (c : Nat) {m : Mem} (a i : Nat), Good m n → a + c ≤ n → Good (wbM c m a s i) n ∧ (∀ j, j < n → (j < a ∨ a + c ≤ j) → wordAt (wbM c m a s i) j = wordAt m j) ∧ ∀ j, j < c → wordAt (wbM c m a s i) (a + j) = encN (wordB s (i + 4 * j))
  | 0, m, a, i, g, _ => ⟨g, fun _ _ _ => rfl, fun j hj => by omega⟩
  | c + 1, m, a, i, g, h => by
    have hf := g.fuse
    have g' : Good (storeM m a (encN (wordB s i))) n := ⟨ok_store g.ok (enc39 _), (store_n _ _ _).trans g.n, by rw [store_fuse g.fuse]; exact g.fuse⟩
    obtain ⟨h1, h2, h3⟩ := wb_good s c (a + 1) (i + 4) g' (by omega)
    refine ⟨h1, fun j hj hh => ?_, fun j hj => ?_⟩
    · rw [wbM, h2 j hj (by omega), store_at g.ok (by rw [g.n]; exact hj) (by omega), if_neg (by omega)]
    · rw [wbM]
      cases j with
      | zero => rw [show a + 0 = a from rfl, h2 a (by omega) (by omega), store_at g.ok (by rw [g.n]; omega) (by omega), if_pos rfl]; rfl
      | succ j =>
        have := h3 j (by omega)
        rw [show a + 1 + j = a + (j + 1) by omega, show i + 4 + 4 * j = i + 4 * (j + 1) by omega] at this
        exact this
section
variable {m : Mem} {s : ByteArray} {a : Nat} (d : Byt m s a)
include d
theorem Byt.dec {j : Nat} (hj : j < lenW s.size) : decN (wordAt m (a + j)) = (wordB s (4 * j), 0, 0) := by
  rw [d.w j hj, dec_enc (wordB_lt _ _)]
theorem Byt.same {j : Nat} (hj : j < lenW s.size) : Mem.readF m (a + j) = m := by
  unfold Mem.readF
  rw [d.dec hj, if_neg (by show ¬ (0 : Nat) = 1; omega)]
  rfl
end
theorem bytes4_eq (s : ByteArray) (i : Nat) : bytes4 (wordB s i) = [Value.int .u8 ((byteAt s i : Nat) : Int), .int .u8 ((byteAt s (i + 1) : Nat) : Int), .int .u8 ((byteAt s (i + 2) : Nat) : Int), .int .u8 ((byteAt s (i + 3) : Nat) : Int)] := by
  have b0 := byteAt_lt s i
  have b1 := byteAt_lt s (i + 1)
  have b2 := byteAt_lt s (i + 2)
  have b3 := byteAt_lt s (i + 3)
  have e : wordB s i = ((byteAt s i * 256 + byteAt s (i + 1)) * 256 + byteAt s (i + 2)) * 256 + byteAt s (i + 3) := by
    unfold wordB
    rw [wordJ, wordJ, wordJ, wordJ, wordJ, Nat.zero_mul, Nat.zero_add, Nat.add_zero]
  unfold bytes4
  rw [e]
  congr 2
  · omega
  congr 2
  · omega
  congr 2
  · omega
  congr 2
  omega
theorem rb_byt {m : Mem} {s : ByteArray} {a : Nat} (d : Byt m s a) : ∀ (c j : Nat), j + c ≤ lenW s.size → rbM c m (a + j) = m ∧ rbLost c m (a + j) = false ∧ ∀ t, t < 4 * c → (rbBytes c m (a + j))[t]? = some (.int .u8 ((byteAt s (4 * j + t) : Nat) : Int))
  | 0, j, _ => ⟨rfl, rfl, fun t ht => by omega⟩
  | c + 1, j, h => by
    have hk : kindAt m (a + j) = 0 := by unfold kindAt; rw [d.dec (by omega)]
    have hs := d.same (j := j) (by omega)
    obtain ⟨h1, h2, h3⟩ := rb_byt d c (j + 1) (by omega)
    refine ⟨?_, ?_, fun t ht => ?_⟩
    · rw [rbM, if_neg (by omega), hs]; exact h1
    · rw [rbLost, if_neg (by omega), hs]; exact h2
    · rw [rbBytes, hs, d.dec (by omega), bytes4_eq]
      by_cases h4 : t < 4
      · rw [List.getElem?_append_left (by exact h4)]
        rcases (by omega : t = 0 ∨ t = 1 ∨ t = 2 ∨ t = 3) with rfl | rfl | rfl | rfl <;> rfl
      · rw [List.getElem?_append_right (by show 4 ≤ t; omega)]
        have := h3 (t - 4) (by omega)
        rw [show 4 * (j + 1) + (t - 4) = 4 * j + t by omega] at this
        exact this
theorem strEq_self (s : ByteArray) : strEq s s = true := by
  unfold strEq
  generalize s.data.toList = l
  induction l with
  | nil => rfl
  | cons x r ih => rw [eqLB, ih, Bool.and_true]; exact Nat.beq_refl _
theorem bytes_ext {s : ByteArray} {l : List Value} {k : Nat} (hk : k ≤ s.size) (hl : l.length = k) (h : ∀ t, t < k → l[t]? = some (.int .u8 ((byteAt s t : Nat) : Int))) : bytesOf l = s.extract 0 k := by
  apply ByteArray.ext
  rw [ByteArray.data_extract]
  apply Array.toList_inj.1
  unfold bytesOf
  apply List.ext_getElem?
  intro t
  rw [List.getElem?_map, Array.getElem?_toList (xs := s.data.extract 0 k), Array.getElem?_extract]
  have hsz : s.data.size = s.size := rfl
  by_cases ht : t < k
  · rw [h t ht, if_pos (by rw [hsz]; omega), Nat.zero_add]
    unfold byteAt
    have : t < s.data.toList.length := by rw [Array.length_toList, hsz]; omega
    rw [List.getD_eq_getElem?_getD, List.getElem?_eq_getElem this, Option.getD_some, Option.map_some, intOf_int, Int.toNat_natCast, UInt8.ofNat_toNat, ← Array.getElem?_toList, List.getElem?_eq_getElem this]
  · rw [List.getElem?_eq_none (by omega), if_neg (by rw [hsz]; omega)]; rfl
theorem byte_of (s : ByteArray) {i : Nat} {x8 x9 x10 x11 x12 x13 x5 : Int} (h5 : x5 = ((wordB s (4 * (i / 4)) : Nat) : Int)) (h8 : x8 = Int.tmod ((i : Nat) : Int) 4) (h9 : x9 = iMul .i64 8 x8) (h10 : x10 = iSub .i64 24 x9) (h11 : x11 = IntKind.wrap .u64 x10)
    (h12 : x12 = Int.fdiv x5 ((2 : Int) ^ (if x11.toNat ≤ 32 then x11.toNat else 32))) (h13 : x13 = IntKind.wrap .u8 x12) : 0 ≤ x11 ∧ x13 = ((byteAt s i : Nat) : Int) := by
  rw [show (4 : Int) = ((4 : Nat) : Int) from rfl, tmod_cast] at h8
  have hm : i % 4 < 4 := Nat.mod_lt _ (by omega)
  rw [h8, iMul_i64 (by omega) (by omega)] at h9
  rw [h9, iSub_i64 (by omega) (by omega)] at h10
  rw [h10, wrap_u64 (by omega) (by omega)] at h11
  have b := bytes4_eq s (4 * (i / 4))
  unfold bytes4 at b
  injection b with q0 b; injection b with q1 b; injection b with q2 b; injection b with q3 b
  injection q0 with _ q0; injection q1 with _ q1; injection q2 with _ q2; injection q3 with _ q3
  have hi : i = 4 * (i / 4) + i % 4 := by omega
  have hw := wordB_lt s (4 * (i / 4))
  rw [wrap_u rfl, show (2 ^ IntKind.u8.bits : Nat) = 256 from rfl] at h13
  have pw : ∀ e : Nat, x11.toNat = e → e ≤ 32 → x12 = ((wordB s (4 * (i / 4)) / 2 ^ e : Nat) : Int) := by
    intro e he hle
    rw [h12, he, if_pos hle, h5, show ((2 : Int) ^ e) = ((2 ^ e : Nat) : Int) by simp, fdiv_cast]
  refine ⟨by omega, ?_⟩
  generalize wordB s (4 * (i / 4)) = W at *
  rcases (by omega : i % 4 = 0 ∨ i % 4 = 1 ∨ i % 4 = 2 ∨ i % 4 = 3) with h | h | h | h
  · rw [h13, pw 24 (by omega) (by omega), show byteAt s i = byteAt s (4 * (i / 4)) by congr 1; omega]; omega
  · rw [h13, pw 16 (by omega) (by omega), show byteAt s i = byteAt s (4 * (i / 4) + 1) by congr 1; omega]; omega
  · rw [h13, pw 8 (by omega) (by omega), show byteAt s i = byteAt s (4 * (i / 4) + 2) by congr 1; omega]; omega
  · rw [h13, pw 0 (by omega) (by omega), show byteAt s i = byteAt s (4 * (i / 4) + 3) by congr 1; omega]; omega
theorem loopBy : ∀ e h k, TBy e h k → ∃ m, loopN cByt (codeOf Tryd.f6) 0 11 m e h k := by
  intro e h k hT
  unfold TBy at hT
  split at hT
  · rename_i s a i
    replace hT := asMem_elim hT
    obtain ⟨m, ty, ty2, mv, mv2, rfl, rfl, a0, d, hk⟩ := hT
    obtain ⟨a, rfl⟩ := nat_of a0
    rw [Int.toNat_natCast] at d
    have hle := d.le
    have hn := d.g.n
    have key : ∀ (c i : Nat), i + c = s.size →
        loopN cByt (codeOf Tryd.f6) 0 11 (c + 1) [(0, .string s), (1, .int .i64 (a : Nat)), (7, .pointer (some ⟨0, 0, some 0⟩)), (11, .int .i64 (i : Nat))] (memH m ty ty2 mv mv2) k := by
      intro c
      induction c with
      | zero =>
        intro i hi
        rw [loopN_succ]
        show tBy m ty ty2 mv mv2 s a i _
        rw [tBy_eq]
        rintro x1 rfl
        rw [dF (by omega)]
        exact hk
      | succ c ih =>
        intro i hi
        have hl : i / 4 < lenW s.size := by unfold lenW; omega
        have hs : s.size ≤ 2800 := by unfold lenW at hle; omega
        rw [loopN_succ]
        show tBy m ty ty2 mv mv2 s a i _
        rw [tBy_eq]
        rintro x1 rfl
        rw [dT (by omega)]
        rintro x2 h2 x3 h3
        rw [show (4 : Int) = ((4 : Nat) : Int) from rfl, tdiv_cast, wrap_i64 (by omega) (by omega)] at h2
        rw [h2, iAdd_i64 (by omega) (by omega)] at h3
        obtain rfl : x3 = ((a + i / 4 : Nat) : Int) := by omega
        have hin : (0 : Int) ≤ ((a + i / 4 : Nat) : Int) ∧ ((a + i / 4 : Nat) : Int) < (700 : Nat) := by omega
        have er : readS m ((a + i / 4 : Nat) : Int) = m := by unfold readS; rw [d.g.inM hin, if_pos rfl, Int.toNat_natCast, d.same hl]
        have eq : readR m ((a + i / 4 : Nat) : Int) = (wordB s (4 * (i / 4)), 0, 0) := by rw [d.g.readR hin, Int.toNat_natCast, d.dec hl, if_neg (by show ¬ (0 : Nat) = 2; omega)]
        rw [er, eq]
        refine ⟨d.g.ok, ?_⟩
        rintro x4 h4 x5 h5 _ rfl _ rfl
        replace h4 := h4.symm
        subst h4
        rw [dnT (by rfl)]
        rintro x8 h8 x9 h9 x10 h10 x11 h11
        obtain ⟨p1, _⟩ := byte_of s h5 h8 h9 h10 h11 rfl rfl
        rw [dT p1]
        rintro x12 h12 x13 h13
        obtain ⟨_, p2⟩ := byte_of s h5 h8 h9 h10 h11 h12 h13
        rw [dT2 (by omega) (by omega)]
        rintro x14 h14
        have e14 : x14 = ((byteAt s i : Nat) : Int) := by rw [h14, Int.toNat_natCast]; rfl
        rw [dnT (by rw [p2, e14])]
        rintro x15 h15
        rw [iAdd_i64 (by omega) (by omega)] at h15
        obtain rfl : x15 = ((i + 1 : Nat) : Int) := by omega
        exact ih (i + 1) (by omega)
    exact ⟨_, key s.size 0 (by omega)⟩
  · exact hT.elim
def sByt : Spec := fun args h K => match args, h with
  | [.string _, .int .i64 _, .int .i64 _], [] => K (.bool true) []
  | _, _ => False
theorem okByt : SpecOk Tryd.prog G0 6 sByt :=
  spec2 mixed tL_ok Tryd.func6 (by kernel_rfl : Tryd.f6.body = some (codeOf Tryd.f6)) cByt rfl rfl rfl (by kernel_rfl) (ids := [11]) (by kernel_rfl) ⟨loopBy, trivial⟩ (by
    intro args h K hk
    unfold sByt at hk
    split at hk
    · rename_i s a n
      show bByt s a n K
      rw [bByt_eq]
      rintro x1 rfl
      by_cases c1 : ((s.size : Nat) : Int) > 2000
      · rw [dT c1]; exact hk
      rw [dF c1]
      by_cases c2 : a < 0
      · rw [dT c2]; exact hk
      rw [dF c2]
      by_cases c3 : a > 100
      · rw [dT c3]; exact hk
      rw [dF c3]
      refine ⟨fun _ => ?_, fun h => by cases h⟩
      rintro x2 h2 _ rfl
      have g2 : Good x2 700 := by rw [h2]; exact good_new (by omega) (by omega) (by omega) (by omega)
      have hn := g2.n
      rw [dnT (by rfl)]
      have hl : lenW s.size ≤ 500 := by unfold lenW; omega
      have hr : roomM x2 a ((s.size : Nat) : Int) = 0 := by unfold roomM; rw [if_pos]; omega
      rw [hr]
      refine ⟨g2.ok, ?_⟩
      rintro x4 h4 x5 h5
      rw [if_pos rfl] at h4
      obtain ⟨g4, _, w4⟩ := wb_good s (lenW s.size) a.toNat 0 g2 (by omega)
      rw [← h4] at g4 w4
      have d : Byt x4 s a.toNat := ⟨g4, by omega, fun j hj => by have := w4 j hj; rw [Nat.zero_add] at this; exact this⟩
      rw [dnT (by rw [h5]; rfl)]
      rintro x6 h6 x7 h7 x8 h8
      have hk0 : 0 ≤ x8 ∧ x8 ≤ ((s.size : Nat) : Int) := by
        rw [h8, h7, h6]
        split <;> split <;> omega
      have hr4 : roomM x4 a x8 = 0 := by unfold roomM; rw [if_pos]; rw [g4.n]; omega
      have hlx : lenW x8.toNat ≤ lenW s.size := by unfold lenW; omega
      obtain ⟨q1, q2, q3⟩ := rb_byt d (lenW x8.toNat) 0 (by omega)
      rw [Nat.add_zero] at q1 q2 q3
      have e1 : rbS x4 a x8 = x4 := by unfold rbS; rw [if_pos hr4]; exact q1
      have e2 : rbRes x4 a x8 = (s.extract 0 x8.toNat, 0) := by
        unfold rbRes
        rw [if_pos hr4, q2, if_neg Bool.false_ne_true, bytes_ext (s := s) (k := x8.toNat) (by omega)]
        · rw [List.length_take, rbBytes_length]; unfold lenW; omega
        · intro t ht
          rw [List.getElem?_take_of_lt ht, q3 t (by unfold lenW; omega), Nat.mul_zero, Nat.zero_add]
      rw [e1, e2]
      refine ⟨g4.ok, ?_⟩
      rintro x9 h9 x10 h10 _ rfl
      rw [dT2 hk0.1 hk0.2]
      rintro x12 h12
      rw [h10, h12, strEq_self, Bool.not_true, cond_false, dnT (by rfl)]
      rw [h9]
      exact ⟨rfl, by omega, d, hk⟩
    · exact hk.elim)
end Go.Am.Mem
