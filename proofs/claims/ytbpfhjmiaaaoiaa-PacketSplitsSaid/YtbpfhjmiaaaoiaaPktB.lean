/-
  Packet: Valid, Clone, the encoding: the summaries. Own work.
-/
import Derived.Test.YtbpfhjmiaaaoiaaPktA
namespace Go.Am.Pkt
open Go Go.Am Go.Proofs
set_option maxRecDepth 100000

theorem strEq_iff {a b : ByteArray} : strEq a b = true ↔ a = b := by
  have key : ∀ (x y : List UInt8), eqLB x y = true ↔ x = y := by
    intro x
    induction x with
    | nil => intro y; cases y <;> simp [eqLB]
    | cons c x ih =>
      intro y
      cases y with
      | nil => simp [eqLB]
      | cons d y =>
        simp only [eqLB, Bool.and_eq_true, ih, List.cons.injEq]
        constructor
        · rintro ⟨h1, h2⟩; exact ⟨UInt8.toNat_inj.1 (Nat.eq_of_beq_eq_true h1), h2⟩
        · rintro ⟨rfl, h2⟩; exact ⟨Nat.beq_refl _, h2⟩
  unfold strEq
  rw [key]
  constructor
  · intro h; cases a; cases b; simpa [Array.ext_iff] using Array.toList_inj.1 h
  · rintro rfl; rfl
theorem strEq_self (a : ByteArray) : strEq a a = true := strEq_iff.2 rfl
theorem strEq_ne {a b : ByteArray} (h : a ≠ b) : strEq a b = false := by
  cases e : strEq a b
  · rfl
  · exact absurd (strEq_iff.1 e) h
theorem size_zero {d : ByteArray} (h : d.size = 0) : d = ⟨⟨[]⟩⟩ := ByteArray.ext (Array.eq_empty_of_size_eq_zero h)

/-! ### Clone -/
def sClone : Spec := fun args h K => match args, h with
  | [.string s], [] => s.size ≤ 2 ^ 47 ∧ K (.string s) []
  | _, _ => False
theorem bytes_self (s : ByteArray) : (s.data.toList.map fun b => (Value.int .u8 ((b.toNat : Nat) : Int))).map (fun v => UInt8.ofNat (intOf v).toNat) = s.data.toList := by
  rw [List.map_map]
  conv => rhs; rw [← List.map_id s.data.toList]
  apply List.map_congr_left
  intro b _
  simp [intOf]
theorem okSlc : SpecOk Try.prog G0 41 sClone :=
  spec2 mixed none_ok Try.func41 (by kernel_rfl : Try.f41.body = some (codeOf Try.f41)) cSlc rfl rfl rfl (by kernel_rfl) (ids := []) (by kernel_rfl) trivial (by
    intro args h K hk
    unfold sClone at hk
    split at hk
    · rename_i s
      obtain ⟨hs, hk⟩ := hk
      show bSlc s K
      rw [bSlc_eq]
      rintro _ rfl
      by_cases h0 : s.size = 0
      · rw [dT (by omega)]
        rw [size_zero h0] at hk
        exact hk
      · rw [dF (by omega)]
        rintro _ rfl
        have hl : (bytesV s).length = s.size := by unfold bytesV; rw [List.length_map]; rfl
        have hmin : (if s.size ≤ ((s.size : Nat) : Int).toNat then s.size else ((s.size : Nat) : Int).toNat) = s.size := by split <;> omega
        rw [hmin, Int.toNat_natCast, Nat.mul_one, List.take_of_length_le (by rw [hl]; omega)]
        have e : setCells (List.replicate s.size (Value.int IntKind.u8 0)) 0 (bytesV s) = bytesV s := by
          rw [setCells_eq _ _ _ (by rw [hl, List.length_replicate]; omega), hl]
          simp
        rw [e, hl, List.length_replicate]
        rw [decide_eq_true (show (0 : Int) ≤ ((s.size : Nat) : Int) by omega), decide_eq_true (show ((s.size : Nat) : Int) ≤ ((s.size : Nat) : Int) by omega), decide_eq_true (show ((s.size : Nat) : Int) ≤ 9223372036854775807 by omega), decide_eq_true (show 1 * ((s.size : Nat) : Int) ≤ 281474976710656 by omega)]
        simp only [Bool.and_self, cond_true]
        rw [dT (by omega)]
        rintro _ rfl
        rw [dT (by omega)]
        rintro _ rfl
        rw [decide_eq_true (show (0 : Int) < ((s.size : Nat) : Int) by omega), decide_eq_true (show ((s.size : Nat) : Int) ≤ 9223372036854775807 by omega), decide_eq_true (show 0 + ((s.size : Nat) : Int).toNat ≤ s.size by omega)]
        simp only [Bool.and_self, cond_true]
        rw [Int.toNat_natCast, List.drop_zero, List.take_of_length_le (by rw [hl]; omega)]
        have hu : u8B (bytesV s) = true := by
          unfold u8B
          rw [List.all_eq_true]
          intro v hv
          obtain ⟨b, _, rfl⟩ := List.mem_map.1 hv
          rfl
        rw [hu, cond_true]
        rintro x rfl
        have : bytesOf (bytesV s) = s := by
          unfold bytesOf
          have := bytes_self s
          apply ByteArray.ext
          rw [← Array.toList_inj]
          exact this
        rw [this]
        exact hk
    · exact hk.elim)
def tSlc : List (Nat × Spec) := [(41, sClone)]
theorem tSlc_ok : AllOk Try.prog G0 tSlc := ⟨okSlc, trivial⟩
noncomputable def cClone : FCfg := mkG Try.prog G0 tSlc 5 [(0, [0]), (1, [2])] [] [] [] [] [] 40 0
noncomputable def bClone (s : ByteArray) (K : Value → AHeap → Prop) : Prop := bodyK cClone (codeOf Try.f36) Try.f36.results.toList [.string s] [] K
def validB (a f n : Int) (d : ByteArray) : Bool := decide (0 ≤ a ∧ a ≤ 2047 ∧ 0 ≤ f ∧ f ≤ 3 ∧ 0 ≤ n ∧ n ≤ 16383 ∧ 1 ≤ d.size ∧ d.size ≤ 1024)
def sVal : Spec := fun args h K => match args, h with
  | [.agg ⟨[.bool _, .int .i64 a, .int .i64 f, .int .i64 n, .string d]⟩], [] => K (.bool (validB a f n d)) []
  | _, _ => False
def by2 (n : Nat) : List UInt8 := [UInt8.ofNat (n / 256), UInt8.ofNat (n % 256)]
def encS (c : Bool) (a f n : Nat) (d : ByteArray) : ByteArray := ⟨(by2 (a + if c then 4096 else 0) ++ (by2 (f * 16384 + n) ++ by2 (d.size - 1))).toArray⟩ ++ d
def sTwo : Spec := fun args h K => match args, h with
  | [.int .i64 n], [] => 0 ≤ n ∧ n < 65536 ∧ K (.string ⟨(by2 n.toNat).toArray⟩) []
  | _, _ => False
def sEnc : Spec := fun args h K => match args, h with
  | [.agg ⟨[.bool c, .int .i64 a, .int .i64 f, .int .i64 n, .string d]⟩], [] => validB a f n d = true ∧ K (.string (encS c a.toNat f.toNat n.toNat d)) []
  | _, _ => False
def tCode : List (Nat × Spec) := [(40, sTwo)]
noncomputable def cCode : FCfg := { mkG Try.prog G0 tCode 29 [(0, [1]), (1, [1, 3]), (2, [1, 3, 7]), (3, [1, 3]), (4, [2])] [] [] [] [] [] 40 0 with hold := lookL [(4, [0])] }
noncomputable def bCode (c : Bool) (a f n : Int) (d : ByteArray) (K : Value → AHeap → Prop) : Prop := bodyK cCode (codeOf Try.f33) Try.f33.results.toList [pkV c a f n d] [] K
def tPut : List (Nat × Spec) := [(13, sVal), (14, sVal), (32, sEnc), (33, sEnc)]
noncomputable def cPut : FCfg := mkG Try.prog G0 tPut 9 [(0, [1]), (1, [1, 6]), (2, [2, 3]), (3, [2, 3])] [] [] [] [] [] 40 0
noncomputable def bPut (c : Bool) (a f n : Int) (d : ByteArray) (K : Value → AHeap → Prop) : Prop := bodyK cPut (codeOf Try.f11) Try.f11.results.toList [pkV c a f n d] [] K
noncomputable def cRPut : FCfg := mkG Try.prog G0 tPut 9 [(0, [1]), (1, [1, 6]), (2, [2, 3]), (3, [2, 3])] [] [] [] [] [] 40 0
noncomputable def bRPut (c : Bool) (a f n : Int) (d : ByteArray) (K : Value → AHeap → Prop) : Prop := bodyK cRPut (codeOf Try.f12) Try.f12.results.toList [pkV c a f n d] [] K
theorem bClone_eq (s : ByteArray) (K : Value → AHeap → Prop) : bClone s K = (((ByteArray.size s) ≤ (140737488355328 : Nat)) ∧ (∀ x1 : ByteArray, ((x1 = s) → (K (Value.string x1) [])))) := by
  kernel_rfl
theorem okClone : SpecOk Try.prog G0 36 sClone :=
  spec2 mixed tSlc_ok Try.func36 (by kernel_rfl : Try.f36.body = some (codeOf Try.f36)) cClone rfl rfl rfl (by kernel_rfl) (ids := []) (by kernel_rfl) trivial (by
    intro args h K hk
    unfold sClone at hk
    split at hk
    · rename_i s
      show bClone s K
      rw [bClone_eq]
      exact ⟨hk.1, fun x h => by rw [h]; exact hk.2⟩
    · exact hk.elim)
theorem validB_iff {a f n : Int} {d : ByteArray} : validB a f n d = true ↔ (0 ≤ a ∧ a ≤ 2047 ∧ 0 ≤ f ∧ f ≤ 3 ∧ 0 ≤ n ∧ n ≤ 16383 ∧ 1 ≤ d.size ∧ d.size ≤ 1024) := by
  unfold validB; rw [decide_eq_true_eq]
theorem okVal : SpecOk Try.prog G0 13 sVal :=
  spec2 mixed none_ok Try.func13 (by kernel_rfl : Try.f13.body = some (codeOf Try.f13)) cVal rfl rfl rfl (by kernel_rfl) (ids := []) (by kernel_rfl) trivial (by
    intro args h K hk
    unfold sVal at hk
    split at hk
    · rename_i c a f n d
      show bVal c a f n d K
      rw [bVal_eq]
      have key : ∀ b, validB a f n d = b → K (.bool b) [] := fun b hb => by rw [← hb]; exact hk
      have no : ¬ (0 ≤ a ∧ a ≤ 2047 ∧ 0 ≤ f ∧ f ≤ 3 ∧ 0 ≤ n ∧ n ≤ 16383 ∧ 1 ≤ d.size ∧ d.size ≤ 1024) → K (.bool false) [] := fun h => key _ (by unfold validB; rw [decide_eq_false h])
      by_cases h1 : a < 0
      · rw [dT h1]; exact no (by omega)
      rw [dF h1]
      by_cases h2 : a > 2047
      · rw [dT h2]; exact no (by omega)
      rw [dF h2]
      by_cases h3 : f < 0
      · rw [dT h3]; exact no (by omega)
      rw [dF h3]
      by_cases h4 : f > 3
      · rw [dT h4]; exact no (by omega)
      rw [dF h4]
      by_cases h5 : n < 0
      · rw [dT h5]; exact no (by omega)
      rw [dF h5]
      by_cases h6 : n > 16383
      · rw [dT h6]; exact no (by omega)
      rw [dF h6]
      by_cases h7 : d.size = 0
      · rw [strEq_iff.2 (size_zero h7)]; exact no (by omega)
      rw [strEq_ne (fun e => h7 (by rw [e]; rfl))]
      rintro _ rfl
      by_cases h8 : ((d.size : Nat) : Int) > 1024
      · rw [dT h8]; exact no (by omega)
      rw [dF h8]
      exact key _ (validB_iff.2 (by omega))
    · exact hk.elim)
theorem okRVal : SpecOk Try.prog G0 14 sVal :=
  spec2 mixed none_ok Try.func14 (by kernel_rfl : Try.f14.body = some (codeOf Try.f14)) cRVal rfl rfl rfl (by kernel_rfl) (ids := []) (by kernel_rfl) trivial (by
    intro args h K hk
    unfold sVal at hk
    split at hk
    · rename_i c a f n d
      show bRVal c a f n d K
      rw [bRVal_eq]
      have key : ∀ b, validB a f n d = b → K (.bool b) [] := fun b hb => by rw [← hb]; exact hk
      have no : ¬ (0 ≤ a ∧ a ≤ 2047 ∧ 0 ≤ f ∧ f ≤ 3 ∧ 0 ≤ n ∧ n ≤ 16383 ∧ 1 ≤ d.size ∧ d.size ≤ 1024) → K (.bool false) [] := fun h => key _ (by unfold validB; rw [decide_eq_false h])
      by_cases h1 : a ≥ 0
      rotate_left
      · rw [dF h1]; exact no (by omega)
      rw [dT h1]
      by_cases h2 : a ≤ 2047
      rotate_left
      · rw [dF h2]; exact no (by omega)
      rw [dT h2]
      by_cases h3 : f ≥ 0
      rotate_left
      · rw [dF h3]; exact no (by omega)
      rw [dT h3]
      by_cases h4 : f ≤ 3
      rotate_left
      · rw [dF h4]; exact no (by omega)
      rw [dT h4]
      by_cases h5 : n ≥ 0
      rotate_left
      · rw [dF h5]; exact no (by omega)
      rw [dT h5]
      by_cases h6 : n ≤ 16383
      rotate_left
      · rw [dF h6]; exact no (by omega)
      rw [dT h6]
      rintro _ rfl
      by_cases h7 : ((d.size : Nat) : Int) ≥ 1
      rotate_left
      · rw [dF h7]; exact no (by omega)
      rw [dT h7]
      rintro _ rfl
      refine key _ ?_
      by_cases h8 : ((d.size : Nat) : Int) ≤ 1024
      · rw [decide_eq_true h8]; exact validB_iff.2 (by omega)
      · rw [decide_eq_false h8]; unfold validB; rw [decide_eq_false (by omega)]
    · exact hk.elim)

/-! ### the encoding -/
theorem cap64 : cap .i64 = 9223372036854775808 := by decide
theorem cap8 : cap .u8 = 256 := by decide
theorem wrap8 (N : Nat) : IntKind.u8.wrap ((N : Nat) : Int) = ((N % 256 : Nat) : Int) := by rw [wrap_u rfl]; simp [IntKind.bits]
theorem hi8 {N : Nat} (h : N < 65536) : IntKind.u8.wrap (Int.fdiv ((N : Nat) : Int) 256) = ((N / 256 : Nat) : Int) := by
  rw [show (256 : Int) = ((256 : Nat) : Int) from rfl, fdiv_cast, wrap8, Nat.mod_eq_of_lt (by omega)]
theorem u8of (x : Nat) : UInt8.ofNat (intOf (Value.int .u8 ((x : Nat) : Int))).toNat = UInt8.ofNat x := rfl
theorem or_add {x y k : Nat} (h : y < 2 ^ k) : (x * 2 ^ k) ||| y = x * 2 ^ k + y := by
  rw [Nat.mul_comm]; exact (Nat.two_pow_add_eq_or_of_lt h x).symm
theorem mk_append (l r : List UInt8) : (ByteArray.mk ⟨l⟩).append (ByteArray.mk ⟨r⟩) = ByteArray.mk ⟨l ++ r⟩ := by
  show (ByteArray.mk ⟨l⟩) ++ (ByteArray.mk ⟨r⟩) = _
  apply ByteArray.ext
  rw [ByteArray.data_append]
  apply Array.toList_inj.1
  simp
theorem size_mk (l : List UInt8) : (ByteArray.mk ⟨l⟩).size = l.length := rfl
theorem okTwo : SpecOk Try.prog G0 40 sTwo :=
  spec2 mixed none_ok Try.func40 (by kernel_rfl : Try.f40.body = some (codeOf Try.f40)) cTwo rfl rfl rfl (by kernel_rfl) (ids := []) (by kernel_rfl) trivial (by
    intro args h K hk
    unfold sTwo at hk
    split at hk
    · rename_i n
      obtain ⟨h0, h1, hk⟩ := hk
      obtain ⟨n, rfl⟩ := nat_of h0
      show bTwo _ K
      rw [bTwo_eq]
      rintro x1 e1 x2 e2 x3 e3 x4 e4 x5 e5
      rw [show (256 : Int) = ((256 : Nat) : Int) from rfl] at e1 e3
      rw [tdiv_cast, wrap_cast .i64 (by rw [cap64]; omega)] at e1
      rw [e1, wrap8, Nat.mod_eq_of_lt (by omega)] at e2
      rw [tmod_cast] at e3
      rw [e3, wrap8, Nat.mod_eq_of_lt (by omega)] at e4
      have : x5 = ⟨(by2 n).toArray⟩ := by rw [e5, e2, e4]; rfl
      rw [this]
      rw [Int.toNat_natCast] at hk
      exact hk
    · exact hk.elim)
theorem tCode_ok : AllOk Try.prog G0 tCode := ⟨okTwo, trivial⟩
theorem okWords : SpecOk Try.prog G0 39 sWords :=
  spec2 mixed none_ok Try.func39 (by kernel_rfl : Try.f39.body = some (codeOf Try.f39)) iWords rfl rfl rfl (by kernel_rfl) rfl (eachNone (fun _ => rfl) _ 0) (by
    intro args h K hk
    unfold sWords at hk
    split at hk
    · rename_i cc a b c mv
      show bWords a b c cc mv K
      rw [bWords_eq]
      exact hk
    · exact hk.elim)
theorem tWords_ok : AllOk Try.prog G0 tWords := ⟨okWords, trivial⟩
/-- What the three words are. -/
theorem first_or {a : Nat} (ha : a ≤ 2047) : iOr .i64 ((a : Nat) : Int) 4096 = ((a + 4096 : Nat) : Int) := by
  rw [show (4096 : Int) = ((4096 : Nat) : Int) from rfl, iOr_cast .i64 (by rw [cap64]; omega) (by rw [cap64]; omega), Nat.or_comm]
  congr 1
  have := or_add (x := 1) (y := a) (k := 12) (by omega)
  simpa [Nat.add_comm] using this
theorem mid_mul {f : Nat} (hf : f ≤ 3) : iMul .i64 ((f : Nat) : Int) 16384 = ((f * 16384 : Nat) : Int) := by
  rw [show (16384 : Int) = ((16384 : Nat) : Int) from rfl, iMul_cast .i64 (by rw [cap64]; omega)]
theorem mid_or {f n : Nat} (hf : f ≤ 3) (hn : n ≤ 16383) : iOr .i64 ((f * 16384 : Nat) : Int) ((n : Nat) : Int) = ((f * 16384 + n : Nat) : Int) := by
  rw [iOr_cast .i64 (by rw [cap64]; omega) (by rw [cap64]; omega)]
  congr 1
  exact or_add (k := 14) (by omega)
theorem sixB {x y z : Nat} (hx : x < 65536) (hy : y < 65536) (hz : z < 65536) : bytesOf (six x y z) = ⟨(by2 x ++ (by2 y ++ by2 z)).toArray⟩ := by
  unfold six
  rw [hi8 hx, hi8 hy, hi8 hz, wrap8, wrap8, wrap8]
  rfl
theorem okEnc : SpecOk Try.prog G0 32 sEnc :=
  spec2 mixed tWords_ok Try.func32 (by kernel_rfl : Try.f32.body = some (codeOf Try.f32)) cEnc rfl rfl rfl (by kernel_rfl) (ids := []) (by kernel_rfl) trivial (by
    intro args h K hk
    unfold sEnc at hk
    split at hk
    · rename_i c a f n d
      obtain ⟨hv, hk⟩ := hk
      obtain ⟨a0, a1, f0, f1, n0, n1, d0, d1⟩ := validB_iff.1 hv
      obtain ⟨a, rfl⟩ := nat_of a0
      obtain ⟨f, rfl⟩ := nat_of f0
      obtain ⟨n, rfl⟩ := nat_of n0
      rw [Int.toNat_natCast, Int.toNat_natCast, Int.toNat_natCast] at hk
      show bEnc c _ _ _ d K
      rw [bEnc_eq]
      have fin : ∀ (A : Nat) (x5 : ByteArray), A < 65536 → A = a + (if c then 4096 else 0) → x5 = bytesOf (six A (f * 16384 + n : Nat) (d.size - 1 : Nat)) →
          cond (decide (((x5.size + d.size : Nat) : Int) ≤ 9223372036854775807)) (∀ x6 : ByteArray, x6 = x5.append d → K (.string x6) []) False := by
        intro A x5 hA hAe h5
        rw [sixB hA (by omega) (by omega)] at h5
        rw [dT (by rw [h5]; show (((6 + d.size : Nat) : Nat) : Int) ≤ _; omega)]
        rintro x6 h6
        have : x6 = encS c a f n d := by rw [h6, h5, hAe]; rfl
        rw [this]; exact hk
      cases c with
      | true =>
        rintro x7 h7 x8 h8 x9 h9 x10 h10 x11 h11 x12 h12
        rw [first_or (by omega)] at h7
        rw [mid_mul (by omega)] at h8
        rw [h8, mid_or (by omega) (by omega)] at h9
        rw [h10, show (1 : Int) = ((1 : Nat) : Int) from rfl, iSub_cast .i64 (by omega) (by rw [cap64]; omega)] at h11
        rw [h7, h9, h11] at h12
        exact fin (a + 4096) x12 (by omega) rfl h12
      | false =>
        rintro x1 h8 x2 h9 x10 h10 x11 h11 x12 h12
        rw [mid_mul (by omega)] at h8
        rw [h8, mid_or (by omega) (by omega)] at h9
        rw [h10, show (1 : Int) = ((1 : Nat) : Int) from rfl, iSub_cast .i64 (by omega) (by rw [cap64]; omega)] at h11
        rw [h9, h11] at h12
        exact fin a x12 (by omega) rfl h12
    · exact hk.elim)
theorem bCode_eq (c : Bool) (a f n : Int) (d : ByteArray) (K : Value → AHeap → Prop) : bCode c a f n d K = (cond c (∀ x26 : Int, ((x26 = (iAdd IntKind.i64 a (4096 : Int))) → (∀ x27 : Int, ((x27 = (iMul IntKind.i64 f (16384 : Int))) → (∀ x28 : Int, ((x28 = (iAdd IntKind.i64 x27 n)) → ((((0 : Int) ≤ x26) ∧ ((x26 < (65536 : Int)) ∧ (∀ x29 : ByteArray, ((x29 = (ByteArray.mk (Array.mk (by2 (Int.toNat x26))))) → ((((0 : Int) ≤ x28) ∧ ((x28 < (65536 : Int)) ∧ (∀ x30 : ByteArray, ((x30 = (ByteArray.mk (Array.mk (by2 (Int.toNat x28))))) → (cond (decide ((((((ByteArray.size x29) + (ByteArray.size x30) : Nat) : Nat) : Int) ≤ (9223372036854775807 : Int)))) (∀ x31 : ByteArray, ((x31 = (ByteArray.append x29 x30)) → (∀ x32 : Int, ((x32 = (((ByteArray.size d) : Nat) : Int)) → (∀ x33 : Int, ((x33 = (iSub IntKind.i64 x32 (1 : Int))) → (((0 : Int) ≤ x33) ∧ ((x33 < (65536 : Int)) ∧ (∀ x34 : ByteArray, ((x34 = (ByteArray.mk (Array.mk (by2 (Int.toNat x33))))) → (cond (decide ((((((ByteArray.size x31) + (ByteArray.size x34) : Nat) : Nat) : Int) ≤ (9223372036854775807 : Int)))) (∀ x35 : ByteArray, ((x35 = (ByteArray.append x31 x34)) → (cond (decide ((((((ByteArray.size x35) + (ByteArray.size d) : Nat) : Nat) : Int) ≤ (9223372036854775807 : Int)))) (∀ x36 : ByteArray, ((x36 = (ByteArray.append x35 d)) → (K (Value.string x36) []))) False))) False))))))))))) False))))) ∧ (∀ x37 : Int, ((x37 = (((ByteArray.size d) : Nat) : Int)) → (∀ x38 : Int, ((x38 = (iSub IntKind.i64 x37 (1 : Int))) → (((0 : Int) ≤ x28) ∧ ((x28 < (65536 : Int)) ∧ (∀ x39 : ByteArray, ((x39 = (ByteArray.mk (Array.mk (by2 (Int.toNat x28))))) → (cond (decide ((((((ByteArray.size x29) + (ByteArray.size x39) : Nat) : Nat) : Int) ≤ (9223372036854775807 : Int)))) (∀ x40 : ByteArray, ((x40 = (ByteArray.append x29 x39)) → (((0 : Int) ≤ x38) ∧ ((x38 < (65536 : Int)) ∧ (∀ x41 : ByteArray, ((x41 = (ByteArray.mk (Array.mk (by2 (Int.toNat x38))))) → (cond (decide ((((((ByteArray.size x40) + (ByteArray.size x41) : Nat) : Nat) : Int) ≤ (9223372036854775807 : Int)))) (∀ x42 : ByteArray, ((x42 = (ByteArray.append x40 x41)) → (cond (decide ((((((ByteArray.size x42) + (ByteArray.size d) : Nat) : Nat) : Int) ≤ (9223372036854775807 : Int)))) (∀ x43 : ByteArray, ((x43 = (ByteArray.append x42 d)) → (K (Value.string x43) []))) False))) False))))))) False)))))))))))))) ∧ (∀ x44 : Int, ((x44 = (((ByteArray.size d) : Nat) : Int)) → (∀ x45 : Int, ((x45 = (iSub IntKind.i64 x44 (1 : Int))) → (((0 : Int) ≤ x26) ∧ ((x26 < (65536 : Int)) ∧ (∀ x46 : ByteArray, ((x46 = (ByteArray.mk (Array.mk (by2 (Int.toNat x26))))) → (((0 : Int) ≤ x28) ∧ ((x28 < (65536 : Int)) ∧ (∀ x47 : ByteArray, ((x47 = (ByteArray.mk (Array.mk (by2 (Int.toNat x28))))) → (cond (decide ((((((ByteArray.size x46) + (ByteArray.size x47) : Nat) : Nat) : Int) ≤ (9223372036854775807 : Int)))) (∀ x48 : ByteArray, ((x48 = (ByteArray.append x46 x47)) → (((0 : Int) ≤ x45) ∧ ((x45 < (65536 : Int)) ∧ (∀ x49 : ByteArray, ((x49 = (ByteArray.mk (Array.mk (by2 (Int.toNat x45))))) → (cond (decide ((((((ByteArray.size x48) + (ByteArray.size x49) : Nat) : Nat) : Int) ≤ (9223372036854775807 : Int)))) (∀ x50 : ByteArray, ((x50 = (ByteArray.append x48 x49)) → (cond (decide ((((((ByteArray.size x50) + (ByteArray.size d) : Nat) : Nat) : Int) ≤ (9223372036854775807 : Int)))) (∀ x51 : ByteArray, ((x51 = (ByteArray.append x50 d)) → (K (Value.string x51) []))) False))) False))))))) False)))))))))))))))))))) (∀ x1 : Int, ((x1 = (iMul IntKind.i64 f (16384 : Int))) → (∀ x2 : Int, ((x2 = (iAdd IntKind.i64 x1 n)) → ((((0 : Int) ≤ a) ∧ ((a < (65536 : Int)) ∧ (∀ x3 : ByteArray, ((x3 = (ByteArray.mk (Array.mk (by2 (Int.toNat a))))) → ((((0 : Int) ≤ x2) ∧ ((x2 < (65536 : Int)) ∧ (∀ x4 : ByteArray, ((x4 = (ByteArray.mk (Array.mk (by2 (Int.toNat x2))))) → (cond (decide ((((((ByteArray.size x3) + (ByteArray.size x4) : Nat) : Nat) : Int) ≤ (9223372036854775807 : Int)))) (∀ x5 : ByteArray, ((x5 = (ByteArray.append x3 x4)) → (∀ x6 : Int, ((x6 = (((ByteArray.size d) : Nat) : Int)) → (∀ x7 : Int, ((x7 = (iSub IntKind.i64 x6 (1 : Int))) → (((0 : Int) ≤ x7) ∧ ((x7 < (65536 : Int)) ∧ (∀ x8 : ByteArray, ((x8 = (ByteArray.mk (Array.mk (by2 (Int.toNat x7))))) → (cond (decide ((((((ByteArray.size x5) + (ByteArray.size x8) : Nat) : Nat) : Int) ≤ (9223372036854775807 : Int)))) (∀ x9 : ByteArray, ((x9 = (ByteArray.append x5 x8)) → (cond (decide ((((((ByteArray.size x9) + (ByteArray.size d) : Nat) : Nat) : Int) ≤ (9223372036854775807 : Int)))) (∀ x10 : ByteArray, ((x10 = (ByteArray.append x9 d)) → (K (Value.string x10) []))) False))) False))))))))))) False))))) ∧ (∀ x11 : Int, ((x11 = (((ByteArray.size d) : Nat) : Int)) → (∀ x12 : Int, ((x12 = (iSub IntKind.i64 x11 (1 : Int))) → (((0 : Int) ≤ x2) ∧ ((x2 < (65536 : Int)) ∧ (∀ x13 : ByteArray, ((x13 = (ByteArray.mk (Array.mk (by2 (Int.toNat x2))))) → (cond (decide ((((((ByteArray.size x3) + (ByteArray.size x13) : Nat) : Nat) : Int) ≤ (9223372036854775807 : Int)))) (∀ x14 : ByteArray, ((x14 = (ByteArray.append x3 x13)) → (((0 : Int) ≤ x12) ∧ ((x12 < (65536 : Int)) ∧ (∀ x15 : ByteArray, ((x15 = (ByteArray.mk (Array.mk (by2 (Int.toNat x12))))) → (cond (decide ((((((ByteArray.size x14) + (ByteArray.size x15) : Nat) : Nat) : Int) ≤ (9223372036854775807 : Int)))) (∀ x16 : ByteArray, ((x16 = (ByteArray.append x14 x15)) → (cond (decide ((((((ByteArray.size x16) + (ByteArray.size d) : Nat) : Nat) : Int) ≤ (9223372036854775807 : Int)))) (∀ x17 : ByteArray, ((x17 = (ByteArray.append x16 d)) → (K (Value.string x17) []))) False))) False))))))) False)))))))))))))) ∧ (∀ x18 : Int, ((x18 = (((ByteArray.size d) : Nat) : Int)) → (∀ x19 : Int, ((x19 = (iSub IntKind.i64 x18 (1 : Int))) → (((0 : Int) ≤ a) ∧ ((a < (65536 : Int)) ∧ (∀ x20 : ByteArray, ((x20 = (ByteArray.mk (Array.mk (by2 (Int.toNat a))))) → (((0 : Int) ≤ x2) ∧ ((x2 < (65536 : Int)) ∧ (∀ x21 : ByteArray, ((x21 = (ByteArray.mk (Array.mk (by2 (Int.toNat x2))))) → (cond (decide ((((((ByteArray.size x20) + (ByteArray.size x21) : Nat) : Nat) : Int) ≤ (9223372036854775807 : Int)))) (∀ x22 : ByteArray, ((x22 = (ByteArray.append x20 x21)) → (((0 : Int) ≤ x19) ∧ ((x19 < (65536 : Int)) ∧ (∀ x23 : ByteArray, ((x23 = (ByteArray.mk (Array.mk (by2 (Int.toNat x19))))) → (cond (decide ((((((ByteArray.size x22) + (ByteArray.size x23) : Nat) : Nat) : Int) ≤ (9223372036854775807 : Int)))) (∀ x24 : ByteArray, ((x24 = (ByteArray.append x22 x23)) → (cond (decide ((((((ByteArray.size x24) + (ByteArray.size d) : Nat) : Nat) : Int) ≤ (9223372036854775807 : Int)))) (∀ x25 : ByteArray, ((x25 = (ByteArray.append x24 d)) → (K (Value.string x25) []))) False))) False))))))) False))))))))))))))))))) := by
  kernel_rfl
theorem okCode : SpecOk Try.prog G0 33 sEnc :=
  spec2 mixed tCode_ok Try.func33 (by kernel_rfl : Try.f33.body = some (codeOf Try.f33)) cCode rfl rfl rfl (by kernel_rfl) (ids := []) (by kernel_rfl) trivial (by
    intro args h K hk
    unfold sEnc at hk
    split at hk
    · rename_i c a f n d
      obtain ⟨hv, hk⟩ := hk
      obtain ⟨a0, a1, f0, f1, n0, n1, d0, d1⟩ := validB_iff.1 hv
      obtain ⟨a, rfl⟩ := nat_of a0
      obtain ⟨f, rfl⟩ := nat_of f0
      obtain ⟨n, rfl⟩ := nat_of n0
      rw [Int.toNat_natCast, Int.toNat_natCast, Int.toNat_natCast] at hk
      show bCode c _ _ _ d K
      rw [bCode_eq]
      have e1 : iAdd .i64 ((a : Nat) : Int) 4096 = ((a + 4096 : Nat) : Int) := by rw [show (4096 : Int) = ((4096 : Nat) : Int) from rfl, iAdd_cast .i64 (by rw [cap64]; omega)]
      have e2 := mid_mul (f := f) (by omega)
      have e3 : iAdd .i64 ((f * 16384 : Nat) : Int) ((n : Nat) : Int) = ((f * 16384 + n : Nat) : Int) := iAdd_cast .i64 (by rw [cap64]; omega)
      have e4 : iSub .i64 ((d.size : Nat) : Int) 1 = ((d.size - 1 : Nat) : Int) := by rw [show (1 : Int) = ((1 : Nat) : Int) from rfl, iSub_cast .i64 (by omega) (by rw [cap64]; omega)]
      have c1 : ∀ (x y : Nat) {A : Prop}, cond (decide (((((ByteArray.mk ⟨by2 x⟩).size + (ByteArray.mk ⟨by2 y⟩).size : Nat) : Nat) : Int) ≤ 9223372036854775807)) A False = A := fun x y A => dT (by show (((2 + 2 : Nat) : Nat) : Int) ≤ _; omega)
      have c3 : ∀ (x y z : Nat) {A : Prop}, cond (decide (((((ByteArray.mk ⟨by2 x ++ by2 y⟩).size + (ByteArray.mk ⟨by2 z⟩).size : Nat) : Nat) : Int) ≤ 9223372036854775807)) A False = A := fun x y z A => dT (by show (((4 + 2 : Nat) : Nat) : Int) ≤ _; omega)
      have c2 : ∀ (x y z : Nat) {A : Prop}, cond (decide (((((ByteArray.mk ⟨by2 x ++ by2 y ++ by2 z⟩).size + d.size : Nat) : Nat) : Int) ≤ 9223372036854775807)) A False = A := fun x y z A => dT (by show (((6 + d.size : Nat) : Nat) : Int) ≤ _; omega)
      have fin : ∀ A : Nat, A = a + (if c then 4096 else 0) → K (.string ((ByteArray.mk ⟨(by2 A ++ by2 (f * 16384 + n)) ++ by2 (d.size - 1)⟩).append d)) [] := by
        intro A hA
        have : (ByteArray.mk ⟨(by2 A ++ by2 (f * 16384 + n)) ++ by2 (d.size - 1)⟩).append d = encS c a f n d := by rw [hA, List.append_assoc]; rfl
        rw [this]; exact hk
      cases c with
      | true =>
        have hf := fin (a + 4096) rfl
        simp only [forall_eq, cond_true, e1, e2, e3, e4, Int.toNat_natCast, mk_append, c1, c2, c3]
        and_intros <;> first | exact hf | omega
      | false =>
        have hf := fin a rfl
        simp only [forall_eq, cond_false, e1, e2, e3, e4, Int.toNat_natCast, mk_append, c1, c2, c3]
        and_intros <;> first | exact hf | omega
    · exact hk.elim)
theorem tPut_ok : AllOk Try.prog G0 tPut := ⟨okVal, okRVal, okEnc, okCode, trivial⟩
theorem bPut_eq (c : Bool) (a f n : Int) (d : ByteArray) (K : Value → AHeap → Prop) : bPut c a f n d K = (cond (!(validB a f n d)) (K (Value.tuple (Array.mk [(Value.string (ByteArray.mk (Array.mk []))), (Value.int IntKind.i64 (2 : Int))])) []) (((validB a f n d) = Bool.true) ∧ (∀ x1 : ByteArray, ((x1 = (encS c (Int.toNat a) (Int.toNat f) (Int.toNat n) d)) → (K (Value.tuple (Array.mk [(Value.string x1), (Value.int IntKind.i64 (0 : Int))])) []))))) := by
  kernel_rfl
theorem bRPut_eq (c : Bool) (a f n : Int) (d : ByteArray) (K : Value → AHeap → Prop) : bRPut c a f n d K = (cond (!(validB a f n d)) (K (Value.tuple (Array.mk [(Value.string (ByteArray.mk (Array.mk []))), (Value.int IntKind.i64 (2 : Int))])) []) (((validB a f n d) = Bool.true) ∧ (∀ x1 : ByteArray, ((x1 = (encS c (Int.toNat a) (Int.toNat f) (Int.toNat n) d)) → (K (Value.tuple (Array.mk [(Value.string x1), (Value.int IntKind.i64 (0 : Int))])) []))))) := by
  kernel_rfl
def putS (c : Bool) (a f n : Int) (d : ByteArray) : ByteArray := if validB a f n d = true then encS c a.toNat f.toNat n.toNat d else ⟨⟨[]⟩⟩
def putE (a f n : Int) (d : ByteArray) : Int := if validB a f n d = true then 0 else 2
def sPut : Spec := fun args h K => match args, h with
  | [.agg ⟨[.bool c, .int .i64 a, .int .i64 f, .int .i64 n, .string d]⟩], [] => K (.tuple ⟨[.string (putS c a f n d), .int .i64 (putE a f n d)]⟩) []
  | _, _ => False
theorem put_key {c : Bool} {a f n : Int} {d : ByteArray} {K : Value → AHeap → Prop} (hk : K (.tuple ⟨[.string (putS c a f n d), .int .i64 (putE a f n d)]⟩) []) :
    (cond (!(validB a f n d)) (K (Value.tuple (Array.mk [(Value.string (ByteArray.mk (Array.mk []))), (Value.int IntKind.i64 (2 : Int))])) []) (((validB a f n d) = Bool.true) ∧ (∀ x1 : ByteArray, ((x1 = (encS c (Int.toNat a) (Int.toNat f) (Int.toNat n) d)) → (K (Value.tuple (Array.mk [(Value.string x1), (Value.int IntKind.i64 (0 : Int))])) []))))) := by
  unfold putS putE at hk
  cases h : validB a f n d with
  | true => rw [if_pos h, if_pos h] at hk; exact ⟨rfl, fun x e => by rw [e]; exact hk⟩
  | false => rw [if_neg (by rw [h]; simp), if_neg (by rw [h]; simp)] at hk; exact hk
theorem okPut : SpecOk Try.prog G0 11 sPut :=
  spec2 mixed tPut_ok Try.func11 (by kernel_rfl : Try.f11.body = some (codeOf Try.f11)) cPut rfl rfl rfl (by kernel_rfl) (ids := []) (by kernel_rfl) trivial (by
    intro args h K hk
    unfold sPut at hk
    split at hk
    · rename_i c a f n d
      show bPut c a f n d K
      rw [bPut_eq]
      exact put_key hk
    · exact hk.elim)
theorem okRPut : SpecOk Try.prog G0 12 sPut :=
  spec2 mixed tPut_ok Try.func12 (by kernel_rfl : Try.f12.body = some (codeOf Try.f12)) cRPut rfl rfl rfl (by kernel_rfl) (ids := []) (by kernel_rfl) trivial (by
    intro args h K hk
    unfold sPut at hk
    split at hk
    · rename_i c a f n d
      show bRPut c a f n d K
      rw [bRPut_eq]
      exact put_key hk
    · exact hk.elim)
end Go.Am.Pkt
