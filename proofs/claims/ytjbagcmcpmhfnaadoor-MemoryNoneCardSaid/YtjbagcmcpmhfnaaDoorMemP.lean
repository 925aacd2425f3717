/-
  Memory: MemoryNone: what its text computes. Own work.
-/
import Derived.Test.YtjbagcmcpmhfnaaDoorMemF
import Derived.Test.YtjbagcmcpmhfnaaDoorAmY
namespace Go.Am.Mem
open Go Go.Am Go.Am.Ham Go.Proofs
set_option maxRecDepth 100000

/-! ### None -/
def tN0 : List (Nat × Spec) := [(27, sAwake)]
theorem tN0_ok : AllOk Tryd.prog G0 tN0 := ⟨okAwake, trivial⟩
noncomputable def iC : FCfg := { mkG Tryd.prog G0 [] 27 [(0, [0, 1]), (1, [0, 1, 5]), (2, [4]), (3, [15]), (4, [4]), (5, [4])] [] [] [] [] [] 40 2 with shut := fun _ => 0 }
noncomputable def iR : FCfg := { mkG Tryd.prog G0 [] 45 [(0, [0, 1, 2]), (1, [0, 1, 2, 7]), (2, [6]), (3, [17]), (4, [6]), (5, [6])] [] [] [] [] [] 40 2 with shut := fun _ => 0 }
noncomputable def tN1 : List (Nat × Spec) := [(71, inl iC (codeOf Tryd.f71) Tryd.f71.results.toList), (77, inl iR (codeOf Tryd.f77) Tryd.f77.results.toList)]
theorem none_ok : AllOk Tryd.prog G0 [] := trivial
theorem tN1_ok : AllOk Tryd.prog G0 tN1 := ⟨inl_ok mixed none_ok Tryd.func71 rfl iC rfl rfl rfl (by kernel_rfl) (fun _ => rfl), inl_ok mixed none_ok Tryd.func77 rfl iR rfl rfl rfl (by kernel_rfl) (fun _ => rfl), trivial⟩
noncomputable def iWrite0 : FCfg := { mkG Tryd.prog G0 tN1 18 [(0, [0, 1, 2]), (1, [0, 1, 2, 7]), (2, [0, 1, 2, 7, 12]), (3, [7]), (4, [6])] [] [] [] [] [] 40 2 with shut := fun _ => 0 }
noncomputable def iRead0 : FCfg := { mkG Tryd.prog G0 tN1 29 [(0, [0, 1]), (1, [0, 1, 7]), (2, [0, 1, 7, 14]), (3, [4, 5, 6]), (4, [8, 9]), (5, [8, 9, 25]), (6, [4, 5, 6]), (7, [4, 5, 6])] [] [] [] [] [] 40 2 with shut := fun _ => 0 }
noncomputable def iWB0 : FCfg := { mkG Tryd.prog G0 tN1 33 [(0, [0, 1, 2]), (1, [0, 1, 2, 7]), (2, [0, 1, 2, 7, 16]), (3, [6]), (4, [0, 1, 2, 19]), (5, [0, 1, 2]), (6, [0, 1, 2, 8]), (7, [0, 1, 2, 8, 9]), (8, [0, 1, 2, 9]), (9, [0, 1, 2]), (10, [6])] [(4, [0, 1, 2])] [(4, [])] [] [] [] 40 2 with shut := fun _ => 0 }
noncomputable def iRB0 : FCfg := { mkG Tryd.prog G0 tN1 53 [(0, [0, 1, 2]), (1, [0, 1, 2, 8]), (2, [0, 1, 2, 8, 17]), (3, [6, 7]), (4, [0, 1, 2, 9]), (5, [0, 1, 2, 9, 22]), (6, [0, 1, 2, 9]), (7, [0, 1, 2, 9, 10, 11]), (8, [0, 1, 2, 9, 10, 34]), (9, [6, 7]), (10, [0, 1, 2, 9]), (11, [6, 7])] [(5, [0, 1, 2, 9])] [(5, [2, 6, 7, 9])] [] [] [] 40 2 with shut := fun _ => 0 }
noncomputable def iUps0 : FCfg := { mkG Tryd.prog G0 tN1 35 [(0, [0, 1, 2]), (1, [0, 1, 2, 7]), (2, [0, 1, 2, 7, 20]), (3, [0, 1, 2, 7]), (4, [0, 1, 2, 7, 22]), (5, [7]), (6, [6])] [] [] [] [] [] 40 2 with shut := fun _ => 0 }
noncomputable def iScr0 : FCfg := { mkG Tryd.prog G0 tN1 66 [(0, [0, 1]), (1, [0, 1, 7]), (2, [0, 1, 7, 12]), (3, [4, 5, 6]), (4, [0, 1, 19]), (5, [4, 5, 6]), (6, [0, 1, 8]), (7, [0, 8, 24, 25]), (8, [0, 8, 24, 25, 26]), (9, [0, 8, 24, 25]), (10, [0, 8, 24, 25]), (11, [0, 8, 24, 25]), (12, [4, 5, 6])] [(8, [0, 8, 24, 25])] [(8, [0, 8])] [] [] [] 40 2 with shut := fun _ => 0 }
noncomputable def iRaw0 : FCfg := { mkG Tryd.prog G0 tN1 20 [(0, [0, 1]), (1, [0, 1, 6]), (2, [0, 1, 6, 11]), (3, [4, 5]), (4, [4, 5])] [] [] [] [] [] 40 2 with shut := fun _ => 0 }
noncomputable def iFuse0 : FCfg := { mkG Tryd.prog G0 tN1 24 [(0, [0, 1]), (1, [0, 1, 5]), (2, [0, 1, 5, 13]), (3, [0, 1, 5]), (4, [0, 1, 5, 15]), (5, [5]), (6, [4])] [] [] [] [] [] 40 2 with shut := fun _ => 0 }
noncomputable def iBlown0 : FCfg := { mkG Tryd.prog G0 tN1 11 [(0, [0]), (1, [2])] [] [] [] [] [] 40 2 with shut := fun _ => 0 }
noncomputable def iReset0 : FCfg := { mkG Tryd.prog G0 tN1 27 [(0, [0, 4]), (1, [0]), (2, [])] [] [] [] [] [] 40 2 with shut := fun _ => 0 }
noncomputable def iCounts0 : FCfg := { mkG Tryd.prog G0 tN1 10 [(0, [0, 2]), (1, [0, 2, 4]), (2, [2]), (3, [2])] [] [] [] [] [] 40 2 with shut := fun _ => 0 }
noncomputable def iSize0 : FCfg := { mkG Tryd.prog G0 tN1 15 [(0, [0]), (1, [0, 5]), (2, [2, 3]), (3, [2, 3])] [] [] [] [] [] 40 2 with shut := fun _ => 0 }
noncomputable def tN2 : List (Nat × Spec) := (27, sAwake) :: (22, inl iWrite0 (codeOf Tryd.f22) Tryd.f22.results.toList) :: (26, inl iRead0 (codeOf Tryd.f26) Tryd.f26.results.toList) ::
  (33, inl iWB0 (codeOf Tryd.f33) Tryd.f33.results.toList) :: (34, inl iRB0 (codeOf Tryd.f34) Tryd.f34.results.toList) :: (25, inl iUps0 (codeOf Tryd.f25) Tryd.f25.results.toList) ::
  (28, inl iScr0 (codeOf Tryd.f28) Tryd.f28.results.toList) :: (23, inl iRaw0 (codeOf Tryd.f23) Tryd.f23.results.toList) :: (30, inl iFuse0 (codeOf Tryd.f30) Tryd.f30.results.toList) ::
  (31, inl iBlown0 (codeOf Tryd.f31) Tryd.f31.results.toList) :: (32, inl iReset0 (codeOf Tryd.f32) Tryd.f32.results.toList) :: (29, inl iCounts0 (codeOf Tryd.f29) Tryd.f29.results.toList) ::
  (39, inl iSize0 (codeOf Tryd.f39) Tryd.f39.results.toList) :: []
noncomputable def cNone : FCfg := { mkG Tryd.prog G0 tN2 159 [(0, [1]), (1, [1, 3]), (2, [1, 3, 4]), (3, [1, 3, 4, 24]), (4, [1, 3, 4]), (5, [1, 3, 4, 5]), (6, [1, 3, 4, 5, 6, 7, 8]), (7, [1, 3, 4, 5, 6, 7, 8, 9, 10]), (8, [1, 3, 4, 5, 6, 7, 8, 9, 10, 11, 12, 13]), (9, [1, 3, 4, 5, 6, 7, 8, 9, 10, 11, 12, 13, 14, 15]), (10, [1, 3, 4, 5, 6, 7, 8, 9, 10, 11, 12, 13, 14, 15, 16, 17]), (11, [1, 3, 4, 5, 6, 7, 8, 9, 10, 11, 12, 13, 14, 15, 16, 17]), (12, [1, 3, 4, 5, 6, 7, 9, 11, 12, 14, 16, 17, 117]), (13, [2]), (14, [1, 3, 4, 157]), (15, [2]), (16, [2])] [(3, [1, 3, 4])] [(3, [2])] [] [] [26] 40 0 with shut := fun _ => 0 }
noncomputable def bNone (p a n w : Int) (s : ByteArray) (K : Value → AHeap → Prop) : Prop := bodyK cNone (codeOf Tryd.f9) Tryd.f9.results.toList [.agg ⟨[.int .u8 p, .int .i64 a, .int .i64 n, .int .u32 w, .string s]⟩] [] K
theorem bNone_eq (p a n w : Int) (s : ByteArray) (K : Value → AHeap → Prop) : bNone p a n w s K = ((K (.bool true) [] ∧ K (.bool true) []) ∧ K (.bool true) []) := by
  kernel_rfl
theorem one_ok {fid : Nat} {fn : Func} {code : Code} (hf : Tryd.prog.funcs[fid]? = some fn) (hb : fn.body = some code) (f : FCfg) (hP : f.P = Tryd.prog) (hG : f.G = G0) (hC : f.C = tabC tN1) (hN : f.N = fn.ntmps) (hn : ∀ i, f.loops i = none) :
    SpecOk Tryd.prog G0 fid (inl f code fn.results.toList) := inl_ok mixed tN1_ok hf hb f hP hG hC hN hn
theorem tN2_ok : AllOk Tryd.prog G0 tN2 := ⟨okAwake,
  one_ok Tryd.func22 rfl iWrite0 rfl rfl rfl (by kernel_rfl) (fun _ => rfl), one_ok Tryd.func26 rfl iRead0 rfl rfl rfl (by kernel_rfl) (fun _ => rfl),
  one_ok Tryd.func33 rfl iWB0 rfl rfl rfl (by kernel_rfl) (fun _ => rfl), one_ok Tryd.func34 rfl iRB0 rfl rfl rfl (by kernel_rfl) (fun _ => rfl),
  one_ok Tryd.func25 rfl iUps0 rfl rfl rfl (by kernel_rfl) (fun _ => rfl), one_ok Tryd.func28 rfl iScr0 rfl rfl rfl (by kernel_rfl) (fun _ => rfl),
  one_ok Tryd.func23 rfl iRaw0 rfl rfl rfl (by kernel_rfl) (fun _ => rfl), one_ok Tryd.func30 rfl iFuse0 rfl rfl rfl (by kernel_rfl) (fun _ => rfl),
  one_ok Tryd.func31 rfl iBlown0 rfl rfl rfl (by kernel_rfl) (fun _ => rfl), one_ok Tryd.func32 rfl iReset0 rfl rfl rfl (by kernel_rfl) (fun _ => rfl),
  one_ok Tryd.func29 rfl iCounts0 rfl rfl rfl (by kernel_rfl) (fun _ => rfl), one_ok Tryd.func39 rfl iSize0 rfl rfl rfl (by kernel_rfl) (fun _ => rfl), trivial⟩
def sNone : Spec := fun args h K => match args, h with
  | [.agg ⟨[.int .u8 _, .int .i64 _, .int .i64 _, .int .u32 _, .string _]⟩], [] => K (.bool true) []
  | _, _ => False
theorem okNone : SpecOk Tryd.prog G0 9 sNone :=
  spec2 mixed tN2_ok Tryd.func9 (by kernel_rfl : Tryd.f9.body = some (codeOf Tryd.f9)) cNone rfl rfl rfl (by kernel_rfl) rfl (eachNone (fun _ => rfl) _ 0) (by
    intro args h K hk
    unfold sNone at hk
    split at hk
    · rename_i p a n w s
      show bNone p a n w s K
      rw [bNone_eq]
      exact ⟨⟨hk, hk⟩, hk⟩
    · exact hk.elim)
end Go.Am.Mem
