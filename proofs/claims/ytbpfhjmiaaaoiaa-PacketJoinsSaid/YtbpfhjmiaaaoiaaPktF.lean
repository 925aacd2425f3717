/-
  Packet: PacketPuts, PacketTakes: what the laws' texts compute, and that they answer true. Own work.
-/
import Derived.Test.YtbpfhjmiaaaoiaaPktE
namespace Go.Am.Pkt
open Go Go.Am Go.Proofs
set_option maxRecDepth 100000

def tLaw : List (Nat × Spec) := [(10, sShown), (11, sPut), (12, sPut), (13, sVal), (14, sVal), (28, sTake), (29, sTake), (30, sGet), (31, sGet)]
theorem tLaw_ok : AllOk Try.prog G0 tLaw := ⟨okShown, okPut, okRPut, okVal, okRVal, okTake, okRTake, okGet, okRGet, trivial⟩
noncomputable def cPuts : FCfg := { mkG Try.prog G0 tLaw 38 [(0, [1]), (1, [1, 8]), (2, [2]), (3, [1, 12]), (4, [2]), (5, [1, 3, 4]), (6, [1, 3, 4, 5, 6]), (7, [2])] [] [] [] [] [] 40 0 with hold := lookL [(7, [0])] }
noncomputable def bPuts (c : Bool) (a f n : Int) (d : ByteArray) (K : Value → AHeap → Prop) : Prop := bodyK cPuts (codeOf Try.f3) Try.f3.results.toList [pkV c a f n d] [] K
noncomputable def cTakes : FCfg := { mkG Try.prog G0 tLaw 63 [(0, [0]), (1, [0, 14]), (2, [2]), (3, [0, 17]), (4, [2]), (5, [0, 3, 4, 5]), (6, [0, 3, 4, 5, 6, 7, 8]), (7, [0, 3, 4, 5, 6, 7, 8, 9, 10]), (8, [3, 4, 5, 6, 7, 8, 9, 10, 11, 12]), (9, [2])] [] [] [] [] [] 40 0 with hold := lookL [] }
noncomputable def bTakes (s : ByteArray) (K : Value → AHeap → Prop) : Prop := bodyK cTakes (codeOf Try.f8) Try.f8.results.toList [.string s] [] K
theorem bPuts_eq (c : Bool) (a f n : Int) (d : ByteArray) (K : Value → AHeap → Prop) : bPuts c a f n d K = (∀ x1 : Int, ((x1 = (((ByteArray.size d) : Nat) : Int)) → (cond (decide ((x1 > (20000 : Int)))) (K (Value.bool Bool.true) []) (∀ x2 : ByteArray, ((x2 = (putS c a f n d)) → (∀ x3 : Int, ((x3 = (putE a f n d)) → (∀ x4 : ByteArray, ((x4 = (putS c a f n d)) → (∀ x5 : Int, ((x5 = (putE a f n d)) → (cond (strEq x2 x4) (cond (decide ((x3 = x5))) (K (Value.bool (decide (((validB a f n d) = (validB a f n d))))) []) (K (Value.bool Bool.false) [])) (K (Value.bool Bool.false) []))))))))))))) := by
  kernel_rfl
theorem bTakes_eq (s : ByteArray) (K : Value → AHeap → Prop) : bTakes s K = (∀ x1 : Int, ((x1 = (((ByteArray.size s) : Nat) : Int)) → (cond (decide ((x1 > (20000 : Int)))) (K (Value.bool Bool.true) []) (∀ x2 : Int, ((x2 = (((pL s) : Nat) : Int)) → (∀ x3 : Int, ((x3 = (takeE s)) → (∀ x4 : Int, ((x4 = (((pL s) : Nat) : Int)) → (∀ x5 : Int, ((x5 = (takeE s)) → (∀ x6 : Int, ((x6 = (getE s)) → (∀ x7 : Int, ((x7 = (getE s)) → (cond ((decide (((pC s) = (pC s)))) && ((decide (((((pA s) : Nat) : Int) = (((pA s) : Nat) : Int)))) && ((decide (((((pF s) : Nat) : Int) = (((pF s) : Nat) : Int)))) && ((decide (((((pN s) : Nat) : Int) = (((pN s) : Nat) : Int)))) && ((strEq (pD s) (pD s)) && Bool.true))))) (cond (decide ((x2 = x4))) (cond (decide ((x3 = x5))) (cond ((decide (((gC s) = (gC s)))) && ((decide (((((gA s) : Nat) : Int) = (((gA s) : Nat) : Int)))) && ((decide (((((gF s) : Nat) : Int) = (((gF s) : Nat) : Int)))) && ((decide (((((gN s) : Nat) : Int) = (((gN s) : Nat) : Int)))) && ((strEq (gD s) (gD s)) && Bool.true))))) (K (Value.bool (decide ((x6 = x7)))) []) (K (Value.bool Bool.false) [])) (K (Value.bool Bool.false) [])) (K (Value.bool Bool.false) [])) (K (Value.bool Bool.false) []))))))))))))))))) := by
  kernel_rfl
def sPuts : Spec := fun args h K => match args, h with
  | [.agg ⟨[.bool _, .int .i64 _, .int .i64 _, .int .i64 _, .string _]⟩], [] => K (.bool true) []
  | _, _ => False
theorem okPuts : SpecOk Try.prog G0 3 sPuts :=
  spec2 mixed tLaw_ok Try.func3 (by kernel_rfl : Try.f3.body = some (codeOf Try.f3)) cPuts rfl rfl rfl (by kernel_rfl) (ids := []) (by kernel_rfl) trivial (by
    intro args h K hk
    unfold sPuts at hk
    split at hk
    · rename_i c a f n d
      show bPuts c a f n d K
      rw [bPuts_eq]
      simp only [forall_eq, strEq_self, cond_true, decide_true]
      by_cases h : ((d.size : Nat) : Int) > 20000
      · rw [dT h]; exact hk
      · rw [dF h]; exact hk
    · exact hk.elim)
def sTakes : Spec := fun args h K => match args, h with
  | [.string _], [] => K (.bool true) []
  | _, _ => False
theorem okTakes : SpecOk Try.prog G0 8 sTakes :=
  spec2 mixed tLaw_ok Try.func8 (by kernel_rfl : Try.f8.body = some (codeOf Try.f8)) cTakes rfl rfl rfl (by kernel_rfl) (ids := []) (by kernel_rfl) trivial (by
    intro args h K hk
    unfold sTakes at hk
    split at hk
    · rename_i s
      show bTakes s K
      rw [bTakes_eq]
      simp only [forall_eq, strEq_self, cond_true, decide_true, Bool.and_true]
      by_cases h : ((s.size : Nat) : Int) > 20000
      · rw [dT h]; exact hk
      · rw [dF h]; exact hk
    · exact hk.elim)
end Go.Am.Pkt
