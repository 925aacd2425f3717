/-
  Patches: a patch is loaded: the summary, and what it means where nothing fails. Own work.
-/
import Derived.Test.YtecocfcaeenaoaaDoorPatR
import Derived.Test.YtecocfcaeenaoaaDoorPatS
namespace Go.Am.Pat
open Go Go.Am Go.Am.Ham Go.Am.Mem Go.Proofs
set_option maxRecDepth 100000

def crcI (d : ByteArray) : Int := ((crcN 0 d : Nat) : Int)
def ldG (s : Sto) (m : Mem) (id : Int) (d : ByteArray) : Stg := ⟨id, crcI d, ((d.size : Nat) : Int), otherN s m⟩
def ld2 (s : Sto) (m : Mem) : Mem := writeS (acM s m) (bankAt s (otherN s m)) 0
def ld3 (s : Sto) (m : Mem) (d : ByteArray) : Mem := wbM (lenW d.size) (ld2 s m) (bankAt s (otherN s m) + 5 + 0 / 4).toNat d 0
def ldR (s : Sto) (m : Mem) (d : ByteArray) : ByteArray × Nat := rbRes (ld3 s m d) (bankAt s (otherN s m) + 5) ((d.size : Nat) : Int)
def ld4 (s : Sto) (m : Mem) (d : ByteArray) : Mem := rbS (ld3 s m d) (bankAt s (otherN s m) + 5) ((d.size : Nat) : Int)
def ld5 (s : Sto) (m : Mem) (d : ByteArray) : Mem := acM s (ld4 s m d)
def ld6 (s : Sto) (m : Mem) (id : Int) (d : ByteArray) : Mem := hwM 5 1 (ld5 s m d) (bankAt s (otherN s m)) (hdN (genN s (ld4 s m d) (otherN s m)) (ldG s m id d))
/-- Is the patch loaded? -/
def ldOk (s : Sto) (m : Mem) (d : ByteArray) : Bool := !fullB s m && decide ((ldR s m d).2 = 0) && decide (crcI (ldR s m d).1 = crcI d) && !fullB s (ld4 s m d)
/-- The memory behind a patch that is staged and not loaded. -/
def ldF (s : Sto) (m : Mem) (d : ByteArray) : Mem := if (ldR s m d).2 = 0 ∧ crcI (ldR s m d).1 = crcI d then ld5 s m d else ld4 s m d
def sLoad : Spec := fun args h K => match args with
  | [.pointer (some ⟨0, 0, some 0⟩), .int .u32 id, .string d] => asSto h (fun s m t => OkS s ∧ OkM m ∧ Fits s m ∧ U32 id ∧ ((d.size : Nat) : Int) ≤ s.size ∧
      (ldOk s m d = true → ∀ m', m' = ld6 s m id d → K (.bool true) (stA s m' t)) ∧
      (fullB s m = true → ∀ m', m' = acM s m → K (.bool false) (stA s m' t)) ∧
      (fullB s m = false → ldOk s m d = false → ∀ m', m' = ldF s m d → ∀ g, g = ldG s m id d → K (.bool false) (stB' s m' g (tyB t)))) (fun _ _ _ _ => False)
  | _ => False
theorem wb_ok (d : ByteArray) (k : Nat) {m : Mem} (a i : Nat) (h : OkM m) : OkM (wbM k m a d i) ∧ (wbM k m a d i).n = m.n := ok_wb d k a i h
theorem okLoad : SpecOk Tryd.prog G0 13 sLoad :=
  spec2 mixed tL_ok Tryd.func13 (by kernel_rfl : Tryd.f13.body = some (codeOf Tryd.f13)) cLoad rfl rfl rfl (by kernel_rfl) (ids := []) (by kernel_rfl) trivial (by
    intro args h K hk
    unfold sLoad at hk
    split at hk
    · rename_i id d
      rcases asSto_elim hk with ⟨s, m, t, rfl, o, hm, f, ui, hd, k1, k2, k3⟩ | ⟨s, m, g, t, rfl, hk⟩
      · show bLoad s m t id d K
        rw [bLoad_eq]
        have hz := o.z1
        have hsz : d.size < 4611686018427387904 := by omega
        intro x1 h1
        refine ⟨hsz, fun x2 h2 => ⟨o, hm, f, fun hn => absurd (by omega) hn, fun _ x4 h4 => ⟨fun hf x5 h5 => ?_, fun hf x6 h6 x7 h7 x8 h8 => ?_⟩⟩⟩
        · rw [dF (by omega)]; exact k2 hf x4 h4
        · rw [dT (by omega)]
          have h01 := other_01 s m
          rw [← h6] at h01
          have hac := acM_ok (s := s) hm
          have hw := okW_write hac.1 (bankAt s (otherN s m)) 0
          have e7 : x7 = ld2 s m := by rw [h7, h4, h6]; rfl
          have ok7 : OkM x7 := by rw [e7]; exact hw.1
          have n7 : x7.n = m.n := by rw [e7]; exact hw.2.trans hac.2
          have f7 : Fits s x7 := fits_eq n7 f
          have dat : okDat (Stg.mk id x2 x1 x6) 0 ((d.size : Nat) : Int) = true := by
            unfold okDat
            rw [decide_eq_true (show (0 : Int) ≤ 0 by omega), decide_eq_true (show (0 : Int) % 4 = 0 by omega), decide_eq_true (show ((d.size : Nat) : Int) + 0 ≤ x1 by omega), decide_eq_true (show ((d.size : Nat) : Int) + 0 = x1 by omega), Bool.or_true]; rfl
          refine ⟨o, ok7, f7, by omega, h01.1, h01.2, by omega, by omega, by omega, fun hn => (by rw [dat] at hn; cases hn), fun _ x18 h18 x19 h19 => ?_⟩
          rw [dT h19]
          have e18 : x18 = ld3 s m d := by rw [h18, e7, h6]; rfl
          have w18 := wb_ok d (lenW d.size) (bankAt s (otherN s m) + 5 + 0 / 4).toNat 0 (m := ld2 s m) hw.1
          have ok18 : OkM x18 := by rw [e18]; exact w18.1
          have n18 : x18.n = m.n := by rw [e18]; exact w18.2.trans (hw.2.trans hac.2)
          refine ⟨o, ok18, fits_eq n18 f, ui, by rw [h2]; exact u32_cast (crcN_lt (by decide) _), by omega, by omega, h01.1, h01.2, fun x20 h20 x21 h21 => ?_⟩
          have e20 : x20 = ld4 s m d := by rw [h20, e18, h6, h1]; rfl
          have e21 : x21 = ldR s m d := by rw [h21, e18, h6, h1]; rfl
          have eg : Stg.mk id x2 x1 x6 = ldG s m id d := by rw [h1, h2, h6]; rfl
          have k3' := k3 hf
          have bad : ldOk s m d = false → ∀ m', m' = ldF s m d → ∀ b : Bool, b = false → K (.bool b) (stB' s m' ⟨id, x2, x1, x6⟩ (tyB t)) := by
            intro hb m' hm' b hbb
            rw [hbb]
            exact k3' hb m' hm' _ eg
          have lk : ldOk s m d = (decide (x21.2 = 0) && decide (crcI x21.1 = crcI d) && !fullB s x20) := by unfold ldOk; rw [hf, e20, e21]; rfl
          have lf : ldF s m d = if x21.2 = 0 ∧ crcI x21.1 = crcI d then ld5 s m d else x20 := by unfold ldF; rw [e20, e21]
          refine ⟨fun hr x22 h22 => ?_, fun hr => ⟨fun hc x23 h23 => ?_, fun hc x24 h24 => ⟨fun hf2 x25 h25 => ?_, fun hf2 x26 h26 x27 h27 => ?_⟩⟩⟩
          · have hr' : ¬ x21.2 = 0 := hr
            refine bad ?_ x20 ?_ _ (decide_eq_false (by omega))
            · rw [lk, decide_eq_false hr, Bool.false_and, Bool.false_and]
            · rw [lf, if_neg (fun h => hr h.1)]
          · have hc' : ¬ crcI x21.1 = crcI d := fun h => hc (h.trans h2.symm)
            refine bad ?_ x20 ?_ _ (decide_eq_false (by omega))
            · rw [lk, decide_eq_false hc', Bool.and_false, Bool.false_and]
            · rw [lf, if_neg (fun h => hc' h.2)]
          · have hc' : crcI x21.1 = crcI d := hc.trans h2
            refine bad ?_ x24 ?_ _ (decide_eq_false (by omega))
            · rw [lk, hf2]; simp
            · rw [lf, if_pos ⟨hr, hc'⟩, h24, e20]; rfl
          · have hc' : crcI x21.1 = crcI d := hc.trans h2
            rw [decide_eq_true h27]
            refine k1 ?_ x26 ?_
            · rw [lk, hf2, decide_eq_true hr, decide_eq_true hc']; rfl
            · rw [h26, h24, e20, h6, h1, h2]; rfl
      · exact hk.elim
    · exact hk.elim)
end Go.Am.Pat
