/-
  The abstract machine, part 4: a callee sees a heap of its own: the blocks that its arguments reach, numbered anew. Own work; plain definitions and lemmas.
-/
import Derived.Test.YtjbagcmcpmhfnaaDoorAm3
namespace Go.Am
open Go

universe u
/-- Evaluated ahead of its use. -/
def strictN {α : Type u} (n : Nat) (k : Nat → α) : α := match n with
  | 0 => k 0
  | n + 1 => k (n + 1)
theorem strictN_eq {α : Type u} (n : Nat) (k : Nat → α) : strictN n k = k n := by cases n <;> rfl
def findI0 : List Nat → Nat → Nat
  | [], _ => 0
  | j :: r, i => cond (Nat.beq j i) 0 (findI0 r i + 1)
def findI (l : List Nat) (i : Nat) : Nat := strictN i (findI0 l)
theorem findI_eq (l : List Nat) (i : Nat) : findI l i = findI0 l i := strictN_eq i _
def nodupB : List Nat → Bool
  | [] => true
  | i :: r => !(memB i r) && nodupB r

mutual
def idsV : Value → List Nat
  | .pointer (some a) => match a.spot with
    | none => []
    | some _ => [a.block]
  | .slice (some a) _ _ => match a.spot with
    | none => []
    | some _ => [a.block]
  | .map (some r) => [r]
  | .chan _ => []
  | .func _ f c => idsVA f ++ idsVA c
  | .iface _ v => idsV v
  | .agg cs => idsVA cs
  | .tuple cs => idsVA cs
  | .bool _ => []
  | .int _ _ => []
  | .float _ _ => []
  | .complex _ _ _ => []
  | .string _ => []
  | .pointer none => []
  | .slice none _ _ => []
  | .map none => []
  | .nilFunc => []
  | .nilIface => []
def idsVA : Array Value → List Nat
  | ⟨l⟩ => idsVL l
def idsVL : List Value → List Nat
  | [] => []
  | v :: vs => idsV v ++ idsVL vs
end

def idsO : AObj → List Nat
  | .cells fl vs _ _ => cond fl [] (idsVL vs)
  | .map es => es.flatMap fun e => idsV e.2
  | _ => []
def idsOB (q : Nat → Bool) : AObj → Bool
  | .cells fl vs _ _ => cond fl true (idsBL q vs)
  | .map es => es.all fun e => idsB q e.2
  | _ => true
def rnO (m : Nat → Nat) : AObj → AObj
  | .cells fl vs t mv => cond fl (.cells fl vs t mv) (.cells fl (rnL m vs) t mv)
  | .map es => .map (es.map fun e => (e.1, rn m e.2))
  | o => o
def rstO : AObj → AObj
  | .cells fl vs t _ => .cells fl vs t false
  | o => o
def flagO (b : Bool) (o : AObj) : AObj := match o with
  | .cells fl vs t mv => .cells fl vs t (mv || b)
  | .dead => .dead
  | o => cond b .dead o

def reach : Nat → AHeap → List Nat → List Nat → List Nat
  | 0, _, _, acc => acc
  | _ + 1, _, [], acc => acc
  | f + 1, h, i :: r, acc => cond (memB i acc) (reach f h r acc) (match h[i]? with
    | some o => reach f h (idsO o ++ r) (acc ++ [i])
    | none => reach f h r acc)

def closedB (h : AHeap) (ι : List Nat) : Bool := nodupB ι && ι.all fun i => match h[i]? with | some o => idsOB (fun j => memB j ι) o | none => false
def pullO (rst : Bool) (ι : List Nat) (o : AObj) : AObj := cond rst (rstO (rnO (findI ι) o)) (rnO (findI ι) o)
def pullH (rst : Bool) (h : AHeap) (ι : List Nat) : AHeap := ι.map fun i => pullO rst ι (h.getD i .dead)
def pullP (φ : Phi) (ι : List Nat) : Phi := ι.map fun i => φ.getD i ⟨0, 0, 0⟩

theorem memB_iff {i : Nat} : ∀ {l : List Nat}, memB i l = true ↔ i ∈ l
  | [] => by simp [memB]
  | j :: r => by
    by_cases e : i = j
    · subst e; simp [memB]
    · rw [memB, beq_ne e, cond_false, memB_iff]; simp [e]
theorem memB_false {i : Nat} {l : List Nat} : memB i l = false ↔ i ∉ l := by
  rw [← memB_iff]; cases memB i l <;> simp

theorem findI0_spec {i : Nat} : ∀ {l : List Nat}, i ∈ l → l[findI0 l i]? = some i
  | [], h => by cases h
  | j :: r, h => by
    by_cases e : j = i
    · subst e; simp [findI0]
    · have : i ∈ r := by rcases List.mem_cons.1 h with rfl | h; exact absurd rfl e; exact h
      simp only [findI0, beq_ne e, cond_false, List.getElem?_cons_succ]
      exact findI0_spec this
theorem findI_spec {i : Nat} {l : List Nat} (h : i ∈ l) : l[findI l i]? = some i := by rw [findI_eq]; exact findI0_spec h
theorem findI_lt {i : Nat} {l : List Nat} (h : i ∈ l) : findI l i < l.length := (List.getElem?_eq_some_iff.1 (findI_spec h)).1
theorem findI0_get : ∀ {l : List Nat} {j i : Nat}, nodupB l = true → l[j]? = some i → findI0 l i = j
  | [], _, _, _, h => by simp at h
  | x :: r, 0, i, _, h => by simp at h; subst h; simp [findI0]
  | x :: r, j + 1, i, hn, h => by
    simp only [nodupB, Bool.and_eq_true, Bool.not_eq_true'] at hn
    rw [List.getElem?_cons_succ] at h
    have hmem : i ∈ r := List.mem_of_getElem? h
    have hne : x ≠ i := fun e => by subst e; exact (memB_false.1 hn.1) hmem
    simp only [findI0, beq_ne hne, cond_false]
    rw [findI0_get hn.2 h]
theorem findI_get {l : List Nat} {j i : Nat} (hn : nodupB l = true) (h : l[j]? = some i) : findI l i = j := by rw [findI_eq]; exact findI0_get hn h

theorem closedB_nodup {h : AHeap} {ι : List Nat} (hc : closedB h ι = true) : nodupB ι = true := by
  simp only [closedB, Bool.and_eq_true] at hc; exact hc.1
theorem closedB_some {h : AHeap} {ι : List Nat} (hc : closedB h ι = true) {i : Nat} (hi : i ∈ ι) : ∃ o, h[i]? = some o ∧ idsOB (fun j => memB j ι) o = true := by
  simp only [closedB, Bool.and_eq_true, List.all_eq_true] at hc
  have := hc.2 i hi
  split at this
  · exact ⟨_, ‹_›, this⟩
  · cases this

theorem rnO_liveB (m : Nat → Nat) (o : AObj) : (rnO m o).liveB = o.liveB := by
  cases o with
  | cells fl vs t mv => cases fl <;> rfl
  | _ => rfl
theorem rnO_movedB (m : Nat → Nat) (o : AObj) : (rnO m o).movedB = o.movedB := by
  cases o with
  | cells fl vs t mv => cases fl <;> rfl
  | _ => rfl
theorem rstO_liveB (o : AObj) : (rstO o).liveB = o.liveB := by cases o <;> rfl
theorem pullO_liveB (rst : Bool) (ι : List Nat) (o : AObj) : (pullO rst ι o).liveB = o.liveB := by
  cases rst <;> simp [pullO, rstO_liveB, rnO_liveB]

theorem EntsR_rn {φ ψ : Phi} (m : Nat → Nat) (q : Nat → Bool) (hm : ∀ (i : Nat) (p : PB), q i = true → φ[i]? = some p → ψ[m i]? = some p) :
    ∀ (es : List (Value × Value)) (l : List MapEntry), es.all (fun e => idsB q e.2) = true → EntsR φ es l → EntsR ψ (es.map fun e => (e.1, rn m e.2)) l
  | [], _, _, h => h
  | e :: es, _, hq, h => by
    simp only [List.all_cons, Bool.and_eq_true] at hq
    obtain ⟨x, ms, rfl, h1, h2⟩ := h
    exact ⟨x, ms, rfl, ⟨h1.1, h1.2.1, VR_rn m q hm _ _ hq.1 h1.2.2⟩, EntsR_rn m q hm es ms hq.2 h2⟩

theorem BlkOk.rn {W0 : World} {φ ψ : Phi} {p : PB} {o : AObj} {w : World} (m : Nat → Nat) (q : Nat → Bool) (hm : ∀ (i : Nat) (p : PB), q i = true → φ[i]? = some p → ψ[m i]? = some p)
    (hq : idsOB q o = true) (h : BlkOk W0 φ p o w) : BlkOk W0 ψ p (rnO m o) w := by
  cases o with
  | cells fl vs t mv =>
    obtain ⟨h1, h3, cs, fr, h4, h5, h6, pre, us, rest, h7, h9, h10, h8⟩ := h
    cases fl with
    | true => exact ⟨h1, h3, cs, fr, h4, h5, h6, pre, us, rest, h7, h9, h10, (VRL_flat ψ vs us (h3 rfl)).2 ((VRL_flat φ vs us (h3 rfl)).1 h8)⟩
    | false => exact ⟨h1, (fun e => by cases e), cs, fr, h4, h5, h6, pre, us, rest, h7, h9, h10, VRL_rn m q hm _ _ hq h8⟩
  | ro vs t => exact h
  | map es =>
    obtain ⟨h1, ms, cl, h2, h3⟩ := h
    exact ⟨h1, ms, cl, h2, EntsR_rn m q hm _ _ hq h3⟩
  | siter s pos => exact h
  | dead => trivial
theorem BlkOk.rst {W0 : World} {φ : Phi} {p : PB} {o : AObj} {w : World} (h : BlkOk W0 φ p o w) : BlkOk W0 φ p (rstO o) w := by
  cases o <;> exact h
theorem BlkOk.flag {W0 : World} {φ : Phi} {p : PB} {o : AObj} {w : World} (b : Bool) (h : BlkOk W0 φ p o w) : BlkOk W0 φ p (flagO b o) w := by
  cases o <;> cases b <;> first | exact h | trivial

theorem pullP_get {φ : Phi} {ι : List Nat} {i : Nat} {p : PB} (hi : i ∈ ι) (hp : φ[i]? = some p) : (pullP φ ι)[findI ι i]? = some p := by
  simp only [pullP, List.getElem?_map, findI_spec hi, Option.map_some, List.getD_eq_getElem?_getD, hp, Option.getD_some]
theorem pullP_at {W0 : World} {φ : Phi} {h : AHeap} {w : World} (S : Sim W0 φ h w) {ι : List Nat} (hc : closedB h ι = true) {t : Nat} {p : PB} (ht : (pullP φ ι)[t]? = some p) :
    ∃ i, ι[t]? = some i ∧ φ[i]? = some p := by
  simp only [pullP, List.getElem?_map] at ht
  cases hi : ι[t]? with
  | none => rw [hi] at ht; cases ht
  | some i =>
    obtain ⟨o, ho, _⟩ := closedB_some hc (List.mem_of_getElem? hi)
    obtain ⟨q, hq⟩ := S.some_of ho
    rw [hi] at ht
    simp only [Option.map_some, List.getD_eq_getElem?_getD, hq, Option.getD_some] at ht
    cases ht
    exact ⟨i, rfl, hq⟩
theorem pullH_at {h : AHeap} {ι : List Nat} {rst : Bool} (hc : closedB h ι = true) {t : Nat} {o : AObj} (ht : (pullH rst h ι)[t]? = some o) :
    ∃ i oi, ι[t]? = some i ∧ h[i]? = some oi ∧ o = pullO rst ι oi ∧ idsOB (fun j => memB j ι) oi = true := by
  simp only [pullH, List.getElem?_map] at ht
  cases hi : ι[t]? with
  | none => rw [hi] at ht; cases ht
  | some i =>
    obtain ⟨oi, ho, hq⟩ := closedB_some hc (List.mem_of_getElem? hi)
    rw [hi] at ht
    simp only [Option.map_some, List.getD_eq_getElem?_getD, ho, Option.getD_some] at ht
    cases ht
    exact ⟨i, oi, rfl, ho, rfl, hq⟩
theorem pullH_live {h : AHeap} {ι : List Nat} {rst : Bool} (hc : closedB h ι = true) {t : Nat} (ht : liveB (pullH rst h ι) t = true) :
    ∃ i, ι[t]? = some i ∧ liveB h i = true := by
  obtain ⟨o, h1, h2⟩ := liveB_some ht
  obtain ⟨i, oi, h3, h4, rfl, _⟩ := pullH_at hc h1
  rw [pullO_liveB] at h2
  exact ⟨i, h3, by simp [liveB, h4, h2]⟩

theorem VR_pull {φ : Phi} {ι : List Nat} {v v' : Value} (hq : idsB (fun j => memB j ι) v = true) (h : VR φ v v') : VR (pullP φ ι) (rn (findI ι) v) v' :=
  VR_rn (findI ι) (fun j => memB j ι) (fun _ _ hi hp => pullP_get (memB_iff.1 hi) hp) v v' hq h
theorem VRL_pull {φ : Phi} {ι : List Nat} {v v' : List Value} (hq : idsBL (fun j => memB j ι) v = true) (h : VRL φ v v') : VRL (pullP φ ι) (rnL (findI ι) v) v' :=
  VRL_rn (findI ι) (fun j => memB j ι) (fun _ _ hi hp => pullP_get (memB_iff.1 hi) hp) v v' hq h

/-- A part of the heap, numbered anew, stands for the same world. -/
theorem Sim.pull {W0 : World} {φ : Phi} {h : AHeap} {w : World} (S : Sim W0 φ h w) (rst : Bool) {ι : List Nat} (hc : closedB h ι = true) :
    Sim W0 (pullP φ ι) (pullH rst h ι) w := by
  refine ⟨S.os, S.tape, S.out, S.size, S.old, by simp [pullP, pullH], fun t o p h1 h2 => ?_, fun t s p q h1 h2 h3 h4 h5 => ?_⟩
  · obtain ⟨i, oi, h3, h4, rfl, h5⟩ := pullH_at hc h1
    obtain ⟨j, h6, h7⟩ := pullP_at S hc h2
    rw [h3] at h6; cases h6
    have hb := (S.blk i oi p h4 h7).rn (findI ι) (fun j => memB j ι) (fun _ _ hi hp => pullP_get (memB_iff.1 hi) hp) h5
    cases rst
    · exact hb
    · exact hb.rst
  · obtain ⟨i, a1, a2⟩ := pullH_live hc h1
    obtain ⟨j, b1, b2⟩ := pullH_live hc h2
    obtain ⟨i', a3, a4⟩ := pullP_at S hc h3
    obtain ⟨j', b3, b4⟩ := pullP_at S hc h4
    rw [a1] at a3; cases a3
    rw [b1] at b3; cases b3
    have e := S.inj i j p q a2 b2 a4 b4 h5
    subst e
    rw [← findI_get (closedB_nodup hc) a1, ← findI_get (closedB_nodup hc) b1]

/-! ### back from the callee -/
def mapI {α β : Type} (f : Nat → α → β) : Nat → List α → List β
  | _, [] => []
  | s, x :: r => f s x :: mapI f (s + 1) r
theorem mapI_get {α β : Type} (f : Nat → α → β) : ∀ (l : List α) (s i : Nat), (mapI f s l)[i]? = (l[i]?).map (f (s + i))
  | [], _, _ => by simp [mapI]
  | x :: r, s, 0 => by simp [mapI]
  | x :: r, s, i + 1 => by
    rw [mapI, List.getElem?_cons_succ, mapI_get f r (s + 1) i, List.getElem?_cons_succ]
    rw [show s + 1 + i = s + (i + 1) from by omega]
theorem mapI_length {α β : Type} (f : Nat → α → β) : ∀ (l : List α) (s : Nat), (mapI f s l).length = l.length
  | [], _ => rfl
  | x :: r, s => by simp [mapI, mapI_length f r]

def pushI (ι : List Nat) (L j : Nat) : Nat := strictN j fun j => cond (Nat.blt j ι.length) (ι.getD j 0) (L + (j - ι.length))
def movedIds : List Nat → AHeap → List Nat
  | i :: r, o :: hs => cond o.movedB (i :: movedIds r hs) (movedIds r hs)
  | _, _ => []
def pzOs (l : List Nat) (o : AObj) : AObj := match l with | [] => o | i :: r => pzO (fun j => memB j (i :: r)) o
def pzVs (l : List Nat) (v : Value) : Value := match l with | [] => v | i :: r => pz (fun j => memB j (i :: r)) v
def mergeO (ι : List Nat) (L : Nat) (h1 : AHeap) (i : Nat) (o : AObj) : AObj :=
  cond (memB i ι) (flagO o.movedB (rnO (pushI ι L) (h1.getD (findI ι i) .dead))) (pzOs (movedIds ι h1) o)
def mergeH (ι : List Nat) (h h1 : AHeap) : AHeap :=
  mapI (mergeO ι h.length h1) 0 h ++ (h1.drop ι.length).map (rnO (pushI ι h.length))
def mergeP (ι : List Nat) (φ φ1 : Phi) : Phi :=
  mapI (fun i p => cond (memB i ι) (φ1.getD (findI ι i) ⟨0, 0, 0⟩) p) 0 φ ++ φ1.drop ι.length

theorem movedIds_mem : ∀ {ι : List Nat} {h1 : AHeap} {t i : Nat}, ι[t]? = some i → movedB h1 t = true → t < h1.length → i ∈ movedIds ι h1
  | [], _, _, _, h, _, _ => by simp at h
  | x :: r, [], t, i, _, _, h => by simp at h
  | x :: r, o :: hs, 0, i, h, hm, _ => by
    simp at h; subst h
    simp [movedB] at hm
    simp [movedIds, hm]
  | x :: r, o :: hs, t + 1, i, h, hm, hl => by
    have ih : i ∈ movedIds r hs := movedIds_mem (by simpa using h) (by simpa [movedB] using hm) (by simpa using hl)
    cases ho : o.movedB <;> simp [movedIds, ho, ih]

theorem flagO_liveB {b : Bool} {o : AObj} (h : (flagO b o).liveB = true) : o.liveB = true := by
  cases o <;> cases b <;> first | rfl | exact h
theorem flagO_moved {b : Bool} {o : AObj} (h : b = true ∨ o.movedB = true) : (flagO b o).movedB = true := by
  cases o with
  | cells fl vs t mv =>
    simp only [flagO, AObj.movedB, Bool.or_eq_true] at h ⊢
    exact h.symm
  | _ =>
    rcases h with rfl | h
    · rfl
    · cases b <;> first | rfl | exact h

mutual
theorem idsB_true : ∀ v : Value, idsB (fun _ => true) v = true
  | .pointer (some ⟨_, _, none⟩) => rfl
  | .pointer (some ⟨_, _, some _⟩) => rfl
  | .slice (some ⟨_, _, none⟩) _ _ => rfl
  | .slice (some ⟨_, _, some _⟩) _ _ => rfl
  | .map (some _) => rfl
  | .chan (some _) => rfl
  | .func _ ⟨f⟩ ⟨c⟩ => by simp only [idsB, idsBA, idsBL_true f, idsBL_true c, Bool.and_self]
  | .iface _ v => by simp only [idsB, idsB_true v]
  | .agg ⟨cs⟩ => by simp only [idsB, idsBA, idsBL_true cs]
  | .tuple ⟨cs⟩ => by simp only [idsB, idsBA, idsBL_true cs]
  | .bool _ => rfl
  | .int _ _ => rfl
  | .float _ _ => rfl
  | .complex _ _ _ => rfl
  | .string _ => rfl
  | .pointer none => rfl
  | .slice none _ _ => rfl
  | .map none => rfl
  | .chan none => rfl
  | .nilFunc => rfl
  | .nilIface => rfl
theorem idsBL_true : ∀ l : List Value, idsBL (fun _ => true) l = true
  | [] => rfl
  | v :: vs => by simp only [idsBL, idsB_true v, idsBL_true vs, Bool.and_self]
end
theorem idsOB_true (o : AObj) : idsOB (fun _ => true) o = true := by
  cases o with
  | cells fl vs t mv => cases fl <;> simp [idsOB, idsBL_true]
  | map es => simp [idsOB, idsB_true]
  | _ => rfl

theorem pushI_old {ι : List Nat} {L j i : Nat} (h : ι[j]? = some i) : pushI ι L j = i := by
  have hlt : j < ι.length := (List.getElem?_eq_some_iff.1 h).1
  have : Nat.blt j ι.length = true := by simpa [Nat.blt_eq] using hlt
  simp [pushI, strictN_eq, this, List.getD_eq_getElem?_getD, h]
theorem pushI_new {ι : List Nat} {L j : Nat} (h : ι.length ≤ j) : pushI ι L j = L + (j - ι.length) := by
  have : Nat.blt j ι.length = false := by
    cases e : Nat.blt j ι.length
    · rfl
    · exact absurd (by simpa [Nat.blt_eq] using e : j < ι.length) (by omega)
  simp [pushI, strictN_eq, this]

theorem VR_pzVs {φ ψ : Phi} (l : List Nat) (hm : ∀ (j : Nat) (p : PB), memB j l = false → φ[j]? = some p → ψ[j]? = some p) (v v' : Value) (h : VR φ v v') : VR ψ (pzVs l v) v' := by
  cases l with
  | nil => exact VR_mono (fun j p hp => hm j p rfl hp) v v' h
  | cons i r => exact VR_pz (fun j => memB j (i :: r)) hm v v' h
theorem BlkOk.pzs {W0 : World} {φ ψ : Phi} {p : PB} {o : AObj} {w : World} (l : List Nat) (hm : ∀ (j : Nat) (p : PB), memB j l = false → φ[j]? = some p → ψ[j]? = some p)
    (h : BlkOk W0 φ p o w) : BlkOk W0 ψ p (pzOs l o) w := by
  cases l with
  | nil => exact h.mono (fun j p hp => hm j p rfl hp)
  | cons i r => exact h.pz (fun j => memB j (i :: r)) hm
theorem pzOs_liveB (l : List Nat) (o : AObj) : (pzOs l o).liveB = o.liveB := by
  cases l with
  | nil => rfl
  | cons i r => exact pzO_liveB _ o
theorem pzOs_movedB (l : List Nat) (o : AObj) : (pzOs l o).movedB = o.movedB := by
  cases l with
  | nil => rfl
  | cons i r => exact pzO_movedB _ o

/-- What was behind the callee's numbers stands behind the caller's. -/
theorem merge {W0 : World} {φ φ1 : Phi} {h h1 : AHeap} {w w1 : World} (S : Sim W0 φ h w) {ι : List Nat} (hc : closedB h ι = true)
    (S1 : Sim W0 φ1 h1 w1) (E1 : Ext (pullP φ ι) (pullH true h ι) w φ1 h1 w1) :
    Sim W0 (mergeP ι φ φ1) (mergeH ι h h1) w1 ∧ Ext φ h w (mergeP ι φ φ1) (mergeH ι h h1) w1 ∧
    (∀ v v', VR φ1 v v' → VR (mergeP ι φ φ1) (rn (pushI ι h.length) v) v') ∧
    (∀ v v', VR φ v v' → VR (mergeP ι φ φ1) (pzVs (movedIds ι h1) v) v') := by
  have hk : (pullH true h ι).length = ι.length := by simp [pullH]
  have hkp : (pullP φ ι).length = ι.length := by simp [pullP]
  have hk1 : ι.length ≤ h1.length := by have := E1.len; omega
  have hl1 := S1.len
  have hlen : (mapI (fun i p => cond (memB i ι) (φ1.getD (findI ι i) ⟨0, 0, 0⟩) p) 0 φ).length = h.length := by rw [mapI_length, S.len]
  have hlenH : (mapI (mergeO ι h.length h1) 0 h).length = h.length := mapI_length _ _ _
  -- the caller's blocks
  have P_in : ∀ {i : Nat} {p : PB}, i < h.length → i ∈ ι → (mergeP ι φ φ1)[i]? = some p → φ1[findI ι i]? = some p := by
    intro i p hi hm hp
    rw [mergeP, List.getElem?_append_left (by rw [hlen]; exact hi), mapI_get, Nat.zero_add] at hp
    obtain ⟨q, hq⟩ : ∃ q, φ[i]? = some q := ⟨φ[i]'(by rw [S.len]; exact hi), List.getElem?_eq_getElem _⟩
    have hlt : findI ι i < φ1.length := by have := findI_lt hm; omega
    rw [hq] at hp
    simp only [Option.map_some, memB_iff.2 hm, cond_true, List.getD_eq_getElem?_getD, List.getElem?_eq_getElem hlt, Option.getD_some] at hp
    rw [List.getElem?_eq_getElem hlt]; exact hp
  have P_in' : ∀ {i : Nat} {p : PB}, i < h.length → i ∈ ι → φ1[findI ι i]? = some p → (mergeP ι φ φ1)[i]? = some p := by
    intro i p hi hm hp
    obtain ⟨q, hq⟩ : ∃ q, (mergeP ι φ φ1)[i]? = some q := ⟨_, List.getElem?_eq_getElem (by rw [mergeP, List.length_append, hlen]; omega)⟩
    rw [P_in hi hm hq] at hp; cases hp; exact hq
  have P_out : ∀ {i : Nat}, i < h.length → i ∉ ι → (mergeP ι φ φ1)[i]? = φ[i]? := by
    intro i hi hm
    rw [mergeP, List.getElem?_append_left (by rw [hlen]; exact hi), mapI_get, Nat.zero_add]
    have : (fun p : PB => cond (memB i ι) (φ1.getD (findI ι i) ⟨0, 0, 0⟩) p) = fun p => p := by
      funext p; rw [memB_false.2 hm]; rfl
    rw [this, Option.map_id']
  have P_new : ∀ {j : Nat}, ι.length ≤ j → (mergeP ι φ φ1)[h.length + (j - ι.length)]? = φ1[j]? := by
    intro j hj
    rw [mergeP, List.getElem?_append_right (by rw [hlen]; omega), hlen, List.getElem?_drop]
    congr 1; omega
  have P_ge : ∀ {i : Nat}, h.length ≤ i → (mergeP ι φ φ1)[i]? = φ1[ι.length + (i - h.length)]? := by
    intro i hi
    rw [mergeP, List.getElem?_append_right (by rw [hlen]; exact hi), hlen, List.getElem?_drop]
  have H_in : ∀ {i : Nat} {o : AObj}, i ∈ ι → h[i]? = some o → (mergeH ι h h1)[i]? = some (flagO o.movedB (rnO (pushI ι h.length) (h1.getD (findI ι i) .dead))) := by
    intro i o hm ho
    have hi : i < h.length := (List.getElem?_eq_some_iff.1 ho).1
    rw [mergeH, List.getElem?_append_left (by rw [hlenH]; exact hi), mapI_get, Nat.zero_add, ho]
    simp only [Option.map_some, mergeO, memB_iff.2 hm, cond_true]
  have H_out : ∀ {i : Nat} {o : AObj}, i ∉ ι → h[i]? = some o → (mergeH ι h h1)[i]? = some (pzOs (movedIds ι h1) o) := by
    intro i o hm ho
    have hi : i < h.length := (List.getElem?_eq_some_iff.1 ho).1
    rw [mergeH, List.getElem?_append_left (by rw [hlenH]; exact hi), mapI_get, Nat.zero_add, ho]
    simp only [Option.map_some, mergeO, memB_false.2 hm, cond_false]
  have H_ge : ∀ {i : Nat}, h.length ≤ i → (mergeH ι h h1)[i]? = (h1[ι.length + (i - h.length)]?).map (rnO (pushI ι h.length)) := by
    intro i hi
    rw [mergeH, List.getElem?_append_right (by rw [hlenH]; exact hi), hlenH, List.getElem?_map, List.getElem?_drop]
  have ι_lt : ∀ {i : Nat}, i ∈ ι → i < h.length := fun hm => by
    obtain ⟨o, ho, _⟩ := closedB_some hc hm
    exact (List.getElem?_eq_some_iff.1 ho).1
  have h1_in : ∀ {i : Nat}, i ∈ ι → ∃ o1, h1[findI ι i]? = some o1 ∧ h1.getD (findI ι i) .dead = o1 := fun {i} hm => by
    have hlt : findI ι i < h1.length := by have := findI_lt hm; omega
    exact ⟨_, List.getElem?_eq_getElem hlt, by rw [List.getD_eq_getElem?_getD, List.getElem?_eq_getElem hlt]; rfl⟩
  -- the two facts on places
  have K1 : ∀ (j : Nat) (p : PB), memB j (movedIds ι h1) = false → φ[j]? = some p → (mergeP ι φ φ1)[j]? = some p := by
    intro j p hnm hp
    have hj : j < h.length := by rw [← S.len]; exact (List.getElem?_eq_some_iff.1 hp).1
    by_cases hm : j ∈ ι
    · refine P_in' hj hm ?_
      have ht := findI_lt hm
      rcases E1.place (findI ι j) (by omega) with e | e
      · rw [e]; exact pullP_get hm hp
      · exact absurd (movedIds_mem (findI_spec hm) e (by omega)) (memB_false.1 hnm)
    · rw [P_out hj hm]; exact hp
  have K2 : ∀ (j : Nat) (p : PB), (fun _ : Nat => true) j = true → φ1[j]? = some p → (mergeP ι φ φ1)[pushI ι h.length j]? = some p := by
    intro j p _ hp
    rcases Nat.lt_or_ge j ι.length with hj | hj
    · obtain ⟨i, hi⟩ : ∃ i, ι[j]? = some i := ⟨_, List.getElem?_eq_getElem hj⟩
      have hm := List.mem_of_getElem? hi
      rw [pushI_old hi]
      refine P_in' (ι_lt hm) hm ?_
      rw [findI_get (closedB_nodup hc) hi]; exact hp
    · rw [pushI_new hj, P_new hj]; exact hp
  -- live blocks
  have L : ∀ {i : Nat} {p : PB}, liveB (mergeH ι h h1) i = true → (mergeP ι φ φ1)[i]? = some p →
      (i < h.length ∧ i ∉ ι ∧ liveB h i = true ∧ φ[i]? = some p ∧ p.b < w.heap.size) ∨
      (∃ t, pushI ι h.length t = i ∧ liveB h1 t = true ∧ φ1[t]? = some p ∧ ((i < h.length ∧ i ∈ ι ∧ t = findI ι i) ∨ (h.length ≤ i ∧ ι.length ≤ t))) := by
    intro i p hl hp
    obtain ⟨o, ho, hlo⟩ := liveB_some hl
    rcases Nat.lt_or_ge i h.length with hi | hi
    · obtain ⟨oi, hoi⟩ : ∃ oi, h[i]? = some oi := ⟨_, List.getElem?_eq_getElem hi⟩
      by_cases hm : i ∈ ι
      · right
        obtain ⟨o1, ho1, hd⟩ := h1_in hm
        rw [H_in hm hoi, hd] at ho; cases ho
        have := flagO_liveB hlo
        rw [rnO_liveB] at this
        exact ⟨findI ι i, pushI_old (findI_spec hm), by simp [liveB, ho1, this], P_in hi hm hp, .inl ⟨hi, hm, rfl⟩⟩
      · left
        rw [H_out hm hoi] at ho; cases ho
        rw [pzOs_liveB] at hlo
        rw [P_out hi hm] at hp
        exact ⟨hi, hm, by simp [liveB, hoi, hlo], hp, (S.blk i oi p hoi hp).there hlo⟩
    · right
      rw [H_ge hi] at ho
      rw [P_ge hi] at hp
      cases ho1 : h1[ι.length + (i - h.length)]? with
      | none => rw [ho1] at ho; cases ho
      | some o1 =>
        rw [ho1] at ho; cases ho
        rw [rnO_liveB] at hlo
        refine ⟨ι.length + (i - h.length), ?_, by simp [liveB, ho1, hlo], hp, .inr ⟨hi, by omega⟩⟩
        rw [pushI_new (by omega)]; omega
  have old_or_new : ∀ {t : Nat} {p : PB}, liveB h1 t = true → φ1[t]? = some p → w.heap.size ≤ p.b ∨ ∃ (j i : Nat) (q : PB), ι[j]? = some i ∧ liveB h i = true ∧ φ[i]? = some q ∧ p.b = q.b := by
    intro t p hl hp
    rcases E1.fresh t p hl hp with e | ⟨j, q, e1, e2, e3⟩
    · exact .inl e
    · obtain ⟨i, a1, a2⟩ := pullH_live hc e1
      obtain ⟨i', b1, b2⟩ := pullP_at S hc e2
      rw [a1] at b1; cases b1
      exact .inr ⟨j, i, q, a1, a2, b2, e3⟩
  refine ⟨⟨S1.os, S1.tape, S1.out, S1.size, S1.old, ?_, ?_, ?_⟩, ⟨?_, E1.size, ?_, ?_, ?_, ?_⟩, fun v v' hv => VR_rn _ _ K2 v v' (idsB_true v) hv, fun v v' hv => VR_pzVs _ K1 v v' hv⟩
  · simp only [mergeP, mergeH, List.length_append, mapI_length, List.length_map, List.length_drop, S.len, S1.len]
  · intro i o p ho hp
    rcases Nat.lt_or_ge i h.length with hi | hi
    · obtain ⟨oi, hoi⟩ : ∃ oi, h[i]? = some oi := ⟨_, List.getElem?_eq_getElem hi⟩
      by_cases hm : i ∈ ι
      · obtain ⟨o1, ho1, hd⟩ := h1_in hm
        rw [H_in hm hoi, hd] at ho; cases ho
        exact ((S1.blk _ o1 p ho1 (P_in hi hm hp)).rn _ _ K2 (idsOB_true o1)).flag _
      · rw [H_out hm hoi] at ho; cases ho
        rw [P_out hi hm] at hp
        have hb := S.blk i oi p hoi hp
        refine BlkOk.pzs _ K1 ?_
        have live_case : oi.liveB = true → BlkOk W0 φ p oi w1 := fun hlo => by
          refine hb.congr (E1.rest p.b (hb.there hlo) fun t q h2 h3 e => hm ?_)
          obtain ⟨j, a1, a2⟩ := pullH_live hc h2
          obtain ⟨j', b1, b2⟩ := pullP_at S hc h3
          rw [a1] at b1; cases b1
          have := S.inj j i q p a2 (by simp [liveB, hoi, hlo]) b2 hp e
          subst this
          exact List.mem_of_getElem? a1
        cases oi with
        | dead => trivial
        | ro vs t => exact hb.congr (by rw [S1.old _ hb.1, S.old _ hb.1])
        | cells => exact live_case rfl
        | map => exact live_case rfl
        | siter => exact live_case rfl
    · rw [H_ge hi] at ho
      rw [P_ge hi] at hp
      cases ho1 : h1[ι.length + (i - h.length)]? with
      | none => rw [ho1] at ho; cases ho
      | some o1 =>
        rw [ho1] at ho; cases ho
        exact (S1.blk _ o1 p ho1 hp).rn _ _ K2 (idsOB_true o1)
  · intro i j p q h2 h3 h4 h5 h6
    have cross : ∀ {i j t : Nat} {p q : PB}, i ∉ ι → liveB h i = true → φ[i]? = some p → p.b < w.heap.size → liveB h1 t = true → φ1[t]? = some q → p.b = q.b → False := by
      intro i j t p q a1 a2 a3 a4 b1 b2 e
      rcases old_or_new b1 b2 with c | ⟨j', i', q', c1, c2, c3, c4⟩
      · omega
      · have := S.inj i i' p q' a2 c2 a3 c3 (by omega)
        subst this
        exact a1 (List.mem_of_getElem? c1)
    rcases L h2 h4 with ⟨_, a1, a2, a3, a4⟩ | ⟨t, a1, a2, a3, _⟩ <;> rcases L h3 h5 with ⟨_, b1, b2, b3, b4⟩ | ⟨s, b1, b2, b3, _⟩
    · exact S.inj i j p q a2 b2 a3 b3 h6
    · exact (cross (j := j) a1 a2 a3 a4 b2 b3 h6).elim
    · exact (cross (j := i) b1 b2 b3 b4 a2 a3 h6.symm).elim
    · have := S1.inj t s p q a2 b2 a3 b3 h6
      rw [← a1, ← b1, this]
  · simp only [mergeH, List.length_append, mapI_length]; omega
  · intro i hi
    by_cases hm : i ∈ ι
    · obtain ⟨oi, hoi⟩ : ∃ oi, h[i]? = some oi := ⟨_, List.getElem?_eq_getElem hi⟩
      obtain ⟨p, hp⟩ := S.some_of hoi
      have ht := findI_lt hm
      rcases E1.place (findI ι i) (by omega) with e | e
      · left; rw [hp]; exact P_in' hi hm (by rw [e]; exact pullP_get hm hp)
      · right
        obtain ⟨o1, ho1, hd⟩ := h1_in hm
        simp only [movedB, H_in hm hoi, hd]
        exact flagO_moved (.inr (by rw [rnO_movedB]; simpa [movedB, ho1] using e))
    · exact .inl (P_out hi hm)
  · intro i hi hmv
    obtain ⟨oi, hoi⟩ : ∃ oi, h[i]? = some oi := ⟨_, List.getElem?_eq_getElem hi⟩
    have hmo : oi.movedB = true := by simpa [movedB, hoi] using hmv
    by_cases hm : i ∈ ι
    · simp only [movedB, H_in hm hoi]; exact flagO_moved (.inl hmo)
    · simp only [movedB, H_out hm hoi, pzOs_movedB]; exact hmo
  · intro i p h2 h3
    rcases L h2 h3 with ⟨_, a1, a2, a3, a4⟩ | ⟨t, a1, a2, a3, a4⟩
    · exact .inr ⟨i, p, a2, a3, rfl⟩
    · rcases old_or_new a2 a3 with c | ⟨j', i', q', c1, c2, c3, c4⟩
      · exact .inl c
      · exact .inr ⟨i', q', c2, c3, c4⟩
  · intro n hn hne
    refine E1.rest n hn fun t q h2 h3 => ?_
    obtain ⟨j, a1, a2⟩ := pullH_live hc h2
    obtain ⟨j', b1, b2⟩ := pullP_at S hc h3
    rw [a1] at b1; cases b1
    exact hne j q a2 b2
end Go.Am
