/- What a walk is made of: states told by lists, names turned by lists, loops, calls by contracts. -/
import Derived.Test.YtofjbgpaofcpjaaAmFun
set_option linter.unusedVariables false
set_option linter.unusedSimpArgs false
namespace YtofjbgpaofcpjaaAM
open Go
variable {P : Program}

def lkp : List (Nat × AV) → Nat → AV
  | [], _ => .undef
  | (i, v) :: r, k => match Nat.beq i k with
    | true => v
    | false => lkp r k

/-- A state told by lists. -/
def St.of (l : List (Nat × AV)) (H : List AObj) : St := ⟨lkp l, H⟩

def nameOf (l : List Nat) (i : Nat) : Nat := (getL l i).getD 0

def kindO : AObj → Nat
  | .dead => 0
  | .arr ro _ _ => match ro with | true => 1 | false => 2
  | .rows ro _ => match ro with | true => 1 | false => 2
def clashB (a k b k' : Nat) : Bool := Nat.beq a b && !(Nat.beq k 0 || Nat.beq k' 0 || (Nat.beq k 1 && Nat.beq k' 1))
def injB1 (a : Nat) (o : AObj) : List Nat → List AObj → Bool
  | b :: l, o' :: H => !clashB a (kindO o) b (kindO o') && injB1 a o l H
  | _, _ => true
def injB : List Nat → List AObj → Bool
  | a :: l, o :: H => injB1 a o l H && injB l H
  | _, _ => true

inductive Fit1 (φ : Nat → Nat) (N : Nat) : Option AObj → AObj → Prop
  | dead (o : Option AObj) : Fit1 φ N o .dead
  | same {o o' : AObj} (h : o'.ren φ = o) (hb : o'.bdB N = true) : Fit1 φ N (some o) o'
  | ro {o o' : AObj} (h : o'.ren φ = o.asRo) (hb : o'.bdB N = true) : Fit1 φ N (some o) o'

inductive FitsL (φ : Nat → Nat) (N : Nat) (H : List AObj) : List Nat → List AObj → Prop
  | nil (l : List Nat) : FitsL φ N H l []
  | cons {i : Nat} {l : List Nat} {o : AObj} {H' : List AObj} (h : Fit1 φ N (getL H i) o) (t : FitsL φ N H l H') : FitsL φ N H (i :: l) (o :: H')

theorem FitsL.get {φ : Nat → Nat} {N : Nat} {H : List AObj} : ∀ {l : List Nat} {H' : List AObj}, FitsL φ N H l H' → ∀ (id : Nat) (o : AObj), H'[id]? = some o → Fit1 φ N (getL H (nameOf l id)) o
  | _, _, .nil _, id, o, h => by simp at h
  | i :: l, _, .cons h t, id, o, ho => by
    cases id with
    | zero => simp at ho; subst ho; exact h
    | succ id => exact t.get id o (by simpa using ho)

theorem kindO_spec (o : AObj) : (kindO o = 0 ↔ o = .dead) ∧ (kindO o = 2 ↔ o.ro = false) ∧ kindO o ≤ 2 := by
  cases o with
  | dead => simp [kindO, AObj.ro]
  | arr ro τ l => cases ro <;> simp [kindO, AObj.ro]
  | rows ro ll => cases ro <;> simp [kindO, AObj.ro]

theorem injB1_get {a : Nat} {o : AObj} : ∀ {l : List Nat} {H : List AObj}, injB1 a o l H = true → H.length ≤ l.length → ∀ (id : Nat) (o' : AObj), H[id]? = some o' → clashB a (kindO o) (nameOf l id) (kindO o') = false
  | [], [], _, _, id, o', h => by simp at h
  | b :: l, [], _, _, id, o', h => by simp at h
  | [], _ :: _, _, hl, _, _, _ => by simp at hl
  | b :: l, p :: H, h, hl, id, o', ho => by
    simp only [injB1, Bool.and_eq_true, Bool.not_eq_true'] at h
    cases id with
    | zero => simp at ho; subst ho; exact h.1
    | succ id => exact injB1_get h.2 (by simpa using hl) id o' (by simpa using ho)

theorem clashB_false {a k b k' : Nat} (h : clashB a k b k' = false) (hk : k ≠ 0) (hk' : k' ≠ 0) (h2 : k = 2 ∨ k' = 2) : a ≠ b := by
  intro e
  subst e
  have b0 : Nat.beq k 0 = false := by cases hq : Nat.beq k 0 with | false => rfl | true => exact absurd (Nat.eq_of_beq_eq_true hq) hk
  have b1 : Nat.beq k' 0 = false := by cases hq : Nat.beq k' 0 with | false => rfl | true => exact absurd (Nat.eq_of_beq_eq_true hq) hk'
  have b2 : (Nat.beq k 1 && Nat.beq k' 1) = false := by
    rcases h2 with rfl | rfl
    · rfl
    · rw [show Nat.beq 2 1 = false from rfl, Bool.and_false]
  simp [clashB, b0, b1, b2] at h

theorem injB_get : ∀ {l : List Nat} {H : List AObj}, injB l H = true → H.length ≤ l.length → ∀ (id id' : Nat) (o o' : AObj), id < id' → H[id]? = some o → H[id']? = some o' → clashB (nameOf l id) (kindO o) (nameOf l id') (kindO o') = false
  | [], [], _, _, id, id', o, o', _, h, _ => by simp at h
  | b :: l, [], _, _, id, id', o, o', _, h, _ => by simp at h
  | [], _ :: _, _, hl, _, _, _, _, _, _, _ => by simp at hl
  | b :: l, p :: H, h, hl, id, id', o, o', hlt, ho, ho' => by
    simp only [injB, Bool.and_eq_true] at h
    cases id' with
    | zero => omega
    | succ id' =>
      cases id with
      | zero => simp at ho; subst ho; exact injB1_get h.1 (by simpa using hl) id' o' (by simpa using ho')
      | succ id => exact injB_get h.2 (by simpa using hl) id id' o o' (by omega) (by simpa using ho) (by simpa using ho')

theorem HWeak.of {l : List Nat} {H H' : List AObj} (h : FitsL (nameOf l) H'.length H l H') (hl : Nat.beq l.length H'.length = true) (hi : injB l H' = true) : HWeak (nameOf l) H H' where
  h id o ho := by
    have := h.get id o ho
    generalize hx : getL H (nameOf l id) = x at this
    rw [getL_eq] at hx
    cases this with
    | dead => exact .inl rfl
    | same h1 hb => exact .inr ⟨_, hx, .inr (.inl h1), hb⟩
    | ro h1 hb => exact .inr ⟨_, hx, .inr (.inr h1), hb⟩
  inj id id' o o' ho ho' hro hd he := by
    have hl : H'.length ≤ l.length := by have := Nat.eq_of_beq_eq_true hl; omega
    have k := (kindO_spec o).2.1.2 hro
    have k' : kindO o' ≠ 0 := fun e => hd ((kindO_spec o').1.1 e)
    rcases Nat.lt_trichotomy id id' with hlt | rfl | hlt
    · exact absurd he (clashB_false (injB_get hi hl id id' o o' hlt ho ho') (by omega) k' (.inl k))
    · rfl
    · exact absurd he.symm (clashB_false (injB_get hi hl id' id o' o hlt ho' ho) k' (by omega) (.inr k))

inductive TmpL (φ : Nat → Nat) (N : Nat) (st : St) : List (Nat × AV) → Prop
  | nil : TmpL φ N st []
  | cons {k : Nat} {v : AV} {r : List (Nat × AV)} (h : st.t k = v.ren φ) (hb : v.bd N = true) (t : TmpL φ N st r) : TmpL φ N st ((k, v) :: r)

theorem TmpL.get {φ : Nat → Nat} {N : Nat} {st : St} : ∀ {l : List (Nat × AV)}, TmpL φ N st l → ∀ k, lkp l k = .undef ∨ (st.t k = (lkp l k).ren φ ∧ (lkp l k).bd N = true)
  | _, .nil, k => .inl rfl
  | _, .cons (k := i) h hb t, k => by
    simp only [lkp]
    split
    · rename_i e
      have := Nat.eq_of_beq_eq_true e
      subst this
      exact .inr ⟨h, hb⟩
    · exact t.get k

def idB : Nat → Nat → List Nat → Bool
  | 0, _, _ => true
  | n + 1, i, a :: l => Nat.beq a i && idB n (i + 1) l
  | _ + 1, _, [] => false

theorem idB_get : ∀ {n i : Nat} {l : List Nat}, idB n i l = true → ∀ k, k < n → nameOf l k = i + k
  | 0, _, _, _, k, hk => by omega
  | n + 1, i, a :: l, h, k, hk => by
    simp only [idB, Bool.and_eq_true] at h
    cases k with
    | zero => exact Nat.eq_of_beq_eq_true h.1
    | succ k =>
      have := idB_get h.2 k (by omega)
      show nameOf l k = _
      omega
  | n + 1, _, [], h, _, _ => by cases h

theorem Weak.of (l : List Nat) {n0 : Nat} {st : St} {tl : List (Nat × AV)} {H' : List AObj} (ht : TmpL (nameOf l) H'.length st tl) (hh : FitsL (nameOf l) H'.length st.h l H')
    (hn : (Nat.ble n0 H'.length && idB n0 0 l && Nat.beq l.length H'.length && injB l H') = true) : Weak n0 (nameOf l) st (St.of tl H') := by
  simp only [Bool.and_eq_true] at hn
  exact ⟨ht.get, Nat.le_of_ble_eq_true hn.1.1.1, fun i hi => by have := idB_get hn.1.1.2 i hi; omega, HWeak.of hh hn.1.2 hn.2⟩

def allWr : List AObj → Bool
  | [] => true
  | o :: H => (Nat.beq (kindO o) 0 || Nat.beq (kindO o) 2) && allWr H
def dropL {α : Type} : Nat → List α → List α
  | 0, l => l
  | _ + 1, [] => []
  | n + 1, _ :: l => dropL n l

theorem allWr_get : ∀ {H : List AObj}, allWr H = true → ∀ (id : Nat) (o : AObj), H[id]? = some o → o = .dead ∨ o.ro = false
  | [], _, id, o, h => by simp at h
  | p :: H, h, id, o, ho => by
    simp only [allWr, Bool.and_eq_true, Bool.or_eq_true] at h
    cases id with
    | zero =>
      simp at ho; subst ho
      rcases h.1 with e | e
      · exact .inl ((kindO_spec p).1.1 (Nat.eq_of_beq_eq_true e))
      · exact .inr ((kindO_spec p).2.1.1 (Nat.eq_of_beq_eq_true e))
    | succ id => exact allWr_get h.2 id o (by simpa using ho)

theorem dropL_get {α : Type} : ∀ (n : Nat) (l : List α) (i : Nat), (dropL n l)[i]? = l[n + i]?
  | 0, l, i => by simp [dropL]
  | n + 1, [], i => by simp [dropL]
  | n + 1, a :: l, i => by rw [dropL, dropL_get n l i, show n + 1 + i = (n + i) + 1 by omega]; simp

/-- The end of a function: the heap that is left, by the names of the list. -/
theorem Ret.of (l : List Nat) (r : AV) (H' : List AObj) {n0 : Nat} {H : List AObj} {v : AV} {K : AV → List AObj → Prop} (hv : v = r.ren (nameOf l)) (hh : FitsL (nameOf l) H'.length H l H')
    (hn : (Nat.ble n0 H'.length && idB n0 0 l && Nat.beq l.length H'.length && injB l H' && allWr (dropL n0 H') && r.bd H'.length) = true) (hK : K r H') : Ret n0 H v K := by
  simp only [Bool.and_eq_true] at hn
  refine ⟨nameOf l, H', r, HWeak.of hh hn.1.1.1.2 hn.1.1.2, Nat.le_of_ble_eq_true hn.1.1.1.1.1, fun i hi => by have := idB_get hn.1.1.1.1.2 i hi; omega, fun id o hid ho => ?_, hv, hn.2, hK⟩
  refine allWr_get hn.1.2 (id - n0) o ?_
  rw [dropL_get, show n0 + (id - n0) = id by omega]; exact ho

section
variable {n n0 : Nat} {Q : Exit → St → Prop} {st : St}
/-- A loop: I tells the state at the head for each ghost of which G holds; m sinks. -/
theorem AWP.while {c : Code} {ι : Type} (I : ι → St) (G : ι → Prop) (m : ι → Nat) (i0 : ι) {f : Nat → Nat} (g0 : G i0) (h0 : Weak n0 f st (I i0))
    (round : ∀ i, G i → AWP P n n0 c (thenQ (fun s => ∃ i' f, G i' ∧ m i' < m i ∧ Weak n0 f s (I i')) Q) (I i)) : AWP P n n0 (.loop c) Q st :=
  AWP.loop (ι := {i // G i}) (fun i => I i.1) (fun i => m i.1) ⟨i0, g0⟩ f h0 fun i => (round i.1 i.2).mono fun e s h => by
    cases e with
    | normal => obtain ⟨i', f, h1, h2, h3⟩ := h; exact ⟨⟨i', h1⟩, f, h2, h3⟩
    | _ => exact h
/-- The end of a round. -/
theorem roundEnd {ι : Type} {I : ι → St} {G : ι → Prop} {m : ι → Nat} {i : ι} (i' : ι) {f : Nat → Nat} (h1 : G i') (h2 : m i' < m i) (h3 : Weak n0 f st (I i')) : ∃ i' f, G i' ∧ m i' < m i ∧ Weak n0 f st (I i') := ⟨i', f, h1, h2, h3⟩
end

def Is (v : AV) (H : List AObj) (r : AV) (H' : List AObj) : Prop := r = v ∧ H' = H
theorem Is.nv (v : AV) (H : List AObj) : ∃ r H', Is v H r H' := ⟨v, H, rfl, rfl⟩
theorem Is.rfl' {v : AV} {H : List AObj} : Is v H v H := ⟨rfl, rfl⟩

def ltAll (n : Nat) : List Nat → Bool
  | [] => true
  | a :: l => Nat.blt a n && ltAll n l
theorem ltAll_get {n : Nat} : ∀ {l : List Nat}, ltAll n l = true → ∀ i, i < l.length → nameOf l i < n
  | [], _, i, hi => by simp at hi
  | a :: l, h, i, hi => by
    simp only [ltAll, Bool.and_eq_true] at h
    cases i with
    | zero => have := h.1; rw [Nat.blt_eq] at this; exact this
    | succ i => exact ltAll_get h.2 i (by simpa using hi)

/-- A call by a contract in a small heap; l: the names there are these here. -/
theorem ACall.use (l : List Nat) {f : FuncId} {args0 args : List AV} {Hs H : List AObj} {K0 K : AV → List AObj → Prop} (h : ACall P f args0 Hs K0) (ha : AV.renL (nameOf l) args0 = args) (hh : FitsL (nameOf l) Hs.length H l Hs)
    (hn : (Nat.beq l.length Hs.length && injB l Hs && ltAll H.length l && AV.bdL Hs.length args0) = true)
    (hK : ∀ r Hs', K0 r Hs' → K (r.ren (extN (nameOf l) Hs.length H.length)) (mergeA (extN (nameOf l) Hs.length H.length) 0 Hs Hs' H)) : ACall P f args H K := by
  simp only [Bool.and_eq_true] at hn
  rw [← ha]
  refine (h.frame (nameOf l) (HWeak.of hh hn.1.1.1 hn.1.1.2) (fun j hj => ltAll_get hn.1.2 j (by rw [Nat.eq_of_beq_eq_true hn.1.1.1]; exact hj)) hn.2).mono ?_
  rintro r H' ⟨r0, Hs', hk, rfl, rfl⟩
  exact hK r0 Hs' hk

theorem ACall.useIs (l : List Nat) {f : FuncId} {args0 args : List AV} {Hs H H1 : List AObj} {v : AV} {K : AV → List AObj → Prop} (h : ACall P f args0 Hs (Is v H1)) (ha : AV.renL (nameOf l) args0 = args) (hh : FitsL (nameOf l) Hs.length H l Hs)
    (hn : (Nat.beq l.length Hs.length && injB l Hs && ltAll H.length l && AV.bdL Hs.length args0) = true)
    (hK : K (v.ren (extN (nameOf l) Hs.length H.length)) (mergeA (extN (nameOf l) Hs.length H.length) 0 Hs H1 H)) : ACall P f args H K :=
  h.use l ha hh hn fun r Hs' ⟨e1, e2⟩ => by subst e1; subst e2; exact hK

/-- One contract by another of the same heap. -/
theorem ACall.toIs {f : FuncId} {args : List AV} {H : List AObj} {v v' : AV} {H1 H1' : List AObj} (h : ACall P f args H (Is v H1)) (hv : v = v') (hH : H1 = H1') : ACall P f args H (Is v' H1') := by subst hv; subst hH; exact h
end YtofjbgpaofcpjaaAM
