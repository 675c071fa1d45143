/- The walk's own form of a region: the state is told by lists, its values are laid down as they are found. -/
import Derived.Test.YtofjbgpaofcpjaaAmNice
set_option linter.unusedVariables false
set_option linter.unusedSimpArgs false
namespace YtofjbgpaofcpjaaAM
open Go
variable {P : Program}

theorem GuardB.t {p q : Prop} (h : p) : GuardB true p q := ⟨fun _ => h, fun e => by cases e⟩
theorem GuardB.f {p q : Prop} (h : q) : GuardB false p q := ⟨(fun e => by cases e), fun _ => h⟩

/-! ### A region -/
def putN (dst : Option Nat) (v : AV) (tl : List (Nat × AV)) (H : List AObj) (k : List (Nat × AV) → List AObj → Prop) : Prop :=
  match dst with
  | none => k tl H
  | some d => force v fun v => k ((d, v) :: tl) H

def nextN (dst : Option Nat) (s : St) (tl : List (Nat × AV)) (k : List (Nat × AV) → List AObj → Prop) : Prop :=
  match dst with
  | none => forceH s.h fun H => k tl H
  | some d => force (s.t d) fun v => forceH s.h fun H => k ((d, v) :: tl) H

def StabL (l : List Nat) (H H' : List AObj) : Prop :=
  match l with
  | [] => True
  | i :: l => getL H' i = getL H i ∧ StabL l H H'
theorem StabL.sound : ∀ {l : List Nat} {H H' : List AObj}, StabL l H H' → Stab (some l) H H'
  | [], _, _, _ => fun id h => by cases h
  | i :: l, _, _, h => fun id hid => by
    rw [List.contains_cons, Bool.or_eq_true] at hid
    rcases hid with e | e
    · have := eq_of_beq e; subst this; exact h.1
    · exact StabL.sound h.2 id e

def rdN (ids : Option (List Nat)) (st : St) (o : Oper) (p : Prop) : Prop :=
  match ids with
  | none => p
  | some l => match o.op with
    | .load _ _ => VC (rdIds (some l) st o) p
    | _ => p

def stabN (ids : Option (List Nat)) (H H' : List AObj) (p : Prop) : Prop :=
  match ids with
  | none => p
  | some l => VC (StabL l H H') p

def stepN (T : Tab P) (ids : Option (List Nat)) (o : Oper) (tl : List (Nat × AV)) (H : List AObj) (k : List (Nat × AV) → List AObj → Prop) : Prop :=
  match pureV T (ev (lkp tl)) o.op with
  | .ok v => putN o.dst v tl H k
  | .vc p v => VC p (putN o.dst v tl H k)
  | .bad => match readN T (lkp tl) H o.op with
    | .ok v => putN o.dst v tl H k
    | .vc p v => VC p (putN o.dst v tl H k)
    | .bad => effN T (St.of tl H) o fun s => stabN ids H s.h (nextN o.dst s tl k)

def guardN (T : Tab P) (ids : Option (List Nat)) (ops : List Oper) (o : Oper) (tl : List (Nat × AV)) (H : List AObj) (k : List (Nat × AV) → List AObj → Prop) : Prop :=
  match o.guard with
  | none => stepN T ids o tl H k
  | some (j, want) => match getL ops j with
    | some oj => match oj.dst with
      | some g => match lkp tl g with
        | .bool b => match want with
          | true => GuardB b (stepN T ids o ((g, .bool true) :: tl) H k) (putN o.dst skipV ((g, .bool false) :: tl) H k)
          | false => GuardB b (putN o.dst skipV ((g, .bool true) :: tl) H k) (stepN T ids o ((g, .bool false) :: tl) H k)
        | .tuple [] => putN o.dst skipV tl H k
        | _ => False
      | none => False
    | none => False

def listN (T : Tab P) (ids : Option (List Nat)) (ops : List Oper) : List Oper → (St → Prop) → List (Nat × AV) → List AObj → Prop
  | [], K, tl, H => K (St.of tl H)
  | o :: r, K, tl, H => rdN ids (St.of tl H) o (guardN T ids ops o tl H (listN T ids ops r K))

theorem lkp_cons (d : Nat) (v : AV) (tl : List (Nat × AV)) (k : Nat) : lkp ((d, v) :: tl) k = if k = d then v else lkp tl k := by
  simp only [lkp]
  by_cases e : k = d
  · subst e; rw [Nat.beq_refl]; simp
  · rw [if_neg e]
    have : Nat.beq d k = false := by
      cases hb : Nat.beq d k with
      | false => rfl
      | true => exact absurd (Nat.eq_of_beq_eq_true hb).symm e
    rw [this]

theorem St.of_cons (d : Nat) (v : AV) (tl : List (Nat × AV)) (H : List AObj) : St.of ((d, v) :: tl) H = ⟨((St.of tl H).put (some d) v).t, H⟩ := by
  unfold St.of St.put
  congr 1
  funext k
  rw [lkp_cons]

theorem St.of_over {tl : List (Nat × AV)} {H : List AObj} {g : Nat} {v : AV} (h : lkp tl g = v) : St.of ((g, v) :: tl) H = St.of tl H := by
  unfold St.of
  congr 1
  funext k
  rw [lkp_cons]
  split
  · rename_i e; subst e; exact h.symm
  · rfl

theorem putN_sound {dst : Option Nat} {v : AV} {tl : List (Nat × AV)} {H : List AObj} {k : List (Nat × AV) → List AObj → Prop} {K : St → Prop} (hk : ∀ tl H, k tl H → K (St.of tl H)) (h : putN dst v tl H k) : K ((St.of tl H).put dst v) := by
  cases dst with
  | none => exact hk _ _ h
  | some d =>
    simp only [putN, force_eq] at h
    have := hk _ _ h
    rw [St.of_cons] at this
    exact this

theorem nextN_sound {dst : Option Nat} {s : St} {r : AV} {tl : List (Nat × AV)} {H : List AObj} {k : List (Nat × AV) → List AObj → Prop} {K : St → Prop} (hk : ∀ tl H, k tl H → K (St.of tl H)) (hs : s.t = ((St.of tl H).put dst r).t) (h : nextN dst s tl k) : K s := by
  cases dst with
  | none =>
    simp only [nextN, forceH_eq] at h
    have := hk _ _ h
    have e : St.of tl s.h = s := by
      cases s with | mk t h => simp only [St.put] at hs; unfold St.of; congr 1; exact hs.symm
    rw [e] at this; exact this
  | some d =>
    simp only [nextN, force_eq, forceH_eq] at h
    have := hk _ _ h
    have e : St.of ((d, s.t d) :: tl) s.h = s := by
      cases s with
      | mk t h =>
        unfold St.of
        congr 1
        funext k
        rw [lkp_cons]
        simp only [St.put] at hs
        split
        · rename_i e; subst e; rfl
        · rename_i e
          rw [hs]
          simp only [if_neg e]; rfl
    rw [e] at this; exact this

theorem stepN_sound {T : Tab P} {ids : Option (List Nat)} {o : Oper} {tl : List (Nat × AV)} {H : List AObj} {k : List (Nat × AV) → List AObj → Prop} {K : St → Prop} (hk : ∀ tl H, k tl H → K (St.of tl H)) (h : stepN T ids o tl H k) : stepP T (St.of tl H) o (fun s => VC (Stab ids H s.h) (K s)) := by
  have hst : ∀ {v}, Stab ids H ((St.of tl H).put o.dst v).h := by
    intro v
    have : ((St.of tl H).put o.dst v).h = H := by cases o.dst <;> rfl
    rw [this]; exact Stab.refl _ _
  unfold stepN at h
  unfold stepP
  have e1 : ev (St.of tl H).t = ev (lkp tl) := rfl
  have e2 : (St.of tl H).t = lkp tl := rfl
  have e3 : (St.of tl H).h = H := rfl
  rw [e1]
  split at h
  · rename_i v hv; rw [hv]; exact ⟨hst, putN_sound hk h⟩
  · rename_i p v hv; rw [hv]; exact ⟨h.vc, hst, putN_sound hk h.k⟩
  · rename_i hv
    rw [hv]
    simp only
    rw [e2, e3]
    have hr := readN_imp T (lkp tl) H o.op
    split at h
    · rename_i v hv
      rw [hv] at hr
      rcases hr with hr | ⟨p, hp, hr⟩
      · rw [hr]; exact ⟨hst, putN_sound hk h⟩
      · rw [hr]; exact ⟨hp, hst, putN_sound hk h⟩
    · rename_i p v hv
      rw [hv] at hr
      rcases hr with hr | ⟨p', hp, hr⟩
      · rw [hr]; exact ⟨h.vc, hst, putN_sound hk h.k⟩
      · rw [hr]; exact ⟨hp h.vc, hst, putN_sound hk h.k⟩
    · rename_i hv
      have hE : effP T (St.of tl H) o (fun s => VC (Stab ids H s.h) (K s)) := by
        refine effP_temp (effN_imp h) fun s r hr hs => ?_
        cases ids with
        | none => exact ⟨trivial, nextN_sound hk hr hs⟩
        | some l => exact ⟨(show VC (StabL l H s.h) _ from hs).vc.sound, nextN_sound hk hr (show VC (StabL l H s.h) _ from hs).k⟩
      have hbad : readV T (lkp tl) H o.op = .bad := by
        obtain ⟨dst, op, ty, pos, after, guard⟩ := o
        cases op <;> first | rfl | exact hE.elim
      rw [hbad]; exact hE

theorem guardN_sound {T : Tab P} {ids : Option (List Nat)} {ops : List Oper} {o : Oper} {tl : List (Nat × AV)} {H : List AObj} {k : List (Nat × AV) → List AObj → Prop} {K : St → Prop} (hk : ∀ tl H, k tl H → K (St.of tl H)) (h : guardN T ids ops o tl H k) : gstep T ops o (fun s => VC (Stab ids H s.h) (K s)) (St.of tl H) := by
  have hst : ∀ {v}, Stab ids H ((St.of tl H).put o.dst v).h := by
    intro v
    have : ((St.of tl H).put o.dst v).h = H := by cases o.dst <;> rfl
    rw [this]; exact Stab.refl _ _
  unfold guardN at h
  unfold gstep
  split at h
  · rename_i hg; simp only [hg]; exact stepN_sound hk h
  · rename_i j want hg
    simp only [hg]
    split at h
    · rename_i oj hj
      simp only [hj]
      split at h
      · rename_i g hdst
        simp only [hdst]
        split at h
        · rename_i b hb
          have hb' : (St.of tl H).t g = .bool b := hb
          simp only [hb']
          have a1 : b = true → stepN T ids o ((g, .bool true) :: tl) H k → stepP T (St.of tl H) o (fun s => VC (Stab ids H s.h) (K s)) := fun e hh => by
            subst e; have := stepN_sound hk hh; rw [St.of_over hb] at this; exact this
          have a2 : b = false → stepN T ids o ((g, .bool false) :: tl) H k → stepP T (St.of tl H) o (fun s => VC (Stab ids H s.h) (K s)) := fun e hh => by
            subst e; have := stepN_sound hk hh; rw [St.of_over hb] at this; exact this
          have b1 : b = true → putN o.dst skipV ((g, .bool true) :: tl) H k → VC (Stab ids H ((St.of tl H).put o.dst skipV).h) (K ((St.of tl H).put o.dst skipV)) := fun e hh => by
            subst e; have := putN_sound hk hh; rw [St.of_over hb] at this; exact ⟨hst, this⟩
          have b2 : b = false → putN o.dst skipV ((g, .bool false) :: tl) H k → VC (Stab ids H ((St.of tl H).put o.dst skipV).h) (K ((St.of tl H).put o.dst skipV)) := fun e hh => by
            subst e; have := putN_sound hk hh; rw [St.of_over hb] at this; exact ⟨hst, this⟩
          cases want
          · exact ⟨fun e => b1 e (h.yes e), fun e => a2 e (h.no e)⟩
          · exact ⟨fun e => a1 e (h.yes e), fun e => b2 e (h.no e)⟩
        · rename_i hb
          have hb' : (St.of tl H).t g = .tuple [] := hb
          simp only [hb']
          exact ⟨hst, putN_sound hk h⟩
        · exact h.elim
      · exact h.elim
    · exact h.elim

theorem listN_sound {T : Tab P} {ids : Option (List Nat)} {ops : List Oper} {K : St → Prop} : ∀ (r : List Oper) (tl : List (Nat × AV)) (H : List AObj), listN T ids ops r K tl H → listS T ids ops r K (St.of tl H)
  | [], tl, H, h => h
  | o :: r, tl, H, h => by
    have go : rdIds ids (St.of tl H) o → guardN T ids ops o tl H (listN T ids ops r K) → listS T ids ops (o :: r) K (St.of tl H) := fun h1 h2 =>
      ⟨h1, guardN_sound (fun tl H hk => listN_sound r tl H hk) h2⟩
    simp only [listN] at h
    cases ids with
    | none => exact go trivial h
    | some l =>
      obtain ⟨dst, op, ty, pos, after, guard⟩ := o
      cases op
      case load t x =>
        have h : VC _ _ := h
        exact go h.vc h.k
      all_goals exact go trivial h

theorem listS_none {T : Tab P} {ops : List Oper} {K : St → Prop} : ∀ (r : List Oper) (st : St), listS T none ops r K st → listP T ops r K st
  | [], st, h => h
  | o :: r, st, h => gstep_mono (fun s hs => listS_none r s hs.k) h.k

section
variable {n n0 : Nat} {Q : Exit → St → Prop} {tl : List (Nat × AV)} {H : List AObj}
theorem AWP.reg (T : Tab P) {id : Nat} {ops : Array Oper} (hd : ops.toList.all (dstOk n) = true) (h : listN T none ops.toList ops.toList (Q .normal) tl H) : AWP P n n0 (.region id ops false) Q (St.of tl H) := AWP.region T hd (listS_none _ _ (listN_sound _ _ _ h))
theorem AWP.drw (T : Tab P) (ids : Option (List Nat)) {id : Nat} {ops : Array Oper} (hm : (P.follows .mixedOrders || !Region.departs ops) = true) (hp : progGo .any ops.toList ops.toList.length [] = true) (hd : drawOk ids.isSome n ops.toList = true) (h : listN T ids ops.toList ops.toList (Q .normal) tl H) : AWP P n n0 (.region id ops true) Q (St.of tl H) :=
  AWP.draw T ids (fun md hq => by rcases hq with rfl | hq; exact hp; rw [hm] at hq; cases hq) hd (listN_sound _ _ _ h)
/-- A region whose orders may depart. -/
theorem AWP.dep (T : Tab P) (ids : Option (List Nat)) {id : Nat} {ops : Array Oper} (h0 : progGo .any ops.toList ops.toList.length [] = true) (h1 : progGo .text ops.toList ops.toList.length [] = true) (h2 : progGo .gc ops.toList ops.toList.length [] = true) (hd : drawOk ids.isSome n ops.toList = true) (h : listN T ids ops.toList ops.toList (Q .normal) tl H) : AWP P n n0 (.region id ops true) Q (St.of tl H) :=
  AWP.draw T ids (fun md _ => by cases md; exact h1; exact h2; exact h0) hd (listN_sound _ _ _ h)

theorem AWP.condT {c : Operand} {x y : Code} {st : St} (hc : ev st.t c = .bool true) (h : AWP P n n0 x Q st) : AWP P n n0 (.cond c x y) Q st := AWP.cond hc (fun _ => h) (fun e => by cases e)
theorem AWP.condF {c : Operand} {x y : Code} {st : St} (hc : ev st.t c = .bool false) (h : AWP P n n0 y Q st) : AWP P n n0 (.cond c x y) Q st := AWP.cond hc (fun e => by cases e) (fun _ => h)
end

theorem TmpL.b {φ : Nat → Nat} {N : Nat} {st : St} {k : Nat} {b b' : Bool} {r : List (Nat × AV)} (ht : st.t k = .bool b') (h : b' = b) (t : TmpL φ N st r) : TmpL φ N st ((k, .bool b) :: r) := .cons (by rw [ht, h]; rfl) rfl t
theorem TmpL.i {φ : Nat → Nat} {N : Nat} {st : St} {k : Nat} {K : IntKind} {b b' : Int} {r : List (Nat × AV)} (ht : st.t k = .int K b') (h : b' = b) (t : TmpL φ N st r) : TmpL φ N st ((k, .int K b) :: r) := .cons (by rw [ht, h]; rfl) rfl t
theorem TmpL.s {φ : Nat → Nat} {N : Nat} {st : St} {k : Nat} {a : AAddr} {b b' : Nat} {r : List (Nat × AV)} (ht : st.t k = .slice (a.ren φ) b') (h : b' = b) (hb : Nat.blt a.id N = true) (t : TmpL φ N st r) : TmpL φ N st ((k, .slice a b) :: r) := .cons (by rw [ht, h]; rfl) hb t

def plainT : Ty → Bool
  | .raw _ => false
  | _ => true
/-- One object of a heap that is told again: its elements are these. -/
theorem Fit1.arr {φ : Nat → Nat} {N : Nat} {ro : Bool} {τ : Ty} {l l' : List τ.El} (hτ : plainT τ = true) (h : l' = l) : Fit1 φ N (some (.arr ro τ l)) (.arr ro τ l') := by
  subst h
  cases τ <;> first | exact .same rfl rfl | cases hτ
theorem Fit1.arrRo {φ : Nat → Nat} {N : Nat} {ro : Bool} {τ : Ty} {l l' : List τ.El} (hτ : plainT τ = true) (h : l' = l) : Fit1 φ N (some (.arr ro τ l)) (.arr true τ l') := by
  subst h
  cases τ <;> first | exact .ro rfl rfl | cases hτ
theorem Fit1.rows {φ : Nat → Nat} {N : Nat} {ro : Bool} {l l' : List (List Int)} (h : l' = l) : Fit1 φ N (some (.rows ro l)) (.rows ro l') := by
  subst h; exact .same rfl rfl
theorem Fit1.rowsRo {φ : Nat → Nat} {N : Nat} {ro : Bool} {l l' : List (List Int)} (h : l' = l) : Fit1 φ N (some (.rows ro l)) (.rows true l') := by
  subst h; exact .ro rfl rfl

def argsL : Nat → List AV → List (Nat × AV)
  | _, [] => []
  | i, a :: l => (i, a) :: argsL (i + 1) l

theorem argsL_lkp : ∀ (l : List AV) (i k : Nat), lkp (argsL i l) (i + k) = argT l k ∧ ∀ j, j < i → lkp (argsL i l) j = .undef
  | [], i, k => ⟨by cases k <;> rfl, fun j _ => rfl⟩
  | a :: l, i, k => by
    refine ⟨?_, fun j hj => ?_⟩
    · cases k with
      | zero => simp [argsL, lkp, argT]
      | succ k =>
        have := (argsL_lkp l (i + 1) k).1
        simp only [argsL, argT]
        rw [lkp_cons, if_neg (by omega), ← this]
        congr 1; omega
    · have := (argsL_lkp l (i + 1) 0).2 j (by omega)
      simp only [argsL]
      rw [lkp_cons, if_neg (by omega)]; exact this

theorem St.args (l : List AV) (H : List AObj) : St.of (argsL 0 l) H = ⟨argT l, H⟩ := by
  unfold St.of
  congr 1
  funext k
  have := (argsL_lkp l 0 k).1
  rw [Nat.zero_add] at this; exact this

/-- The end of a function whose contract tells one value and one heap. -/
theorem Ret.is (l : List Nat) {n0 : Nat} {H H1 : List AObj} {v v1 : AV} (hv : v = v1.ren (nameOf l)) (hh : FitsL (nameOf l) H1.length H l H1)
    (hn : (Nat.ble n0 H1.length && idB n0 0 l && Nat.beq l.length H1.length && injB l H1 && allWr (dropL n0 H1) && v1.bd H1.length) = true) : Ret n0 H v (Is v1 H1) :=
  Ret.of l v1 H1 hv hh hn ⟨rfl, rfl⟩
theorem Ret.bool (l : List Nat) {n0 : Nat} {H H1 : List AObj} {b b1 : Bool} (hb : b = b1) (hh : FitsL (nameOf l) H1.length H l H1)
    (hn : (Nat.ble n0 H1.length && idB n0 0 l && Nat.beq l.length H1.length && injB l H1 && allWr (dropL n0 H1) && (AV.bool b1).bd H1.length) = true) : Ret n0 H (.bool b) (Is (.bool b1) H1) :=
  Ret.is l (by rw [hb]; rfl) hh hn
theorem Ret.int (l : List Nat) {n0 : Nat} {H H1 : List AObj} {k : IntKind} {b b1 : Int} (hb : b = b1) (hh : FitsL (nameOf l) H1.length H l H1)
    (hn : (Nat.ble n0 H1.length && idB n0 0 l && Nat.beq l.length H1.length && injB l H1 && allWr (dropL n0 H1) && (AV.int k b1).bd H1.length) = true) : Ret n0 H (.int k b) (Is (.int k b1) H1) :=
  Ret.is l (by rw [hb]; rfl) hh hn

/-- Two results, the second a bool. -/
theorem Ret.vb (l : List Nat) {n0 : Nat} {H H1 : List AObj} {v v1 : AV} {b b1 : Bool} (hv : v = v1.ren (nameOf l)) (hb : b = b1) (hh : FitsL (nameOf l) H1.length H l H1)
    (hn : (Nat.ble n0 H1.length && idB n0 0 l && Nat.beq l.length H1.length && injB l H1 && allWr (dropL n0 H1) && (AV.tuple [v1, .bool b1]).bd H1.length) = true) : Ret n0 H (.tuple [v, .bool b]) (Is (.tuple [v1, .bool b1]) H1) :=
  Ret.is l (by rw [hb, hv]; rfl) hh hn
theorem Ret.ib (l : List Nat) {n0 : Nat} {H H1 : List AObj} {k : IntKind} {v v1 : Int} {b b1 : Bool} (hv : v = v1) (hb : b = b1) (hh : FitsL (nameOf l) H1.length H l H1)
    (hn : (Nat.ble n0 H1.length && idB n0 0 l && Nat.beq l.length H1.length && injB l H1 && allWr (dropL n0 H1) && (AV.tuple [.int k v1, .bool b1]).bd H1.length) = true) : Ret n0 H (.tuple [.int k v, .bool b]) (Is (.tuple [.int k v1, .bool b1]) H1) :=
  Ret.is l (by rw [hb, hv]; rfl) hh hn
theorem Ret.bb (l : List Nat) {n0 : Nat} {H H1 : List AObj} {v v1 b b1 : Bool} (hv : v = v1) (hb : b = b1) (hh : FitsL (nameOf l) H1.length H l H1)
    (hn : (Nat.ble n0 H1.length && idB n0 0 l && Nat.beq l.length H1.length && injB l H1 && allWr (dropL n0 H1) && (AV.tuple [.bool v1, .bool b1]).bd H1.length) = true) : Ret n0 H (.tuple [.bool v, .bool b]) (Is (.tuple [.bool v1, .bool b1]) H1) :=
  Ret.is l (by rw [hb, hv]; rfl) hh hn

theorem Ret.sb (l : List Nat) {n0 : Nat} {H H1 : List AObj} {a : AAddr} {w : AV} {v v1 : Nat} {b b1 : Bool} (hw : w = .tuple [.slice (a.ren (nameOf l)) v, .bool b]) (hv : v = v1) (hb : b = b1) (hh : FitsL (nameOf l) H1.length H l H1)
    (hn : (Nat.ble n0 H1.length && idB n0 0 l && Nat.beq l.length H1.length && injB l H1 && allWr (dropL n0 H1) && (AV.tuple [.slice a v1, .bool b1]).bd H1.length) = true) : Ret n0 H w (Is (.tuple [.slice a v1, .bool b1]) H1) :=
  Ret.is l (by rw [hw, hb, hv]; rfl) hh hn

theorem Ret.ii (l : List Nat) {n0 : Nat} {H H1 : List AObj} {k k' : IntKind} {w : AV} {v v1 b b1 : Int} (hw : w = .tuple [.int k v, .int k' b]) (hv : v = v1) (hb : b = b1) (hh : FitsL (nameOf l) H1.length H l H1)
    (hn : (Nat.ble n0 H1.length && idB n0 0 l && Nat.beq l.length H1.length && injB l H1 && allWr (dropL n0 H1) && (AV.tuple [.int k v1, .int k' b1]).bd H1.length) = true) : Ret n0 H w (Is (.tuple [.int k v1, .int k' b1]) H1) :=
  Ret.is l (by rw [hw, hb, hv]; rfl) hh hn

/-- A slice and an array that is a value. -/
theorem Ret.sv (l : List Nat) {n0 : Nat} {H H1 : List AObj} {a : AAddr} {w : AV} {v v1 : Nat} {x x1 : Vec} (hw : w = .tuple [.slice (a.ren (nameOf l)) v, .vec x]) (hv : v = v1) (hx : x = x1) (hh : FitsL (nameOf l) H1.length H l H1)
    (hn : (Nat.ble n0 H1.length && idB n0 0 l && Nat.beq l.length H1.length && injB l H1 && allWr (dropL n0 H1) && (AV.tuple [.slice a v1, .vec x1]).bd H1.length) = true) : Ret n0 H w (Is (.tuple [.slice a v1, .vec x1]) H1) :=
  Ret.is l (by rw [hw, hx, hv]; rfl) hh hn
theorem Ret.si (l : List Nat) {n0 : Nat} {H H1 : List AObj} {a : AAddr} {w : AV} {v v1 : Nat} {k : IntKind} {x x1 : Int} (hw : w = .tuple [.slice (a.ren (nameOf l)) v, .int k x]) (hv : v = v1) (hx : x = x1) (hh : FitsL (nameOf l) H1.length H l H1)
    (hn : (Nat.ble n0 H1.length && idB n0 0 l && Nat.beq l.length H1.length && injB l H1 && allWr (dropL n0 H1) && (AV.tuple [.slice a v1, .int k x1]).bd H1.length) = true) : Ret n0 H w (Is (.tuple [.slice a v1, .int k x1]) H1) :=
  Ret.is l (by rw [hw, hx, hv]; rfl) hh hn
theorem Ret.sib (l : List Nat) {n0 : Nat} {H H1 : List AObj} {a : AAddr} {w : AV} {v v1 : Nat} {k : IntKind} {x x1 : Int} {b b1 : Bool} (hw : w = .tuple [.slice (a.ren (nameOf l)) v, .int k x, .bool b]) (hv : v = v1) (hx : x = x1) (hb : b = b1) (hh : FitsL (nameOf l) H1.length H l H1)
    (hn : (Nat.ble n0 H1.length && idB n0 0 l && Nat.beq l.length H1.length && injB l H1 && allWr (dropL n0 H1) && (AV.tuple [.slice a v1, .int k x1, .bool b1]).bd H1.length) = true) : Ret n0 H w (Is (.tuple [.slice a v1, .int k x1, .bool b1]) H1) :=
  Ret.is l (by rw [hw, hx, hv, hb]; rfl) hh hn
theorem Ret.s (l : List Nat) {n0 : Nat} {H H1 : List AObj} {a : AAddr} {w : AV} {v v1 : Nat} (hw : w = .slice (a.ren (nameOf l)) v) (hv : v = v1) (hh : FitsL (nameOf l) H1.length H l H1)
    (hn : (Nat.ble n0 H1.length && idB n0 0 l && Nat.beq l.length H1.length && injB l H1 && allWr (dropL n0 H1) && (AV.slice a v1).bd H1.length) = true) : Ret n0 H w (Is (.slice a v1) H1) :=
  Ret.is l (by rw [hw, hv]; rfl) hh hn

/-- A contract, out of a walk of the body. -/
theorem ACall.walk (T : Tab P) {f : FuncId} {fn : Func} {c : Code} {args : List AV} {H : List AObj} {K : AV → List AObj → Prop} {n : Nat} {rs : List ResultVar} (hf : P.funcs[f]? = some fn) (hnt : fn.ntmps = n) (hrs : fn.results = rs.toArray) (hb : fn.body = some c) (hn : (fn.name == "runtime.NumGoroutine") = false)
    (hsz : Nat.ble args.length n = true) (nv : ∃ r H', K r H') (h : AWP P n H.length c (retQ T rs H.length K) (St.of (argsL 0 args) H)) : ACall P f args H K := by
  subst hnt
  rw [St.args] at h
  exact ACall.intro T hf hb hn hsz rs hrs nv h

end YtofjbgpaofcpjaaAM
