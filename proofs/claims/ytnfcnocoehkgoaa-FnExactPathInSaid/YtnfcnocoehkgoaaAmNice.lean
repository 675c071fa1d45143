/- The steps once more, in the form that a walk shows: what can be reckoned is reckoned. -/
import Derived.Test.YtnfcnocoehkgoaaAmTy
set_option linter.unusedVariables false
set_option linter.unusedSimpArgs false
namespace YtnfcnocoehkgoaaAM
open Go
variable {P : Program}

/-! ### Values laid down -/
def lits : List Nat := [0, 1, 2, 3, 4, 5, 6, 7, 8, 9, 10, 11, 12, 13, 14, 15, 16, 17, 18, 19, 20, 21, 22, 23, 24, 25, 26, 27, 28, 29, 30, 31, 32, 33, 34, 35, 36, 37, 38, 39, 40, 41, 42, 43, 44, 45, 46, 47, 48, 49, 50, 51, 52, 53, 54, 55, 56, 57, 58, 59, 60, 61, 62, 63]

def natF (n : Nat) (K : Nat → Prop) : Prop :=
  match getL lits n with
  | some m => K m
  | none => K n

theorem lits_get : ∀ n m, getL lits n = some m → m = n := fun n m h => by
  rw [getL_eq, show lits = List.range 64 from rfl] at h
  rcases Nat.lt_or_ge n 64 with hn | hn
  · rw [List.getElem?_range hn] at h; exact (Option.some.inj h).symm
  · rw [List.getElem?_eq_none (by simpa using hn)] at h; cases h

theorem natF_eq (n : Nat) (K : Nat → Prop) : natF n K = K n := by
  unfold natF
  split
  · rename_i m h; rw [lits_get n m h]
  · rfl

def natR (n : Nat) (K : Nat → Res) : Res :=
  match getL lits n with
  | some m => K m
  | none => K n
theorem natR_eq (n : Nat) (K : Nat → Res) : natR n K = K n := by
  unfold natR
  split
  · rename_i m h; rw [lits_get n m h]
  · rfl

def addrF (a : AAddr) (K : AAddr → Prop) : Prop :=
  match a with
  | ⟨id, row, idx, esz, fld⟩ => natF id fun id => natF esz fun esz => natF fld fun fld => K ⟨id, row, idx, esz, fld⟩
theorem addrF_eq (a : AAddr) (K : AAddr → Prop) : addrF a K = K a := by
  cases a; simp only [addrF, natF_eq]

mutual
def force : AV → (AV → Prop) → Prop
  | .undef, K => K .undef
  | .int k n, K => K (.int k n)
  | .bool b, K => K (.bool b)
  | .ptr a, K => addrF a fun a => K (.ptr a)
  | .slice a len, K => addrF a fun a => K (.slice a len)
  | .cslice a len cap, K => addrF a fun a => K (.cslice a len cap)
  | .nilS, K => K .nilS
  | .nilF, K => K .nilF
  | .agg vs, K => forceL vs fun vs => K (.agg vs)
  | .vec x, K => K (.vec x)
  | .tuple vs, K => forceL vs fun vs => K (.tuple vs)
  | .func g vs, K => forceL vs fun vs => K (.func g vs)
def forceL : List AV → (List AV → Prop) → Prop
  | [], K => K []
  | v :: r, K => force v fun v => forceL r fun r => K (v :: r)
end

mutual
theorem force_eq : ∀ (v : AV) (K : AV → Prop), force v K = K v
  | .undef, K => rfl
  | .int k n, K => rfl
  | .bool b, K => rfl
  | .ptr a, K => by simp only [force, addrF_eq]
  | .slice a len, K => by simp only [force, addrF_eq]
  | .cslice a len cap, K => by simp only [force, addrF_eq]
  | .nilS, K => rfl
  | .nilF, K => rfl
  | .agg vs, K => by simp only [force, forceL_eq vs]
  | .vec x, K => rfl
  | .tuple vs, K => by simp only [force, forceL_eq vs]
  | .func g vs, K => by simp only [force, forceL_eq vs]
theorem forceL_eq : ∀ (l : List AV) (K : List AV → Prop), forceL l K = K l
  | [], K => rfl
  | v :: r, K => by simp only [forceL, force_eq v, forceL_eq r]
end

def forceO : AObj → (AObj → Prop) → Prop
  | .dead, K => K .dead
  | .arr ro (.raw n) [vs], K => natF n fun n => forceL vs fun vs => K (.arr ro (.raw n) [vs])
  | .arr ro τ l, K => K (.arr ro τ l)
  | .rows ro ll, K => K (.rows ro ll)
theorem forceO_eq (o : AObj) (K : AObj → Prop) : forceO o K = K o := by
  unfold forceO
  split
  · rfl
  · rw [natF_eq, forceL_eq]
  · rfl
  · rfl

def forceH : List AObj → (List AObj → Prop) → Prop
  | [], K => K []
  | o :: H, K => forceO o fun o => forceH H fun H => K (o :: H)
theorem forceH_eq : ∀ (H : List AObj) (K : List AObj → Prop), forceH H K = K H
  | [], K => rfl
  | o :: H, K => by simp only [forceH, forceO_eq, forceH_eq H]

/-! ### Reads -/
def Res.imp (r r' : Res) : Prop :=
  match r with
  | .ok v => r' = .ok v ∨ ∃ p, p ∧ r' = .vc p v
  | .vc p v => r' = .vc p v ∨ (∃ p', (p → p') ∧ r' = .vc p' v)
  | .bad => True
theorem Res.imp_refl (r : Res) : r.imp r := by cases r <;> simp [Res.imp]

def elemN (ti : TI) (τ : Ty) (l : List τ.El) (idx fld : Nat) : Res :=
  match ti.k.agg with
  | true => match fld, Nat.beq ti.size τ.n with
    | 0, true => match τ, l with
      | .s2, l => .vc (idx < l.length) (.agg [.int .i64 (l.getD idx ⟨0, 0⟩).a, .int .i64 (l.getD idx ⟨0, 0⟩).b])
      | .s3, l => .vc (idx < l.length) (.agg [.int .i64 (l.getD idx ⟨0, 0, 0⟩).a, .int .i64 (l.getD idx ⟨0, 0, 0⟩).b, .int .i64 (l.getD idx ⟨0, 0, 0⟩).c])
      | .hop, l => .vc (idx < l.length) (.agg [.int .i64 (l.getD idx ⟨0, false, 0⟩).a, .bool (l.getD idx ⟨0, false, 0⟩).b, .int .i64 (l.getD idx ⟨0, false, 0⟩).c])
      | .raw n, [vs] => match idx with
        | 0 => .ok (.agg vs)
        | _ => .bad
      | _, _ => .bad
    | _, _ => .bad
  | false => match τ, l, fld with
    | .int, l, 0 => .vc (idx < l.length) (.int .i64 (l.getD idx 0))
    | .bool, l, 0 => .vc (idx < l.length) (.bool (l.getD idx false))
    | .byte, l, 0 => .vc (idx < l.length) (.int .u8 (l.getD idx 0))
    | .s2, l, 0 => .vc (idx < l.length) (.int .i64 (l.getD idx ⟨0, 0⟩).a)
    | .s2, l, 1 => .vc (idx < l.length) (.int .i64 (l.getD idx ⟨0, 0⟩).b)
    | .s3, l, 0 => .vc (idx < l.length) (.int .i64 (l.getD idx ⟨0, 0, 0⟩).a)
    | .s3, l, 1 => .vc (idx < l.length) (.int .i64 (l.getD idx ⟨0, 0, 0⟩).b)
    | .s3, l, 2 => .vc (idx < l.length) (.int .i64 (l.getD idx ⟨0, 0, 0⟩).c)
    | .hop, l, 0 => .vc (idx < l.length) (.int .i64 (l.getD idx ⟨0, false, 0⟩).a)
    | .hop, l, 1 => .vc (idx < l.length) (.bool (l.getD idx ⟨0, false, 0⟩).b)
    | .hop, l, 2 => .vc (idx < l.length) (.int .i64 (l.getD idx ⟨0, false, 0⟩).c)
    | .raw n, vs :: _, fld => match idx, getL vs fld with
      | 0, some v => .ok v
      | _, _ => .bad
    | _, _, _ => .bad

theorem elemN_imp (ti : TI) (τ : Ty) (l : List τ.El) (idx fld : Nat) : (elemN ti τ l idx fld).imp (elemV ti τ l idx fld) := by
  unfold elemN elemV
  cases ti.k.agg with
  | true =>
    simp only
    split
    · rename_i hb
      simp only [hb]
      split <;> try exact trivial
      · exact .inl rfl
      · exact .inl rfl
      · exact .inl rfl
      · split
        · exact .inr ⟨_, by simp, rfl⟩
        · trivial
    · trivial
  | false =>
    simp only
    split <;> try exact trivial
    all_goals try exact .inl rfl
    rename_i vs r
    split
    · rename_i v hv
      have : getL ((Ty.raw _).enc (List.getD (vs :: r) 0 (Ty.raw _).d)) _ = some v := hv
      rw [this]
      exact .inr ⟨_, by simp, rfl⟩
    · trivial

def wholeN (ti : TI) (τ : Ty) (l : List τ.El) (idx fld : Nat) : Res :=
  match idx, fld, τ, l with
  | 0, 0, .int, l => natR ti.size fun n => .vc (l.length = n) (.vec (.ints l))
  | 0, 0, .bool, l => natR ti.size fun n => .vc (l.length = n) (.vec (.bools l))
  | 0, 0, .hop, l => natR ti.size fun n => .vc (l.length * 3 = n) (.vec (.hops l))
  | _, _, _, _ => .bad
theorem wholeN_imp (ti : TI) (τ : Ty) (l : List τ.El) (idx fld : Nat) : (wholeN ti τ l idx fld).imp (wholeV ti τ l idx fld) := by
  unfold wholeN wholeV
  split <;> try exact trivial
  all_goals simp only [natR_eq, vecOf]
  · exact .inr ⟨_, fun h => by simpa [Ty.n] using h, rfl⟩
  · exact .inr ⟨_, fun h => by simpa [Ty.n] using h, rfl⟩
  · exact .inl rfl

def readN (T : Tab P) (t : Nat → AV) (H : List AObj) : Op → Res
  | .load ty x => match ev t x, T.ty ty with
    | .ptr ⟨id, row, idx, esz, fld⟩, some ti => match getL H id with
      | some (.arr _ τ l) => match row, Nat.beq τ.n esz with
        | 0, true => match isArr ti.k with
          | true => wholeN ti τ l idx fld
          | false => elemN ti τ l idx fld
        | _, _ => .bad
      | some (.rows _ ll) => match row, ti.k.agg, esz, fld with
        | 0, false, 1, 0 => .vc (idx < ll.length) (.slice ⟨id, idx + 1, 0, 1, 0⟩ (ll.getD idx []).length)
        | r + 1, false, 1, 0 => .vc (r < ll.length ∧ idx < (ll.getD r []).length) (.int .i64 ((ll.getD r []).getD idx 0))
        | _, _, _, _ => .bad
      | _ => .bad
    | _, _ => .bad
  | _ => .bad

theorem readN_imp (T : Tab P) (t : Nat → AV) (H : List AObj) (op : Op) : (readN T t H op).imp (readV T t H op) := by
  cases op <;> try exact trivial
  case load ty x =>
    simp only [readN, readV]
    cases hx : ev t x <;> try exact trivial
    rename_i a
    obtain ⟨id, row, idx, esz, fld⟩ := a
    cases hty : T.ty ty with
    | none => exact trivial
    | some ti =>
      simp only
      cases hg : getL H id with
      | none => exact trivial
      | some o =>
        cases o with
        | dead => exact trivial
        | arr ro τ l =>
          simp only
          split
          · rename_i h1 h2
            simp only [h2]
            cases isArr ti.k with
            | true => exact wholeN_imp ti τ l idx fld
            | false => exact elemN_imp ti τ l idx fld
          · trivial
        | rows ro ll =>
          simp only
          split
          · rename_i h1 h2; simp only [h2]; exact .inl rfl
          · rename_i h1 h2; simp only [h2]; exact .inl rfl
          · trivial

/-! ### Effects -/
def eqS : AV → AV → Bool
  | .int k n, .int k' n' => decide (k = k') && decide (n = n')
  | .bool b, .bool b' => b == b'
  | .nilS, .nilS => true
  | .nilF, .nilF => true
  | .undef, .undef => true
  | _, _ => false
theorem eqS_eq {a b : AV} (h : eqS a b = true) : a = b := by
  unfold eqS at h
  split at h <;> simp_all
def eqSL : List AV → List AV → Bool
  | [], [] => true
  | a :: l, b :: r => eqS a b && eqSL l r
  | _, _ => false
theorem eqSL_eq : ∀ {l r : List AV}, eqSL l r = true → l = r
  | [], [], _ => rfl
  | a :: l, b :: r, h => by
    simp only [eqSL, Bool.and_eq_true] at h
    rw [eqS_eq h.1, eqSL_eq h.2]
  | [], _ :: _, h => by cases h
  | _ :: _, [], h => by cases h

def storeN (T : Tab P) (st : St) (K : St → Prop) (ti : TI) (a : AAddr) (v : AV) : Prop :=
  match a with
  | ⟨id, row, idx, esz, fld⟩ => match getL st.h id with
    | some (.arr false τ l) => match row, Nat.beq τ.n esz with
      | 0, true => match ti.k.agg with
        | true => match isArr ti.k with
         | true => match idx, fld, τ, l, v with
          | 0, 0, .int, l, .vec (.ints l') => natF ti.size fun n => VC (l'.length = n ∧ l.length = n) (K ⟨st.t, setL st.h id (.arr false .int l')⟩)
          | 0, 0, .bool, l, .vec (.bools l') => natF ti.size fun n => VC (l'.length = n ∧ l.length = n) (K ⟨st.t, setL st.h id (.arr false .bool l')⟩)
          | 0, 0, .hop, l, .vec (.hops l') => natF ti.size fun n => VC (l'.length * 3 = n ∧ l.length * 3 = n) (K ⟨st.t, setL st.h id (.arr false .hop l')⟩)
          | _, _, _, _, _ => False
         | false => match fld, Nat.beq ti.size τ.n with
          | 0, true => match τ, l, v with
            | .s2, l, .agg [.int .i64 x, .int .i64 y] => VC (idx < l.length) (K ⟨st.t, setL st.h id (.arr false .s2 (l.set idx ⟨x, y⟩))⟩)
            | .s3, l, .agg [.int .i64 x, .int .i64 y, .int .i64 z] => VC (idx < l.length) (K ⟨st.t, setL st.h id (.arr false .s3 (l.set idx ⟨x, y, z⟩))⟩)
            | .hop, l, .agg [.int .i64 x, .bool y, .int .i64 z] => VC (idx < l.length) (K ⟨st.t, setL st.h id (.arr false .hop (l.set idx ⟨x, y, z⟩))⟩)
            | .raw n, [_], .agg vs => match idx, Nat.beq vs.length n && vs.all AV.one with
              | 0, true => K ⟨st.t, setL st.h id (.arr false (.raw n) [vs])⟩
              | _, _ => False
            | _, _, _ => False
          | _, _ => False
        | false => match Nat.beq ti.size 1 with
          | true => match τ, l, fld, v with
            | .int, l, 0, .int .i64 x => VC (idx < l.length) (K ⟨st.t, setL st.h id (.arr false .int (l.set idx x))⟩)
            | .bool, l, 0, .bool x => VC (idx < l.length) (K ⟨st.t, setL st.h id (.arr false .bool (l.set idx x))⟩)
            | .byte, l, 0, .int .u8 x => VC (idx < l.length) (K ⟨st.t, setL st.h id (.arr false .byte (l.set idx x))⟩)
            | .s2, l, 0, .int .i64 x => VC (idx < l.length) (K ⟨st.t, setL st.h id (.arr false .s2 (l.set idx ⟨x, (l.getD idx ⟨0, 0⟩).b⟩))⟩)
            | .s2, l, 1, .int .i64 x => VC (idx < l.length) (K ⟨st.t, setL st.h id (.arr false .s2 (l.set idx ⟨(l.getD idx ⟨0, 0⟩).a, x⟩))⟩)
            | .s3, l, 0, .int .i64 x => VC (idx < l.length) (K ⟨st.t, setL st.h id (.arr false .s3 (l.set idx ⟨x, (l.getD idx ⟨0, 0, 0⟩).b, (l.getD idx ⟨0, 0, 0⟩).c⟩))⟩)
            | .s3, l, 1, .int .i64 x => VC (idx < l.length) (K ⟨st.t, setL st.h id (.arr false .s3 (l.set idx ⟨(l.getD idx ⟨0, 0, 0⟩).a, x, (l.getD idx ⟨0, 0, 0⟩).c⟩))⟩)
            | .s3, l, 2, .int .i64 x => VC (idx < l.length) (K ⟨st.t, setL st.h id (.arr false .s3 (l.set idx ⟨(l.getD idx ⟨0, 0, 0⟩).a, (l.getD idx ⟨0, 0, 0⟩).b, x⟩))⟩)
            | .raw n, vs :: r, fld, v => match idx, Nat.blt fld n && Nat.beq vs.length n && v.one with
              | 0, true => K ⟨st.t, setL st.h id (.arr false (.raw n) (setL vs fld v :: r))⟩
              | _, _ => False
            | _, _, _, _ => False
          | false => False
      | _, _ => False
    | some (.rows false ll) => match row, ti.k.agg, esz, fld, v, Nat.beq ti.size 1 with
      | r + 1, false, 1, 0, .int .i64 n, true => VC (r < ll.length ∧ idx < (ll.getD r []).length) (K ⟨st.t, setL st.h id (.rows false (ll.set r ((ll.getD r []).set idx n)))⟩)
      | _, _, _, _, _, _ => False
    | _ => False

theorem storeN_imp {T : Tab P} {st : St} {K : St → Prop} {ti : TI} {a : AAddr} {v : AV} (hK : storeN T st K ti a v) : storeK T st K ti a v := by
  obtain ⟨id, row, idx, esz, fld⟩ := a
  unfold storeN at hK
  unfold storeK
  simp only at hK ⊢
  cases hg : getL st.h id with
  | none => rw [hg] at hK; exact hK.elim
  | some o =>
    rw [hg] at hK
    cases o with
    | dead => exact hK.elim
    | arr ro τ l =>
      cases ro with
      | true => exact hK.elim
      | false =>
        simp only at hK ⊢
        split at hK
        · rename_i h1 h2
          simp only [h2]
          cases hagg : ti.k.agg with
          | true =>
            simp only [hagg] at hK
            split at hK
            · split at hK <;> try exact hK.elim
              all_goals
                rw [natF_eq] at hK
                obtain ⟨⟨h3, h4⟩, hK⟩ := hK
              · exact ⟨⟨h3.trans h4.symm, by simpa [Ty.n] using h4⟩, hK⟩
              · exact ⟨⟨h3.trans h4.symm, by simpa [Ty.n] using h4⟩, hK⟩
              · exact ⟨⟨by omega, h4⟩, hK⟩
            split at hK
            · rename_i h4 h5
              have h5 := (Nat.eq_of_beq_eq_true h5).symm
              split at hK <;> try exact hK.elim
              · exact ⟨⟨hK.vc, rfl, h5, rfl, rfl⟩, hK.k⟩
              · exact ⟨⟨hK.vc, rfl, h5, rfl, rfl⟩, hK.k⟩
              · exact ⟨⟨hK.vc, rfl, h5, rfl, rfl⟩, hK.k⟩
              · split at hK
                · rename_i hc
                  simp only [Bool.and_eq_true] at hc
                  exact ⟨⟨by simp, Nat.eq_of_beq_eq_true hc.1, h5, rfl, hc.2⟩, hK⟩
                · exact hK.elim
            · exact hK.elim
          | false =>
            simp only [hagg] at hK
            split at hK
            · rename_i h5
              simp only [h5]
              split at hK <;> try exact hK.elim
              case h_9 =>
                rename_i n vs r fld v
                split at hK
                · rename_i hc
                  simp only [Bool.and_eq_true, Nat.blt_eq] at hc
                  simp only [hc.2]
                  exact ⟨⟨by simp, hc.1.1, rfl⟩, hK⟩
                · exact hK.elim
              all_goals exact ⟨⟨hK.vc, by decide, rfl⟩, hK.k⟩
            · exact hK.elim
        · exact hK.elim
    | rows ro ll =>
      cases ro with
      | true => exact hK.elim
      | false =>
        simp only at hK ⊢
        split at hK
        · rename_i h1 h2 h3
          simp only [h2]
          exact ⟨⟨hK.vc.1, hK.vc.2, Nat.eq_of_beq_eq_true h3⟩, hK.k⟩
        · exact hK.elim

def makeN (T : Tab P) (st : St) (dst : Option Nat) (K : St → Prop) (e : TypeId) (n : Int) : Prop :=
  match T.ty e, T.er e with
  | some te, some (.ty τ) => match eqSL (τ.enc τ.d) te.zero && Nat.beq te.size τ.n, te.bytes with
    | true, b => natF b fun b => VC (0 ≤ n ∧ n * b ≤ 281474976710656) (natF τ.n fun m => newK st dst K (.arr false τ (List.replicate n.toNat τ.d)) fun N => .slice ⟨N, 0, 0, m, 0⟩ n.toNat)
    | false, _ => False
  | some te, some .row => match eqSL [.nilS] te.zero && Nat.beq te.size 1, te.bytes with
    | true, b => natF b fun b => VC (0 ≤ n ∧ n * b ≤ 281474976710656) (newK st dst K (.rows false (List.replicate n.toNat [])) fun N => .slice ⟨N, 0, 0, 1, 0⟩ n.toNat)
    | false, _ => False
  | _, _ => False

theorem makeN_imp {T : Tab P} {st : St} {dst : Option Nat} {K : St → Prop} {e : TypeId} {n : Int} (h : makeN T st dst K e n) : makeK T st dst K e n := by
  unfold makeN at h
  unfold makeK
  split at h
  · rename_i te τ h1 h2
    split at h
    · rename_i hc
      simp only [Bool.and_eq_true] at hc
      simp only [natF_eq] at h
      simp only [h1, h2]
      exact ⟨⟨h.vc.1, h.vc.2, eqSL_eq hc.1, Nat.eq_of_beq_eq_true hc.2⟩, h.k⟩
    · exact h.elim
  · rename_i te h1 h2
    split at h
    · rename_i hc
      simp only [Bool.and_eq_true] at hc
      rw [natF_eq] at h
      simp only [h1, h2]
      exact ⟨⟨h.vc.1, h.vc.2, (eqSL_eq hc.1).symm, Nat.eq_of_beq_eq_true hc.2⟩, h.k⟩
    · exact h.elim
  · exact h.elim

/-- Elements out of their cells. -/
def decF : (τ : Ty) → List (List AV) → (List τ.El → Prop) → Prop
  | _, [], K => K []
  | .int, [.int .i64 x] :: r, K => decF .int r fun l => K (x :: l)
  | .bool, [.bool x] :: r, K => decF .bool r fun l => K (x :: l)
  | .byte, [.int .u8 x] :: r, K => decF .byte r fun l => K (x :: l)
  | .s2, [.int .i64 x, .int .i64 y] :: r, K => decF .s2 r fun l => K (⟨x, y⟩ :: l)
  | .s3, [.int .i64 x, .int .i64 y, .int .i64 z] :: r, K => decF .s3 r fun l => K (⟨x, y, z⟩ :: l)
  | .hop, [.int .i64 x, .bool y, .int .i64 z] :: r, K => decF .hop r fun l => K (⟨x, y, z⟩ :: l)
  | _, _ :: _, _ => False

theorem decF_imp : ∀ (τ : Ty) (l : List (List AV)) (K : List τ.El → Prop), decF τ l K → K (l.map τ.dec) ∧ ∀ vs ∈ l, vs.length = τ.n ∧ τ.enc (τ.dec vs) = vs ∧ vs.all AV.one = true := by
  intro τ l
  induction l with
  | nil => intro K h; exact ⟨by cases τ <;> exact h, by simp⟩
  | cons vs r ih =>
    intro K h
    unfold decF at h
    split at h <;> try exact h.elim
    · rename_i e; cases e
    all_goals
      rename_i e
      cases e
      have := ih _ h
      refine ⟨this.1, fun vs hvs => ?_⟩
      rcases List.mem_cons.1 hvs with rfl | hvs
      · exact ⟨rfl, rfl, rfl⟩
      · exact this.2 vs hvs

/-- A part of a list: m elements from i on. -/
def sub {α : Type} (l : List α) (i m : Nat) : List α := (l.drop i).take m

def castN : (τ' τ : Ty) → List τ'.El → (List τ.El → Prop) → Prop
  | .int, .int, l, K => K l
  | .bool, .bool, l, K => K l
  | .byte, .byte, l, K => K l
  | .s2, .s2, l, K => K l
  | .s3, .s3, l, K => K l
  | .hop, .hop, l, K => K l
  | _, _, _, _ => False

theorem castN_imp {τ' τ : Ty} {l : List τ'.El} {K : List τ.El → Prop} (h : castN τ' τ l K) : ∃ e : τ' = τ, K (castL e l) := by
  unfold castN at h
  split at h <;> first | exact ⟨rfl, h⟩ | exact h.elim

def srcN (H : List AObj) (τ : Ty) (v : AV) (K : Prop → List τ.El → Nat → Prop) : Prop :=
  match v with
  | .slice ⟨id, row, idx, esz, fld⟩ m | .cslice ⟨id, row, idx, esz, fld⟩ m _ => match getL H id, fld with
    | some (.arr _ τ' l), 0 => match row, Nat.beq τ'.n esz with
      | 0, true => castN τ' τ l fun l => K (idx + m ≤ l.length) (sub l idx m) m
      | _, _ => False
    | some (.rows _ ll), 0 => match row, Nat.beq 1 esz with
      | r + 1, true => castN .int τ (ll.getD r []) fun l => K (r < ll.length ∧ idx + m ≤ l.length) (sub l idx m) m
      | _, _ => False
    | _, _ => False
  | .nilS => K True [] 0
  | _ => False

theorem decEq_same (τ : Ty) : decEq τ τ = .isTrue rfl := by
  cases h : decEq τ τ with
  | isTrue e => rfl
  | isFalse e => exact absurd rfl e

theorem srcN_place {H : List AObj} {τ : Ty} {a : AAddr} {m : Nat} {K : Prop → List τ.El → Nat → Prop} (h : srcN H τ (.slice a m) K) : ∃ p l, srcV H τ (.slice a m) = some (p, l, m) ∧ ∃ p', (p' → p) ∧ K p' l m := by
  obtain ⟨id, row, idx, esz, fld⟩ := a
  simp only [srcN] at h
  simp only [srcV]
  split at h
  · rename_i ro τ' l hg
    simp only [hg]
    split at h
    · rename_i hb
      simp only [hb]
      obtain ⟨e, hK⟩ := castN_imp h
      subst e
      rw [decEq_same]
      exact ⟨_, _, rfl, _, fun h => h, by simp only [castL, sliceOf_eq] at hK ⊢; exact hK⟩
    · exact h.elim
  · rename_i ro ll hg
    simp only [hg]
    split at h
    · rename_i hb
      simp only [hb]
      obtain ⟨e, hK⟩ := castN_imp h
      subst e
      rw [decEq_same]
      exact ⟨_, _, rfl, _, fun h => h, by simp only [castL, sliceOf_eq] at hK ⊢; exact hK⟩
    · exact h.elim
  · exact h.elim

theorem srcN_imp {H : List AObj} {τ : Ty} {v : AV} {K : Prop → List τ.El → Nat → Prop} (h : srcN H τ v K) : ∃ p l m, srcV H τ v = some (p, l, m) ∧ ∃ p', (p' → p) ∧ K p' l m := by
  cases v <;> try exact h.elim
  case slice a m => obtain ⟨p, l, h1, h2⟩ := srcN_place h; exact ⟨p, l, m, h1, h2⟩
  case cslice a m c => obtain ⟨p, l, h1, h2⟩ := srcN_place (m := m) h; exact ⟨p, l, m, h1, h2⟩
  case nilS => exact ⟨_, _, _, rfl, _, fun h => h, h⟩

def appendN (T : Tab P) (st : St) (dst : Option Nat) (K : St → Prop) (e : TypeId) (s x : AV) : Prop :=
  match T.ty e, T.er e with
  | some te, some (.ty τ) => match Nat.beq te.size τ.n, te.bytes with
    | true, tb => natF tb fun tb => srcN st.h τ x fun p l' m => match s with
      | .nilS => VC (p ∧ m * tb ≤ 140737488355328) (natF τ.n fun z => newK st dst K (.arr false τ l') fun N => .slice ⟨N, 0, 0, z, 0⟩ m)
      | .cslice _ 0 0 => VC (p ∧ m * tb ≤ 140737488355328) (natF τ.n fun z => newK st dst K (.arr false τ l') fun N => .slice ⟨N, 0, 0, z, 0⟩ m)
      | .slice ⟨id, row, idx, esz, fld⟩ len => match getL st.h id, row, fld with
        | some (.arr false τ' l), 0, 0 => match Nat.beq τ'.n esz with
          | true => castN τ' τ l fun l => VC (p ∧ idx + len ≤ l.length ∧ (len + m) * tb ≤ 140737488355328) (natF τ.n fun z => newK ⟨st.t, setL st.h id .dead⟩ dst K (.arr false τ (sub l idx len ++ l')) fun N => .slice ⟨N, 0, 0, z, 0⟩ (len + m))
          | false => False
        | _, _, _ => False
      | _ => False
    | false, _ => False
  | _, _ => False

theorem appendN_imp {T : Tab P} {st : St} {dst : Option Nat} {K : St → Prop} {e : TypeId} {s x : AV} (h : appendN T st dst K e s x) : appendK T st dst K e s x := by
  unfold appendN at h
  unfold appendK
  split at h
  · rename_i te τ h1 h2
    simp only [h1, h2]
    split at h
    · rename_i hb
      have hb := Nat.eq_of_beq_eq_true hb
      rw [natF_eq] at h
      obtain ⟨p, l', m, hs, p', hp, h⟩ := srcN_imp h
      simp only [hs]
      split at h
      · simp only [natF_eq] at h; exact ⟨⟨hp h.vc.1, h.vc.2, hb⟩, h.k⟩
      · simp only [natF_eq] at h; exact ⟨⟨hp h.vc.1, h.vc.2, hb⟩, h.k⟩
      · rename_i id row idx esz fld len
        simp only
        split at h
        · rename_i τ' l hg
          simp only [hg]
          split at h
          · rename_i hz
            simp only [hz]
            obtain ⟨he, hK⟩ := castN_imp h
            subst he
            simp only [decEq_same]
            simp only [natF_eq, castL] at hK
            exact ⟨⟨hp hK.vc.1, hK.vc.2.1, hK.vc.2.2, hb⟩, by have := hK.k; simp only [castL, sliceOf_eq]; exact this⟩
          · exact h.elim
        · exact h.elim
      · exact h.elim
    · exact h.elim
  · exact h.elim

def copyN (T : Tab P) (st : St) (dst : Option Nat) (K : St → Prop) (e : TypeId) (d s : AV) : Prop :=
  match T.ty e, T.er e with
  | some te, some (.ty .int) => match Nat.beq te.size 1 with
    | true => srcN st.h .int s fun p l' m => match d with
      | .slice ⟨id, row, idx, esz, fld⟩ len => match getL st.h id, row, fld with
        | some (.arr false .int l), 0, 0 => match Nat.beq 1 esz with
          | true => VC (p ∧ idx + len ≤ l.length) (K (St.put ⟨st.t, setL st.h id (.arr false .int (copyL l idx (l'.take (Nat.min m len))))⟩ dst (.int .i64 (Nat.min m len : Nat))))
          | false => False
        | _, _, _ => False
      | _ => False
    | false => False
  | _, _ => False

theorem copyN_imp {T : Tab P} {st : St} {dst : Option Nat} {K : St → Prop} {e : TypeId} {d s : AV} (h : copyN T st dst K e d s) : copyK T st dst K e d s := by
  unfold copyN at h
  unfold copyK
  split at h
  · rename_i te h1 h2
    simp only [h1, h2]
    split at h
    · rename_i hb
      have hb := Nat.eq_of_beq_eq_true hb
      obtain ⟨p, l', m, hs, p', hp, h⟩ := srcN_imp h
      simp only [hs]
      split at h
      · rename_i id row idx esz fld len
        simp only
        split at h
        · rename_i l hg
          simp only [hg]
          split at h
          · rename_i hz
            simp only [hz]
            exact ⟨⟨hp h.vc.1, h.vc.2, hb⟩, h.k⟩
          · exact h.elim
        · exact h.elim
      · exact h.elim
    · exact h.elim
  · exact h.elim

/-- Operations with an effect, for the walk. -/
def effN (T : Tab P) (st : St) (o : Oper) (K : St → Prop) : Prop :=
  match o.op with
  | .alloc t => match T.ty t with
    | some ⟨.array n e, _, _, z⟩ => match T.er e, T.ty e with
      | some (.ty τ), some te => match eqSL (τ.enc τ.d) te.zero && Nat.beq te.size τ.n && eqSL z ((List.replicate n τ.d).flatMap τ.enc) with
        | true => natF τ.n fun m => newK st o.dst K (.arr false τ (List.replicate n τ.d)) fun N => .ptr ⟨N, 0, 0, m, 0⟩
        | false => False
      | _, _ => False
    | _ => effP T st o K
  | .box t x => match T.ty t with
    | some ⟨.struct _, n, _, _⟩ => match ev st.t x with
      | .agg vs => match Nat.beq vs.length n && vs.all AV.one with
        | true => newK st o.dst K (.arr false (.raw n) [vs]) fun N => .ptr ⟨N, 0, 0, n, 0⟩
        | false => False
      | _ => False
    | _ => effP T st o K
  | .buildSlice t n ps => match T.ty t with
    | some ⟨.slice e, _, _, _⟩ => match T.ty e, T.er e, partsV (ev st.t) 0 ps.toList with
      | some te, some (.ty τ), some l => match Nat.beq l.length n && Nat.ble (n * te.size) 16777216 && Nat.beq te.size τ.n with
        | true => decF τ l fun l => natF τ.n fun m => newK st o.dst K (.arr false τ l) fun N => .slice ⟨N, 0, 0, m, 0⟩ n
        | false => False
      | _, _, _ => False
    | _ => False
  | .makeSlice t l c => match T.ty t, ev st.t l, ev st.t c with
    | some ⟨.slice e, _, _, _⟩, .int .i64 n, .int .i64 m => VC (n = m) (makeN T st o.dst K e n)
    | _, _, _ => False
  | .store t p x => match T.ty t, ev st.t p with
    | some ti, .ptr a => storeN T st (fun s => K (s.put o.dst .undef)) ti a (ev st.t x)
    | _, _ => False
  | .call c => match c.callee with
    | .builtin .append => match c.args.toList, c.argTypes.toList with
      | [s, x], [t, t'] => match T.ty t, T.ty t' with
        | some ⟨.slice e, _, _, _⟩, some ⟨.slice _, _, _, _⟩ => appendN T st o.dst K e (ev st.t s) (ev st.t x)
        | _, _ => False
      | _, _ => False
    | .builtin .copy => match c.args.toList, c.argTypes.toList with
      | [s, x], [t, t'] => match T.ty t, T.ty t' with
        | some ⟨.slice e, _, _, _⟩, some ⟨.slice _, _, _, _⟩ => copyN T st o.dst K e (ev st.t s) (ev st.t x)
        | _, _ => False
      | _, _ => False
    | _ => effP T st o K
  | _ => effP T st o K

theorem effN_imp {T : Tab P} {st : St} {o : Oper} {K : St → Prop} (h : effN T st o K) : effP T st o K := by
  unfold effN at h
  split at h
  · rename_i t ho
    split at h
    · rename_i n e sz b z hty
      unfold effP
      simp only [ho, hty]
      split at h
      · rename_i τ te h1 h2
        simp only [h1, h2]
        split at h
        · rename_i hc
          simp only [Bool.and_eq_true] at hc
          rw [natF_eq] at h
          exact ⟨⟨eqSL_eq hc.1.1, Nat.eq_of_beq_eq_true hc.1.2, eqSL_eq hc.2⟩, h⟩
        · exact h.elim
      · exact h.elim
    · exact h
  · rename_i t x ho
    split at h
    · rename_i fs n b z hty
      unfold effP
      simp only [ho, hty]
      split at h
      · rename_i vs hv
        simp only [hv]
        split at h
        · rename_i hc
          simp only [Bool.and_eq_true] at hc
          exact ⟨⟨Nat.eq_of_beq_eq_true hc.1, hc.2⟩, h⟩
        · exact h.elim
      · exact h.elim
    · exact h
  · rename_i t n ps ho
    unfold effP
    simp only [ho]
    split at h
    · rename_i e sz b z hty
      simp only [hty]
      split at h
      · rename_i te τ l h1 h2 h3
        simp only [h1, h2, h3]
        split at h
        · rename_i hc
          simp only [Bool.and_eq_true] at hc
          obtain ⟨hK, hall⟩ := decF_imp τ l _ h
          rw [natF_eq] at hK
          exact ⟨⟨Nat.eq_of_beq_eq_true hc.1.1, Nat.le_of_ble_eq_true hc.1.2, Nat.eq_of_beq_eq_true hc.2, hall⟩, hK⟩
        · exact h.elim
      · exact h.elim
    · exact h.elim
  · rename_i t l c ho
    unfold effP
    simp only [ho]
    split at h
    · rename_i h1 h2 h3
      simp only [h1, h2, h3]
      exact ⟨h.vc, makeN_imp h.k⟩
    · exact h.elim
  · rename_i t p x ho
    unfold effP
    simp only [ho]
    split at h
    · rename_i h1 h2
      simp only [h1, h2]
      exact storeN_imp h
    · exact h.elim
  · rename_i c ho
    split at h
    · rename_i hc
      unfold effP
      simp only [ho, hc]
      split at h
      · rename_i h1 h2
        simp only [h1, h2]
        split at h
        · rename_i h3 h4
          simp only [h3, h4]
          exact appendN_imp h
        · exact h.elim
      · exact h.elim
    · rename_i hc
      unfold effP
      simp only [ho, hc]
      split at h
      · rename_i h1 h2
        simp only [h1, h2]
        split at h
        · rename_i h3 h4
          simp only [h3, h4]
          exact copyN_imp h
        · exact h.elim
      · exact h.elim
    · exact h
  · exact h
end YtnfcnocoehkgoaaAM
