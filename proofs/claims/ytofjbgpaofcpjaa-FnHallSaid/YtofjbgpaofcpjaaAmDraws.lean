/- Contracts that tell of a result only what it is like. -/
import Derived.Test.YtofjbgpaofcpjaaAmModels
import Derived.Test.YtofjbgpaofcpjaaAmRowApp
set_option linter.unusedVariables false
set_option linter.unusedSimpArgs false
namespace YtofjbgpaofcpjaaAM
open Go
variable {P : Program}

/-- Some value and heap of a row of them. -/
def Ex {ι : Type} (v : ι → AV) (H : ι → List AObj) (p : ι → Prop) (r : AV) (H' : List AObj) : Prop := ∃ i, p i ∧ r = v i ∧ H' = H i
theorem Ex.nv {ι : Type} {v : ι → AV} {H : ι → List AObj} {p : ι → Prop} (i : ι) (h : p i) : ∃ r H', Ex v H p r H' := ⟨_, _, i, h, rfl, rfl⟩
theorem ACall.useEx (l : List Nat) {f : FuncId} {args0 args : List AV} {Hs H : List AObj} {ι : Type} {v : ι → AV} {H1 : ι → List AObj} {p : ι → Prop} {K : AV → List AObj → Prop} (h : ACall P f args0 Hs (Ex v H1 p)) (ha : AV.renL (nameOf l) args0 = args) (hh : FitsL (nameOf l) Hs.length H l Hs)
    (hn : (Nat.beq l.length Hs.length && injB l Hs && ltAll H.length l && AV.bdL Hs.length args0) = true)
    (hK : ∀ i, p i → K ((v i).ren (extN (nameOf l) Hs.length H.length)) (mergeA (extN (nameOf l) Hs.length H.length) 0 Hs (H1 i) H)) : ACall P f args H K :=
  h.use l ha hh hn fun r Hs' ⟨i, hp, e1, e2⟩ => by subst e1; subst e2; exact hK i hp
theorem ACall.useEx3 (l : List Nat) {f : FuncId} {args0 args : List AV} {Hs H : List AObj} {α β γ : Type} {v : α × β × γ → AV} {H1 : α × β × γ → List AObj} {p : α × β × γ → Prop} {K : AV → List AObj → Prop} (h : ACall P f args0 Hs (Ex v H1 p)) (ha : AV.renL (nameOf l) args0 = args) (hh : FitsL (nameOf l) Hs.length H l Hs)
    (hn : (Nat.beq l.length Hs.length && injB l Hs && ltAll H.length l && AV.bdL Hs.length args0) = true)
    (hK : ∀ (x : α) (y : β) (z : γ), p (x, y, z) → K ((v (x, y, z)).ren (extN (nameOf l) Hs.length H.length)) (mergeA (extN (nameOf l) Hs.length H.length) 0 Hs (H1 (x, y, z)) H)) : ACall P f args H K :=
  h.useEx l ha hh hn fun i hp => hK i.1 i.2.1 i.2.2 hp
theorem Ret.ex (l : List Nat) {ι : Type} (i : ι) {n0 : Nat} {H : List AObj} {H1 : ι → List AObj} {w : AV} {v : ι → AV} {p : ι → Prop} (hp : p i) (hv : w = (v i).ren (nameOf l)) (hh : FitsL (nameOf l) (H1 i).length H l (H1 i))
    (hn : (Nat.ble n0 (H1 i).length && idB n0 0 l && Nat.beq l.length (H1 i).length && injB l (H1 i) && allWr (dropL n0 (H1 i)) && (v i).bd (H1 i).length) = true) : Ret n0 H w (Ex v H1 p) :=
  Ret.of l (v i) (H1 i) hv hh hn ⟨i, hp, rfl, rfl⟩

/-! ### The cursor -/
/-- Where a draw stands: how many bytes are drawn, and the seed. -/
structure Cu where
  at' : Nat
  seed : Int
def cur (k len : Nat) (c : Cu) : AObj := .arr false (.raw 3) [[.slice ⟨k, 0, 0, 1, 0⟩ len, .int .i64 c.at', .int .u64 c.seed]]
theorem ACall.useExC (l : List Nat) {f : FuncId} {args0 args : List AV} {Hs H : List AObj} {α : Type} {v : α × Cu → AV} {H1 : α × Cu → List AObj} {p : α × Cu → Prop} {K : AV → List AObj → Prop} (h : ACall P f args0 Hs (Ex v H1 p)) (ha : AV.renL (nameOf l) args0 = args) (hh : FitsL (nameOf l) Hs.length H l Hs)
    (hn : (Nat.beq l.length Hs.length && injB l Hs && ltAll H.length l && AV.bdL Hs.length args0) = true)
    (hK : ∀ (x : α) (a : Nat) (s : Int), p (x, ⟨a, s⟩) → K ((v (x, ⟨a, s⟩)).ren (extN (nameOf l) Hs.length H.length)) (mergeA (extN (nameOf l) Hs.length H.length) 0 Hs (H1 (x, ⟨a, s⟩)) H)) : ACall P f args H K :=
  h.useEx l ha hh hn fun i hp => hK i.1 i.2.at' i.2.seed hp
theorem sub_len0 {α : Type} (l : List α) : (sub l 0 l.length).length = l.length := by simp [sub]
theorem sub_len1 {α : Type} (x : α) : (sub [x] 0 1).length = 1 := rfl
/-- From here to there in at most m draws. -/
def Cu.to (c d : Cu) (m : Nat) : Prop := c.at' ≤ d.at' ∧ d.at' ≤ c.at' + m
theorem Cu.to.trans {a b c : Cu} {m n : Nat} (h : a.to b m) (k : b.to c n) : a.to c (m + n) := ⟨by have := h.1; have := k.1; omega, by have := h.2; have := k.2; omega⟩
theorem Cu.to.refl (a : Cu) (m : Nat) : a.to a m := ⟨Nat.le_refl _, Nat.le_add_right _ _⟩
theorem Cu.step (c : Cu) (s : Int) : c.to ⟨c.at' + 1, s⟩ 1 := ⟨Nat.le_succ _, Nat.le_refl _⟩
theorem and255 (x : Int) : 0 ≤ IntKind.wrap .u64 ((BitVec.ofInt IntKind.u64.bits x &&& BitVec.ofInt IntKind.u64.bits 255).toNat : Int) ∧ IntKind.wrap .u64 ((BitVec.ofInt IntKind.u64.bits x &&& BitVec.ofInt IntKind.u64.bits 255).toNat : Int) ≤ 255 := by
  have h : (BitVec.ofInt IntKind.u64.bits x &&& BitVec.ofInt IntKind.u64.bits 255).toNat ≤ 255 := by
    rw [BitVec.toNat_and]
    exact Nat.le_trans Nat.and_le_right (by decide)
  generalize (BitVec.ofInt IntKind.u64.bits x &&& BitVec.ofInt IntKind.u64.bits 255).toNat = n at h
  have : IntKind.wrap .u64 (n : Int) = n := by
    simp only [IntKind.wrap, IntKind.bits, IntKind.signed, Bool.false_and, Bool.false_eq_true, if_false]
    omega
  rw [this]; omega
theorem byte_at {code : List Int} (h : ∀ x ∈ code, 0 ≤ x ∧ x ≤ 255) (k : Nat) : 0 ≤ code.getD k 0 ∧ code.getD k 0 ≤ 255 := by
  rcases Nat.lt_or_ge k code.length with c | c
  · rw [getD_get c]; exact h _ (List.getElem_mem c)
  · rw [List.getD_eq_getElem?_getD, List.getElem?_eq_none c]; simp

def NextOk (c : Cu) (i : Int × Cu) : Prop := (0 ≤ i.1 ∧ i.1 ≤ 255) ∧ c.to i.2 1
def PickOk (c : Cu) (n : Int) (i : Int × Cu) : Prop := (0 ≤ i.1 ∧ (1 < n → i.1 < n) ∧ (n ≤ 1 → i.1 = 0)) ∧ c.to i.2 2
def OneOk (c : Cu) (i : Bool × Cu) : Prop := c.to i.2 2
def AmongOk (c : Cu) (l : List Int) (i : Int × Cu) : Prop := (∃ k, k < l.length ∧ i.1 = l.getD k 0) ∧ c.to i.2 2
theorem NextOk.zero (c : Cu) : NextOk c (0, c) := ⟨⟨Int.le_refl 0, (by decide : (0 : Int) ≤ 255)⟩, Cu.to.refl _ _⟩
theorem NextOk.byte {code : List Int} (h : ∀ x ∈ code, 0 ≤ x ∧ x ≤ 255) (c : Cu) (k : Nat) (s : Int) : NextOk c (code.getD k 0, ⟨c.at' + 1, s⟩) := ⟨byte_at h k, Cu.step c s⟩
theorem NextOk.low (c : Cu) (x s : Int) : NextOk c (IntKind.wrap .u64 ((BitVec.ofInt IntKind.u64.bits x &&& BitVec.ofInt IntKind.u64.bits 255).toNat : Int), ⟨c.at' + 1, s⟩) := ⟨and255 _, Cu.step c s⟩
theorem PickOk.zero (c : Cu) (n : Int) : PickOk c n (0, c) := ⟨⟨Int.le_refl 0, fun h => (Int.lt_trans (by decide) h : (0 : Int) < n), fun _ => rfl⟩, Cu.to.refl _ _⟩
theorem tmod_ok {x n : Int} (hx : 0 ≤ x) (hn : ¬ n ≤ 1) : 0 ≤ x.tmod n ∧ (1 < n → x.tmod n < n) ∧ (n ≤ 1 → x.tmod n = 0) := by
  rw [Int.tmod_eq_emod_of_nonneg hx]
  exact ⟨Int.emod_nonneg _ (by omega), fun _ => Int.emod_lt_of_pos _ (by omega), fun h => absurd h hn⟩
theorem PickOk.one {c : Cu} {n : Int} {i : Int × Cu} (h : NextOk c i) (hn : ¬ n ≤ 1) : PickOk c n (i.1.tmod n, i.2) :=
  ⟨tmod_ok h.1.1 hn, h.2.1, Nat.le_succ_of_le h.2.2⟩
theorem PickOk.two {c : Cu} {n : Int} {i j : Int × Cu} (h : NextOk c i) (k : NextOk i.2 j) (hn : ¬ n ≤ 1) : PickOk c n ((i.1 * 256 + j.1).tmod n, j.2) :=
  ⟨tmod_ok (by have := h.1.1; have := k.1.1; omega) hn, (h.2.trans k.2).1, (h.2.trans k.2).2⟩
theorem NextOk.le {c : Cu} {i : Int × Cu} (h : NextOk c i) {m : Nat} (hm : c.at' ≤ m) : i.2.at' ≤ m + 1 := by have := h.2.2; omega
theorem NextOk.in64 {c : Cu} {i : Int × Cu} (h : NextOk c i) : -9223372036854775808 ≤ i.1 * 256 ∧ i.1 * 256 ≤ 9223372036854775807 := by have := h.1; omega
theorem NextOk.in64' {c : Cu} {i j : Int × Cu} (h : NextOk c i) (k : NextOk i.2 j) : -9223372036854775808 ≤ i.1 * 256 + j.1 ∧ i.1 * 256 + j.1 ≤ 9223372036854775807 := by have := h.1; have := k.1; omega
theorem PickOk.two' {c d e : Cu} {n x y : Int} (h : NextOk c (x, d)) (k : NextOk d (y, e)) (hn : ¬ n ≤ 1) : PickOk c n ((x * 256 + y).tmod n, e) := PickOk.two (i := (x, d)) (j := (y, e)) h k hn
theorem NextOk.in64'' {c d e : Cu} {x y : Int} (h : NextOk c (x, d)) (k : NextOk d (y, e)) : -9223372036854775808 ≤ x * 256 + y ∧ x * 256 + y ≤ 9223372036854775807 := NextOk.in64' (i := (x, d)) (j := (y, e)) h k
theorem AmongOk.le {c d : Cu} {x : Int} {l : List Int} (h : AmongOk c l (x, d)) : c.at' ≤ d.at' ∧ d.at' ≤ c.at' + 2 := h.2
theorem OneOk.zero (c : Cu) : OneOk c (false, c) := Cu.to.refl _ _
theorem OneOk.of {c : Cu} {n : Int} {i : Int × Cu} (h : PickOk c n i) (b : Bool) : OneOk c (b, i.2) := h.2
theorem AmongOk.zero (c : Cu) {l : List Int} (h : 0 < l.length) : AmongOk c l (l.getD 0 0, c) := ⟨⟨0, h, rfl⟩, Cu.to.refl _ _⟩
theorem AmongOk.of {c : Cu} {l : List Int} {n : Int} (hl : 1 < l.length) (hn : n = l.length) {i : Int × Cu} (h : PickOk c n i) : AmongOk c l (l.getD i.1.toNat 0, i.2) :=
  ⟨⟨i.1.toNat, by have := h.1.2.1 (by omega); have := h.1.1; omega, rfl⟩, h.2⟩
theorem PickOk.rng {c : Cu} {n : Int} {i : Int × Cu} (h : PickOk c n i) (hn : 1 < n) : 0 ≤ i.1 ∧ i.1 < n := ⟨h.1.1, h.1.2.1 hn⟩
theorem PickOk.idx {c : Cu} {l : List Int} {n : Int} (hl : 1 < l.length) (hn : n = l.length) {i : Int × Cu} (h : PickOk c n i) : 0 ≤ i.1 ∧ i.1.toNat < l.length := by have := h.1.2.1 (by omega); have := h.1.1; omega

/-! ### A sum that may wrap -/
def addWN (T : Tab P) (o : Oper) (tl : List (Nat × AV)) (H : List AObj) (k : List (Nat × AV) → List AObj → Prop) : Prop :=
  match o.op, o.guard, o.dst with
  | .binOp .add t x y _, none, some d => match T.ty t, ev (lkp tl) x, ev (lkp tl) y with
    | some ⟨.int .i64, _, _, _⟩, .int .i64 a, .int .i64 b => k ((d, .int .i64 (IntKind.wrap .i64 (a + b))) :: tl) H
    | _, _, _ => False
  | _, _, _ => False
theorem XGoal.addW {T : Tab P} {n : Nat} {ops : List Oper} {o : Oper} {rest : List Oper} {K : St → Prop} {tl : List (Nat × AV)} {H : List AObj} (hd : dstOk n o = true) (h : addWN T o tl H fun tl H => XGoal P T n ops rest K (St.of tl H)) :
    XGoal P T n ops (o :: rest) K (St.of tl H) := by
  obtain ⟨dst, op, ty, pos, after, guard⟩ := o
  unfold addWN at h
  simp only at h
  split at h
  · rename_i t x y yt d
    split at h
    · rename_i sz bt zr a b hty hx hy
      refine XGoal.one (fun cx ρ ac w hn hs => ?_) rfl
      have hrx := ev_rel hs x
      have hry := ev_rel hs y
      have e1 : ev (St.of tl H).t x = ev (lkp tl) x := rfl
      have e2 : ev (St.of tl H).t y = ev (lkp tl) y := rfl
      rw [e1, hx] at hrx
      rw [e2, hy] at hry
      have hux : ac.eval x = .int .i64 a := by cases hu : ac.eval x <;> rw [hu] at hrx <;> cases hrx; rfl
      have huy : ac.eval y = .int .i64 b := by cases hu : ac.eval y <;> rw [hu] at hry <;> cases hry; rfl
      have hdn : d < cx.n := by rw [hn]; exact dstOk_spec hd d rfl
      have hg := eqGuard_plain (P := P) (w := w) .add t x y (u := .int .i64 a) (u' := .int .i64 b) (.inl ⟨_, _, rfl⟩)
      have hS3 := hs.put (some d) (fun k hk => by cases hk; exact hdn) (v := .int .i64 (IntKind.wrap .i64 (a + b))) (u := .int .i64 (IntKind.wrap .i64 (a + b))) (.int _ _)
      refine ⟨St.of ((d, .int .i64 (IntKind.wrap .i64 (a + b))) :: tl) H, _, _, _, h, by rw [St.of_cons]; exact hS3, ?_⟩
      show (do pure (Next.value (← (do eqGuard .add t x y (ac.eval x) (ac.eval y); binOp .add t (ac.eval x) (ac.eval y) : Sem Value))) : Sem Next).run P w = _
      rw [hux, huy]
      simp [hg, binOp, Op.intArith]
    · exact h.elim
  · exact h.elim
end YtofjbgpaofcpjaaAM
