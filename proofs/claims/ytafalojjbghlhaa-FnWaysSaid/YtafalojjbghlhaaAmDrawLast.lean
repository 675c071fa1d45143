import Derived.Test.YtafalojjbghlhaaAmModels
import Derived.Test.YtafalojjbghlhaaAmRowApp
section
/- Contracts that tell of a result only what it is like. -/
set_option linter.unusedVariables false
set_option linter.unusedSimpArgs false
namespace YtafalojjbghlhaaAM
open Go
variable {P : Program}

/-- Some value and heap of a row of them. -/
def Ex {ι : Type} (v : ι → AV) (H : ι → List AObj) (p : ι → Prop) (r : AV) (H' : List AObj) : Prop := ∃ i, p i ∧ r = v i ∧ H' = H i
theorem Ex.nv {ι : Type} {v : ι → AV} {H : ι → List AObj} {p : ι → Prop} (i : ι) (h : p i) : ∃ r H', Ex v H p r H' := ⟨_, _, i, h, rfl, rfl⟩
theorem ACall.useEx (l : List Nat) {f : FuncId} {args0 args : List AV} {Hs H : List AObj} {ι : Type} {v : ι → AV} {H1 : ι → List AObj} {p : ι → Prop} {K : AV → List AObj → Prop} (h : ACall P f args0 Hs (Ex v H1 p)) (ha : AV.renL (nameOf l) args0 = args) (hh : FitsL (nameOf l) Hs.length H l Hs)
    (hn : (Nat.beq l.length Hs.length && injB l Hs && ltAll H.length l && AV.bdL Hs.length args0) = true)
    (hK : ∀ i, p i → K ((v i).ren (extN (nameOf l) Hs.length H.length)) (mergeA (extN (nameOf l) Hs.length H.length) 0 Hs (H1 i) H)) : ACall P f args H K :=
  h.use l ha hh hn fun r Hs' ⟨i, hp, e1, e2⟩ => by subst e1; subst e2; exact hK i hp
theorem ACall.useEx3 (l : List Nat) {f : FuncId} {args0 args : List AV} {Hs H : List AObj} {α β γ : Type} {v : α × β × γ → AV} {H1 : α × β × γ → List AObj} {p : α × β × γ → Prop} {K : AV → List AObj → Prop} (h : ACall P f args0 Hs (Ex v H1 p)) (ha : AV.renL (nameOf l) args0 = args) (hh : FitsL (nameOf l) Hs.length H l Hs)
    (hn : (Nat.beq l.length Hs.length && injB l Hs && ltAll H.length l && AV.bdL Hs.length args0) = true)
    (hK : ∀ (x : α) (y : β) (z : γ), p (x, y, z) → K ((v (x, y, z)).ren (extN (nameOf l) Hs.length H.length)) (mergeA (extN (nameOf l) Hs.length H.length) 0 Hs (H1 (x, y, z)) H)) : ACall P f args H K :=
  h.useEx l ha hh hn fun i hp => hK i.1 i.2.1 i.2.2 hp
theorem Ret.ex (l : List Nat) {ι : Type} (i : ι) {n0 : Nat} {H : List AObj} {H1 : ι → List AObj} {w : AV} {v : ι → AV} {p : ι → Prop} (hp : p i) (hv : w = (v i).ren (nameOf l)) (hh : FitsL (nameOf l) (H1 i).length H l (H1 i))
    (hn : (Nat.ble n0 (H1 i).length && idB n0 0 l && Nat.beq l.length (H1 i).length && injB l (H1 i) && allWr (dropL n0 (H1 i)) && (v i).bd (H1 i).length) = true) : Ret n0 H w (Ex v H1 p) :=
  Ret.of l (v i) (H1 i) hv hh hn ⟨i, hp, rfl, rfl⟩

/-! ### The cursor -/
/-- Where a draw stands: how many bytes are drawn, and the seed. -/
structure Cu where
  at' : Nat
  seed : Int
def cur (k len : Nat) (c : Cu) : AObj := .arr false (.raw 3) [[.slice ⟨k, 0, 0, 1, 0⟩ len, .int .i64 c.at', .int .u64 c.seed]]
theorem ACall.useExC (l : List Nat) {f : FuncId} {args0 args : List AV} {Hs H : List AObj} {α : Type} {v : α × Cu → AV} {H1 : α × Cu → List AObj} {p : α × Cu → Prop} {K : AV → List AObj → Prop} (h : ACall P f args0 Hs (Ex v H1 p)) (ha : AV.renL (nameOf l) args0 = args) (hh : FitsL (nameOf l) Hs.length H l Hs)
    (hn : (Nat.beq l.length Hs.length && injB l Hs && ltAll H.length l && AV.bdL Hs.length args0) = true)
    (hK : ∀ (x : α) (a : Nat) (s : Int), p (x, ⟨a, s⟩) → K ((v (x, ⟨a, s⟩)).ren (extN (nameOf l) Hs.length H.length)) (mergeA (extN (nameOf l) Hs.length H.length) 0 Hs (H1 (x, ⟨a, s⟩)) H)) : ACall P f args H K :=
  h.useEx l ha hh hn fun i hp => hK i.1 i.2.at' i.2.seed hp
theorem sub_len0 {α : Type} (l : List α) : (sub l 0 l.length).length = l.length := by simp [sub]
theorem sub_len1 {α : Type} (x : α) : (sub [x] 0 1).length = 1 := rfl
/-- From here to there in at most m draws. -/
def Cu.to (c d : Cu) (m : Nat) : Prop := c.at' ≤ d.at' ∧ d.at' ≤ c.at' + m
theorem Cu.to.trans {a b c : Cu} {m n : Nat} (h : a.to b m) (k : b.to c n) : a.to c (m + n) := ⟨by have := h.1; have := k.1; omega, by have := h.2; have := k.2; omega⟩
theorem Cu.to.refl (a : Cu) (m : Nat) : a.to a m := ⟨Nat.le_refl _, Nat.le_add_right _ _⟩
theorem Cu.step (c : Cu) (s : Int) : c.to ⟨c.at' + 1, s⟩ 1 := ⟨Nat.le_succ _, Nat.le_refl _⟩
theorem and255 (x : Int) : 0 ≤ IntKind.wrap .u64 ((BitVec.ofInt IntKind.u64.bits x &&& BitVec.ofInt IntKind.u64.bits 255).toNat : Int) ∧ IntKind.wrap .u64 ((BitVec.ofInt IntKind.u64.bits x &&& BitVec.ofInt IntKind.u64.bits 255).toNat : Int) ≤ 255 := by
  have h : (BitVec.ofInt IntKind.u64.bits x &&& BitVec.ofInt IntKind.u64.bits 255).toNat ≤ 255 := by
    rw [BitVec.toNat_and]
    exact Nat.le_trans Nat.and_le_right (by decide)
  generalize (BitVec.ofInt IntKind.u64.bits x &&& BitVec.ofInt IntKind.u64.bits 255).toNat = n at h
  have : IntKind.wrap .u64 (n : Int) = n := by
    simp only [IntKind.wrap, IntKind.bits, IntKind.signed, Bool.false_and, Bool.false_eq_true, if_false]
    omega
  rw [this]; omega
theorem byte_at {code : List Int} (h : ∀ x ∈ code, 0 ≤ x ∧ x ≤ 255) (k : Nat) : 0 ≤ code.getD k 0 ∧ code.getD k 0 ≤ 255 := by
  rcases Nat.lt_or_ge k code.length with c | c
  · rw [getD_get c]; exact h _ (List.getElem_mem c)
  · rw [List.getD_eq_getElem?_getD, List.getElem?_eq_none c]; simp

def NextOk (c : Cu) (i : Int × Cu) : Prop := (0 ≤ i.1 ∧ i.1 ≤ 255) ∧ c.to i.2 1
def PickOk (c : Cu) (n : Int) (i : Int × Cu) : Prop := (0 ≤ i.1 ∧ (1 < n → i.1 < n) ∧ (n ≤ 1 → i.1 = 0)) ∧ c.to i.2 2
def OneOk (c : Cu) (i : Bool × Cu) : Prop := c.to i.2 2
def AmongOk (c : Cu) (l : List Int) (i : Int × Cu) : Prop := (∃ k, k < l.length ∧ i.1 = l.getD k 0) ∧ c.to i.2 2
theorem NextOk.zero (c : Cu) : NextOk c (0, c) := ⟨⟨Int.le_refl 0, (by decide : (0 : Int) ≤ 255)⟩, Cu.to.refl _ _⟩
theorem NextOk.byte {code : List Int} (h : ∀ x ∈ code, 0 ≤ x ∧ x ≤ 255) (c : Cu) (k : Nat) (s : Int) : NextOk c (code.getD k 0, ⟨c.at' + 1, s⟩) := ⟨byte_at h k, Cu.step c s⟩
theorem NextOk.low (c : Cu) (x s : Int) : NextOk c (IntKind.wrap .u64 ((BitVec.ofInt IntKind.u64.bits x &&& BitVec.ofInt IntKind.u64.bits 255).toNat : Int), ⟨c.at' + 1, s⟩) := ⟨and255 _, Cu.step c s⟩
theorem PickOk.zero (c : Cu) (n : Int) : PickOk c n (0, c) := ⟨⟨Int.le_refl 0, fun h => (Int.lt_trans (by decide) h : (0 : Int) < n), fun _ => rfl⟩, Cu.to.refl _ _⟩
theorem tmod_ok {x n : Int} (hx : 0 ≤ x) (hn : ¬ n ≤ 1) : 0 ≤ x.tmod n ∧ (1 < n → x.tmod n < n) ∧ (n ≤ 1 → x.tmod n = 0) := by
  rw [Int.tmod_eq_emod_of_nonneg hx]
  exact ⟨Int.emod_nonneg _ (by omega), fun _ => Int.emod_lt_of_pos _ (by omega), fun h => absurd h hn⟩
theorem PickOk.one {c : Cu} {n : Int} {i : Int × Cu} (h : NextOk c i) (hn : ¬ n ≤ 1) : PickOk c n (i.1.tmod n, i.2) :=
  ⟨tmod_ok h.1.1 hn, h.2.1, Nat.le_succ_of_le h.2.2⟩
theorem PickOk.two {c : Cu} {n : Int} {i j : Int × Cu} (h : NextOk c i) (k : NextOk i.2 j) (hn : ¬ n ≤ 1) : PickOk c n ((i.1 * 256 + j.1).tmod n, j.2) :=
  ⟨tmod_ok (by have := h.1.1; have := k.1.1; omega) hn, (h.2.trans k.2).1, (h.2.trans k.2).2⟩
theorem NextOk.le {c : Cu} {i : Int × Cu} (h : NextOk c i) {m : Nat} (hm : c.at' ≤ m) : i.2.at' ≤ m + 1 := by have := h.2.2; omega
theorem NextOk.in64 {c : Cu} {i : Int × Cu} (h : NextOk c i) : -9223372036854775808 ≤ i.1 * 256 ∧ i.1 * 256 ≤ 9223372036854775807 := by have := h.1; omega
theorem NextOk.in64' {c : Cu} {i j : Int × Cu} (h : NextOk c i) (k : NextOk i.2 j) : -9223372036854775808 ≤ i.1 * 256 + j.1 ∧ i.1 * 256 + j.1 ≤ 9223372036854775807 := by have := h.1; have := k.1; omega
theorem PickOk.two' {c d e : Cu} {n x y : Int} (h : NextOk c (x, d)) (k : NextOk d (y, e)) (hn : ¬ n ≤ 1) : PickOk c n ((x * 256 + y).tmod n, e) := PickOk.two (i := (x, d)) (j := (y, e)) h k hn
theorem NextOk.in64'' {c d e : Cu} {x y : Int} (h : NextOk c (x, d)) (k : NextOk d (y, e)) : -9223372036854775808 ≤ x * 256 + y ∧ x * 256 + y ≤ 9223372036854775807 := NextOk.in64' (i := (x, d)) (j := (y, e)) h k
theorem AmongOk.le {c d : Cu} {x : Int} {l : List Int} (h : AmongOk c l (x, d)) : c.at' ≤ d.at' ∧ d.at' ≤ c.at' + 2 := h.2
theorem OneOk.zero (c : Cu) : OneOk c (false, c) := Cu.to.refl _ _
theorem OneOk.of {c : Cu} {n : Int} {i : Int × Cu} (h : PickOk c n i) (b : Bool) : OneOk c (b, i.2) := h.2
theorem AmongOk.zero (c : Cu) {l : List Int} (h : 0 < l.length) : AmongOk c l (l.getD 0 0, c) := ⟨⟨0, h, rfl⟩, Cu.to.refl _ _⟩
theorem AmongOk.of {c : Cu} {l : List Int} {n : Int} (hl : 1 < l.length) (hn : n = l.length) {i : Int × Cu} (h : PickOk c n i) : AmongOk c l (l.getD i.1.toNat 0, i.2) :=
  ⟨⟨i.1.toNat, by have := h.1.2.1 (by omega); have := h.1.1; omega, rfl⟩, h.2⟩
theorem PickOk.rng {c : Cu} {n : Int} {i : Int × Cu} (h : PickOk c n i) (hn : 1 < n) : 0 ≤ i.1 ∧ i.1 < n := ⟨h.1.1, h.1.2.1 hn⟩
theorem PickOk.idx {c : Cu} {l : List Int} {n : Int} (hl : 1 < l.length) (hn : n = l.length) {i : Int × Cu} (h : PickOk c n i) : 0 ≤ i.1 ∧ i.1.toNat < l.length := by have := h.1.2.1 (by omega); have := h.1.1; omega

/-! ### A sum that may wrap -/
def addWN (T : Tab P) (o : Oper) (tl : List (Nat × AV)) (H : List AObj) (k : List (Nat × AV) → List AObj → Prop) : Prop :=
  match o.op, o.guard, o.dst with
  | .binOp .add t x y _, none, some d => match T.ty t, ev (lkp tl) x, ev (lkp tl) y with
    | some ⟨.int .i64, _, _, _⟩, .int .i64 a, .int .i64 b => k ((d, .int .i64 (IntKind.wrap .i64 (a + b))) :: tl) H
    | _, _, _ => False
  | _, _, _ => False
theorem XGoal.addW {T : Tab P} {n : Nat} {ops : List Oper} {o : Oper} {rest : List Oper} {K : St → Prop} {tl : List (Nat × AV)} {H : List AObj} (hd : dstOk n o = true) (h : addWN T o tl H fun tl H => XGoal P T n ops rest K (St.of tl H)) :
    XGoal P T n ops (o :: rest) K (St.of tl H) := by
  obtain ⟨dst, op, ty, pos, after, guard⟩ := o
  unfold addWN at h
  simp only at h
  split at h
  · rename_i t x y yt d
    split at h
    · rename_i sz bt zr a b hty hx hy
      refine XGoal.one (fun cx ρ ac w hn hs => ?_) rfl
      have hrx := ev_rel hs x
      have hry := ev_rel hs y
      have e1 : ev (St.of tl H).t x = ev (lkp tl) x := rfl
      have e2 : ev (St.of tl H).t y = ev (lkp tl) y := rfl
      rw [e1, hx] at hrx
      rw [e2, hy] at hry
      have hux : ac.eval x = .int .i64 a := by cases hu : ac.eval x <;> rw [hu] at hrx <;> cases hrx; rfl
      have huy : ac.eval y = .int .i64 b := by cases hu : ac.eval y <;> rw [hu] at hry <;> cases hry; rfl
      have hdn : d < cx.n := by rw [hn]; exact dstOk_spec hd d rfl
      have hg := eqGuard_plain (P := P) (w := w) .add t x y (u := .int .i64 a) (u' := .int .i64 b) (.inl ⟨_, _, rfl⟩)
      have hS3 := hs.put (some d) (fun k hk => by cases hk; exact hdn) (v := .int .i64 (IntKind.wrap .i64 (a + b))) (u := .int .i64 (IntKind.wrap .i64 (a + b))) (.int _ _)
      refine ⟨St.of ((d, .int .i64 (IntKind.wrap .i64 (a + b))) :: tl) H, _, _, _, h, by rw [St.of_cons]; exact hS3, ?_⟩
      show (do pure (Next.value (← (do eqGuard .add t x y (ac.eval x) (ac.eval y); binOp .add t (ac.eval x) (ac.eval y) : Sem Value))) : Sem Next).run P w = _
      rw [hux, huy]
      simp [hg, binOp, Op.intArith]
    · exact h.elim
  · exact h.elim
end YtafalojjbghlhaaAM
end
section
/- A text cut in two parts. -/
set_option linter.unusedVariables false
set_option linter.unusedSimpArgs false
namespace YtafalojjbghlhaaAM
open Go
variable {P : Program}

/-- Two parts of a text, with a state told anew between them. -/
theorem AWP.seqTo {n n0 : Nat} {x y : Code} {Q : Exit → St → Prop} {st : St} {ι : Type} (I : ι → St) (G : ι → Prop) (h : AWP P n n0 x (thenQ (fun s => ∃ i f, G i ∧ Weak n0 f s (I i)) Q) st) (hy : ∀ i, G i → AWP P n n0 y Q (I i)) : AWP P n n0 (.seq x y) Q st := by
  refine AWP.seq (h.mono fun e s hs => ?_)
  cases e with
  | normal =>
    obtain ⟨i, f, h1, h2⟩ := hs
    exact ⟨fun cx ρ a w e1 e2 hsim => by
      subst e2
      exact (hy i h1).run cx _ a w e1 rfl (hsim.weak h2)⟩
  | _ => exact hs
end YtafalojjbghlhaaAM
end
section
/- Draws that hand back a pair, or more. -/
set_option linter.unusedVariables false
set_option linter.unusedSimpArgs false
namespace YtafalojjbghlhaaAM
open Go
variable {P : Program}
theorem ACall.useEx2 (l : List Nat) {f : FuncId} {args0 args : List AV} {Hs H : List AObj} {α β : Type} {v : α × β → AV} {H1 : α × β → List AObj} {p : α × β → Prop} {K : AV → List AObj → Prop} (h : ACall P f args0 Hs (Ex v H1 p)) (ha : AV.renL (nameOf l) args0 = args) (hh : FitsL (nameOf l) Hs.length H l Hs)
    (hn : (Nat.beq l.length Hs.length && injB l Hs && ltAll H.length l && AV.bdL Hs.length args0) = true)
    (hK : ∀ (x : α) (y : β), p (x, y) → K ((v (x, y)).ren (extN (nameOf l) Hs.length H.length)) (mergeA (extN (nameOf l) Hs.length H.length) 0 Hs (H1 (x, y)) H)) : ACall P f args H K :=
  h.useEx l ha hh hn fun i hp => hK i.1 i.2 hp
theorem ACall.useEx4 (l : List Nat) {f : FuncId} {args0 args : List AV} {Hs H : List AObj} {α β γ δ : Type} {v : α × β × γ × δ → AV} {H1 : α × β × γ × δ → List AObj} {p : α × β × γ × δ → Prop} {K : AV → List AObj → Prop} (h : ACall P f args0 Hs (Ex v H1 p)) (ha : AV.renL (nameOf l) args0 = args) (hh : FitsL (nameOf l) Hs.length H l Hs)
    (hn : (Nat.beq l.length Hs.length && injB l Hs && ltAll H.length l && AV.bdL Hs.length args0) = true)
    (hK : ∀ (x : α) (y : β) (z : γ) (u : δ), p (x, y, z, u) → K ((v (x, y, z, u)).ren (extN (nameOf l) Hs.length H.length)) (mergeA (extN (nameOf l) Hs.length H.length) 0 Hs (H1 (x, y, z, u)) H)) : ACall P f args H K :=
  h.useEx l ha hh hn fun i hp => hK i.1 i.2.1 i.2.2.1 i.2.2.2 hp
theorem boolSplit {G : Prop} (b : Bool) (h1 : b = true → G) (h2 : b = false → G) : G := by cases h : b; exact h2 h; exact h1 h
end YtafalojjbghlhaaAM
end
section
/- A region whose orders are open, but for its last operations. -/
set_option linter.unusedVariables false
set_option linter.unusedSimpArgs false
namespace YtafalojjbghlhaaAM
open Go
variable {P : Program}
/-- From number c on each operation stands behind all that stand before it. -/
def ordOkL (c : Nat) (free : Bool) (ops : List Oper) (masks : List Nat) : Bool :=
  (List.range ops.length).all fun j => (List.range j).all fun i =>
    match ops[i]?, ops[j]? with
    | some x, some y => (Nat.blt j c && noConf free ops x y) || (masks.getD j 0).testBit i
    | _, _ => true
def drawOkL (c : Nat) (free : Bool) (n : Nat) (ops : List Oper) : Bool := ops.all (dstOk n) && edgesOk ops && ordOkL c free ops (befs ops [])

section
variable {T : Tab P} {cx : Cx} {Q : Exit → Act → World → Prop} {K : St → Prop} {ops : Array Oper} {ids : Option (List Nat)}
def lo (c : Nat) (l : List Nat) : List Nat := l.filter fun i => decide (i < c)
def hi (c : Nat) (l : List Nat) : List Nat := l.filter fun i => !decide (i < c)
theorem any_soundL {md : Region.Mode} (c : Nat) (hsome : ∀ listed : Array Bool, listed.size = ops.size → Region.ready md ops listed = [] → unl ops listed = []) (hchk : drawOkL c ids.isSome cx.n ops.toList = true) (hn : ∀ st' ρ' a' w', K st' → Sim cx ρ' st' a' w' → Q .normal a' w') :
    ∀ (fuel : Nat) (listed : Array Bool) (st : St) (ρ : Ren) (a : Act) (w : World), listed.size = ops.size → (unl ops listed).length ≤ fuel →
      (∀ (k : Nat) (o : Oper) (e : Edge), listed.getD k false = true → ops[k]? = some o → e ∈ o.after.toList → Region.binds .any e = true → listed.getD e.on false = true) →
      listS T ids ops.toList ((lo c (unl ops listed)).filterMap (ops[·]?)) (listS T none ops.toList ((hi c (unl ops listed)).filterMap (ops[·]?)) K) st → Sim cx ρ st a w → wpAny P md ops Q fuel listed a w := by
  simp only [drawOkL, Bool.and_eq_true] at hchk
  obtain ⟨⟨hd, he⟩, ho⟩ := hchk
  have hedge : ∀ (j : Nat) (o : Oper) (e : Edge), ops[j]? = some o → e ∈ o.after.toList → Region.binds .any e = true → e.on < j := fun j o e hj hm hb => by
    have hlt : j < ops.size := by have := (Array.getElem?_eq_some_iff.1 hj).1; exact this
    have := List.all_eq_true.1 he j (by simpa using hlt)
    rw [Array.getElem?_toList, hj] at this
    have := List.all_eq_true.1 this e hm
    rw [hb] at this
    simpa [Nat.blt_eq] using this
  have hord : ∀ (i j : Nat) (x y : Oper), i < j → ops[i]? = some x → ops[j]? = some y → (j < c ∧ noConf ids.isSome ops.toList x y = true) ∨ Anc ops.toList i j := fun i j x y hij hx hy => by
    have hlt : j < ops.size := (Array.getElem?_eq_some_iff.1 hy).1
    have := List.all_eq_true.1 (List.all_eq_true.1 ho j (by simpa using hlt)) i (by simpa using hij)
    simp only [Array.getElem?_toList, hx, hy, Bool.or_eq_true, Bool.and_eq_true, Nat.blt_eq] at this
    rcases this with h | h
    · exact .inl h
    · right
      cases hq : (befs ops.toList [])[j]? with
      | none => rw [List.getD_eq_getElem?_getD, hq] at h; simp at h
      | some m =>
        rw [List.getD_eq_getElem?_getD, hq] at h
        exact befs_spec ops.toList [] (fun k => by simp) (fun k m h => by simp at h) j m hq i h
  have hanc : ∀ (listed : Array Bool), (∀ (k : Nat) (o : Oper) (e : Edge), listed.getD k false = true → ops[k]? = some o → e ∈ o.after.toList → Region.binds .any e = true → listed.getD e.on false = true) →
      ∀ i j, Anc ops.toList i j → (∀ (o : Oper) (e : Edge), ops[j]? = some o → e ∈ o.after.toList → Region.binds .any e = true → listed.getD e.on false = true) → listed.getD i false = true := fun listed hcl i j h => by
    induction h with
    | one ho he hb hj => intro h0; rw [← hj]; exact h0 _ _ (by rw [← Array.getElem?_toList]; exact ho) he hb
    | more ho he hb h ih =>
      intro h0
      have h1 := h0 _ _ (by rw [← Array.getElem?_toList]; exact ho) he hb
      exact ih fun o e ho' he' hb' => hcl _ o e h1 ho' he' hb'
  have hgd : ∀ (listed : Array Bool) (k : Nat), listed.getD k true = false → listed.getD k false = false := fun listed k h => by
    simp only [Array.getD_eq_getD_getElem?] at h ⊢
    cases hq : listed[k]? with
    | none => rfl
    | some b => rw [hq] at h; simpa using h
  have hready : ∀ (listed : Array Bool) (i : Nat), i ∈ Region.ready md ops listed ↔ (i ∈ unl ops listed ∧ ∃ o, ops[i]? = some o ∧ ∀ e ∈ o.after.toList, Region.binds md e = true → listed.getD e.on false = true) := fun listed i => by
    simp only [Region.ready, List.mem_filter, List.mem_range, Bool.and_eq_true, Bool.not_eq_true', mem_unl]
    constructor
    · rintro ⟨h1, h2, h3⟩
      cases hq : ops[i]? with
      | none => rw [hq] at h3; cases h3
      | some o =>
        rw [hq] at h3
        refine ⟨⟨h1, h2⟩, o, rfl, fun e he hb => ?_⟩
        simp only [Option.map_some, Option.getD_some, ← Array.all_toList] at h3
        have := List.all_eq_true.1 h3 e he
        rw [hb] at this; simpa using this
    · rintro ⟨⟨h1, h2⟩, o, hq, h3⟩
      refine ⟨h1, h2, ?_⟩
      rw [hq]
      simp only [Option.map_some, Option.getD_some, ← Array.all_toList]
      refine List.all_eq_true.2 fun e he => ?_
      cases hb : Region.binds md e with
      | false => rfl
      | true => rw [h3 e he hb]; rfl
  intro fuel
  induction fuel with
  | zero =>
    intro listed st ρ a w hsz hfuel hcl hK hS
    have hu : unl ops listed = [] := List.eq_nil_of_length_eq_zero (by omega)
    refine ⟨?_, ?_⟩
    · cases hr : Region.ready md ops listed with
      | nil => rfl
      | cons i rest =>
        have := ((hready listed i).1 (by rw [hr]; simp)).1
        rw [hu] at this; cases this
    · rw [hu] at hK
      exact hn st ρ a w hK hS
  | succ fuel ih =>
    intro listed st ρ a w hsz hfuel hcl hK hS
    refine ⟨fun hr => ?_, fun i hi' => ?_⟩
    · rw [hsome listed hsz hr] at hK
      exact hn st ρ a w hK hS
    · obtain ⟨hiu, o, ho, haft0⟩ := (hready listed i).1 hi'
      have haft : ∀ e ∈ o.after.toList, Region.binds .any e = true → listed.getD e.on false = true := fun e he hb => haft0 e he (binds_any hb md)
      obtain ⟨pre, post, h1, h2, h3⟩ := unl_set hsz hiu
      have hnoanc : ∀ j ∈ pre, ¬ Anc ops.toList j i := fun j hj h => by
        have hju : j ∈ unl ops listed := by rw [h1]; simp [hj]
        have := hanc listed hcl j i h (fun o' e ho' he' hb' => by rw [ho] at ho'; cases ho'; exact haft e he' hb')
        rw [hgd listed j (mem_unl.1 hju).2] at this; cases this
      have hpre : ∀ j ∈ pre, ∃ y, ops[j]? = some y ∧ (i < c ∧ noConf ids.isSome ops.toList y o = true) := fun j hj => by
        have hju : j ∈ unl ops listed := by rw [h1]; simp [hj]
        have hjl := (mem_unl.1 hju).1
        refine ⟨ops[j], Array.getElem?_eq_getElem hjl, ?_⟩
        rcases hord j i ops[j] o (h3 j hj) (Array.getElem?_eq_getElem hjl) ho with h | h
        · exact h
        · exact absurd h (hnoanc j hj)
      have hdst : dstOk cx.n o = true := List.all_eq_true.1 hd o (by
        have := List.mem_of_getElem? (l := ops.toList) (i := i) (a := o) (by rw [Array.getElem?_toList]; exact ho); exact this)
      have hlen : (unl ops (listed.setIfInBounds i true)).length ≤ fuel := by
        rw [h2]; rw [h1] at hfuel; simp only [List.length_append, List.length_cons] at hfuel ⊢; omega
      have hcl2 : ∀ (k : Nat) (o : Oper) (e : Edge), (listed.setIfInBounds i true).getD k false = true → ops[k]? = some o → e ∈ o.after.toList → Region.binds .any e = true → (listed.setIfInBounds i true).getD e.on false = true := by
        intro k o' e hk' ho' he' hb'
        by_cases hki : k = i
        · subst hki
          rw [ho] at ho'; cases ho'
          have := haft e he' hb'
          have hlt := hedge k _ e ho he' hb'
          simp only [Array.getD_eq_getD_getElem?, Array.getElem?_setIfInBounds] at this ⊢
          rw [if_neg (by omega)]; exact this
        · have hk0 : listed.getD k false = true := by
            simp only [Array.getD_eq_getD_getElem?, Array.getElem?_setIfInBounds] at hk' ⊢
            rw [if_neg (Ne.symm hki)] at hk'; exact hk'
          have := hcl k o' e hk0 ho' he' hb'
          simp only [Array.getD_eq_getD_getElem?, Array.getElem?_setIfInBounds] at this ⊢
          by_cases he2 : i = e.on
          · rw [if_pos he2]
            have : i < listed.size := by rw [hsz]; exact (mem_unl.1 hiu).1
            rw [if_pos this]; rfl
          · rw [if_neg he2]; exact this
      unfold wpOp
      rw [ho]
      simp only
      by_cases hic : i < c
      · have e1 : lo c (unl ops listed) = lo c pre ++ i :: lo c post := by rw [h1]; unfold lo; rw [List.filter_append, List.filter_cons, decide_eq_true hic]; rfl
        have e2 : hi c (unl ops listed) = hi c pre ++ hi c post := by rw [h1]; unfold hi; rw [List.filter_append, List.filter_cons, decide_eq_true hic]; rfl
        rw [e1, List.filterMap_append, List.filterMap_cons, ho] at hK
        have hfront := to_front _ _ _ (fun y hy => by
          obtain ⟨j, hj, hjy⟩ := List.mem_filterMap.1 hy
          obtain ⟨y', hy', hc'⟩ := hpre j (List.mem_filter.1 hj).1
          rw [hy'] at hjy; cases hjy
          exact hc'.2) hK
        refine gstep_sound hS hdst hfront.k Q _ (fun st' ρ' a' w' hk hs => ?_)
        refine ih (listed.setIfInBounds i true) st' ρ' a' w' (by simpa using hsz) hlen hcl2 ?_ hs
        have e3 : lo c (pre ++ post) = lo c pre ++ lo c post := by unfold lo; rw [List.filter_append]
        have e4 : hi c (pre ++ post) = hi c pre ++ hi c post := by unfold hi; rw [List.filter_append]
        rw [h2, e3, e4, List.filterMap_append, ← e2]
        exact hk.k
      · have hp0 : pre = [] := by
          cases pre with
          | nil => rfl
          | cons j r => exact absurd (hpre j (by simp)).choose_spec.2.1 hic
        subst hp0
        rw [List.nil_append] at h1 h2
        have hpost : ∀ j ∈ post, i < j := fun j hj => by
          have hs : (unl ops listed).Pairwise (· < ·) := by unfold unl; exact List.pairwise_lt_range.filter _
          rw [h1] at hs
          exact (List.pairwise_cons.1 hs).1 j hj
        have e1 : lo c (unl ops listed) = [] := by
          rw [h1]; unfold lo
          rw [List.filter_eq_nil_iff]
          intro j hj
          rcases List.mem_cons.1 hj with rfl | hj
          · simpa using hic
          · have := hpost j hj; simp; omega
        have e2 : hi c (unl ops listed) = i :: post := by
          rw [h1]; unfold hi
          rw [List.filter_eq_self]
          intro j hj
          rcases List.mem_cons.1 hj with rfl | hj
          · simp [hic]
          · have := hpost j hj; simp; omega
        have e3 : lo c post = [] := by
          unfold lo
          rw [List.filter_eq_nil_iff]
          intro j hj
          have := hpost j hj; simp; omega
        have e4 : hi c post = post := by
          unfold hi
          rw [List.filter_eq_self]
          intro j hj
          have := hpost j hj; simp; omega
        rw [e1, e2, List.filterMap_cons, ho] at hK
        have hfront : gstepS T none ops.toList o (listS T none ops.toList (post.filterMap (ops[·]?)) K) st := hK
        refine gstep_sound hS hdst hfront.k Q _ (fun st' ρ' a' w' hk hs => ?_)
        refine ih (listed.setIfInBounds i true) st' ρ' a' w' (by simpa using hsz) hlen hcl2 ?_ hs
        rw [h2, e3, e4]
        exact hk.k
end
theorem takeL_eq {α : Type} : ∀ (n : Nat) (l : List α), takeL n l = l.take n
  | 0, l => by cases l <;> rfl
  | n + 1, [] => rfl
  | n + 1, a :: l => by simp only [takeL, List.take_succ_cons]; rw [takeL_eq n l]
theorem dropL_eq {α : Type} : ∀ (n : Nat) (l : List α), dropL n l = l.drop n
  | 0, l => by cases l <;> rfl
  | n + 1, [] => rfl
  | n + 1, a :: l => by simp only [dropL, List.drop_succ_cons]; rw [dropL_eq n l]
theorem lo_hi (ops : Array Oper) (c : Nat) : ∀ m, m ≤ ops.size → (lo c (List.range m)).filterMap (ops[·]?) = (ops.toList.take m).take c ∧ (hi c (List.range m)).filterMap (ops[·]?) = (ops.toList.take m).drop c
  | 0, _ => by simp [lo, hi]
  | m + 1, hm => by
    obtain ⟨h1, h2⟩ := lo_hi ops c m (by omega)
    have hx : ops[m]? = some ops[m] := by simp [show m < ops.size by omega]
    have ht : ops.toList.take (m + 1) = ops.toList.take m ++ [ops[m]] := by rw [List.take_add_one, Array.getElem?_toList, hx]; rfl
    have hl : (ops.toList.take m).length = m := by simp; omega
    have e1 : lo c (List.range (m + 1)) = lo c (List.range m) ++ lo c [m] := by unfold lo; rw [List.range_succ, List.filter_append]
    have e2 : hi c (List.range (m + 1)) = hi c (List.range m) ++ hi c [m] := by unfold hi; rw [List.range_succ, List.filter_append]
    have ho : [m].filterMap (ops[·]?) = [ops[m]] := by simp [hx]
    rw [e1, e2, ht, List.filterMap_append, List.filterMap_append, h1, h2, List.take_append, List.drop_append, hl]
    by_cases hc : m < c
    · have a1 : lo c [m] = [m] := by simp [lo, hc]
      have a2 : hi c [m] = [] := by simp [hi, hc]
      rw [a1, a2, ho]
      have c1 : [ops[m]].take (c - m) = [ops[m]] := List.take_of_length_le (by simp; omega)
      have c2 : [ops[m]].drop (c - m) = [] := List.drop_of_length_le (by simp; omega)
      rw [c1, c2]
      exact ⟨rfl, rfl⟩
    · have a1 : lo c [m] = [] := by simp [lo, hc]
      have a2 : hi c [m] = [m] := by simp [hi, hc]
      have c0 : c - m = 0 := by omega
      rw [a1, a2, ho, c0]
      exact ⟨rfl, rfl⟩
/-- What is left of a region: its last operations. -/
structure LGoal (T : Tab P) (ops rest : List Oper) (K : St → Prop) (st : St) : Prop where
  run : listS T none ops rest K st
theorem LGoal.list {T : Tab P} {ops rest : List Oper} {K : St → Prop} {tl : List (Nat × AV)} {H : List AObj} (h : listN T none ops rest K tl H) : LGoal T ops rest K (St.of tl H) := ⟨listN_sound _ _ _ h⟩
theorem listS_mono {T : Tab P} {ids : Option (List Nat)} {ops : List Oper} {K K' : St → Prop} (hi : ∀ s, K s → K' s) : ∀ (l : List Oper) (st : St), listS T ids ops l K st → listS T ids ops l K' st
  | [], st, h => hi st h
  | o :: r, st, h => gstepS_mono (fun s hs => listS_mono hi r s hs) h
theorem AWP.drwL {n n0 : Nat} {Q : Exit → St → Prop} {tl : List (Nat × AV)} {H : List AObj} (T : Tab P) (c : Nat) (ids : Option (List Nat)) {id : Nat} {ops : Array Oper} (hm : (P.follows .mixedOrders || !Region.departs ops) = true) (hp : progGo .any ops.toList ops.toList.length [] = true) (hd : drawOkL c ids.isSome n ops.toList = true)
    (h : listN T ids ops.toList (takeL c ops.toList) (LGoal T ops.toList (dropL c ops.toList) (Q .normal)) tl H) : AWP P n n0 (.region id ops true) Q (St.of tl H) :=
  ⟨fun cx ρ a w h1 h2 hs => wp_region_draw fun t => by
    have main : ∀ (md : Region.Mode) (t : Nat), progGo md ops.toList ops.toList.length [] = true → wpOps P ops (fun e a' w' => ∃ st' ρ', Q e st' ∧ Sim cx ρ' st' a' w') (Region.linearise md ops t) a w.drew := fun md t hp => by
      refine wpAny_sound ops.size t _ a _ (any_soundL (T := T) (ids := ids) (K := Q .normal) (cx := cx) c (fun listed hsz hr => progGo_spec hsz hr _ [] (by simp) hp) (by rw [h1]; exact hd) (fun st' ρ' a' w' hk hs' => ⟨st', ρ', hk, hs'⟩) ops.size (Array.replicate ops.size false) _ ρ a _ (by simp) ?_ ?_ ?_ hs.drew)
      · exact Nat.le_trans (List.length_filter_le _ _) (by simp)
      · intro k o e hk
        simp only [Array.getD_eq_getD_getElem?, Array.getElem?_replicate] at hk
        split at hk <;> simp at hk
      · have hu : unl ops (Array.replicate ops.size false) = List.range ops.size := by
          unfold unl
          rw [List.filter_eq_self]
          intro i hi
          have : i < ops.size := by simpa using hi
          simp [Array.getD_eq_getD_getElem?, this]
        have et : ops.toList.take ops.size = ops.toList := List.take_of_length_le (by simp)
        rw [hu, (lo_hi ops c ops.size (Nat.le_refl _)).1, (lo_hi ops c ops.size (Nat.le_refl _)).2, et]
        have := listN_sound _ _ _ h
        rw [takeL_eq, dropL_eq] at this
        exact listS_mono (fun s hs => hs.run) _ _ this
    unfold Region.schedule
    split
    · exact main .any t hp
    · rename_i hq
      have hq : (P.follows .mixedOrders || !Region.departs ops) = false := by simpa using hq
      rw [hm] at hq; cases hq⟩
end YtafalojjbghlhaaAM
end
