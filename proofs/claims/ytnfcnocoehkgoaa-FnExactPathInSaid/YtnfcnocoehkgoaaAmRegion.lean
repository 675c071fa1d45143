/- Regions: in the text's order; and, where operations that could be exchanged do not meet, in any order. -/
import Derived.Test.YtnfcnocoehkgoaaAmEff
set_option linter.unusedVariables false
set_option linter.unusedSimpArgs false
namespace YtnfcnocoehkgoaaAM
open Go
variable {P : Program}

structure GuardB (b : Bool) (p q : Prop) : Prop where
  yes : b = true → p
  no : b = false → q

/-- What a temporary of an operation that was left out bears. -/
def skipV : AV := .tuple []
/-- What a guard's temporary tells: a bool, or that its operation was left out. -/
def gB : AV → Option (Option Bool)
  | .bool b => some (some b)
  | .tuple [] => some none
  | _ => none

/-- One operation, with its guard. -/
def gstep (T : Tab P) (ops : List Oper) (o : Oper) (K : St → Prop) (st : St) : Prop :=
  match o.guard with
  | none => stepP T st o K
  | some (j, want) => match getL ops j with
    | some oj => match oj.dst with
      | some g => match st.t g with
        | .bool b => match want with
          | true => GuardB b (stepP T st o K) (K (st.put o.dst skipV))
          | false => GuardB b (K (st.put o.dst skipV)) (stepP T st o K)
        | .tuple [] => K (st.put o.dst skipV)
        | _ => False
      | none => False
    | none => False

def listP (T : Tab P) (ops : List Oper) : List Oper → (St → Prop) → St → Prop
  | [], K, st => K st
  | o :: r, K, st => gstep T ops o (listP T ops r K) st

def dstOk (n : Nat) (o : Oper) : Bool :=
  match o.dst with
  | some d => Nat.blt d n
  | none => true

theorem dstOk_spec {n : Nat} {o : Oper} (h : dstOk n o = true) : ∀ k, o.dst = some k → k < n := fun k hk => by
  unfold dstOk at h
  rw [hk] at h
  rw [Nat.blt_eq] at h; exact h

theorem yielded_of {cx : Cx} {ρ : Ren} {st : St} {a : Act} {w : World} (h : Sim cx ρ st a w) {ops : Array Oper} {j g : Nat} {oj : Oper} {b : Bool} (hj : getL ops.toList j = some oj) (hg : oj.dst = some g) (hb : st.t g = .bool b) : yielded ops a.tmps j = some b := by
  have hr := h.tm g
  rw [hb] at hr
  rw [getL_eq, Array.getElem?_toList] at hj
  cases hv : a.tmps.getD g undef <;> rw [hv] at hr <;> cases hr
  have hs : a.tmps[g]? = some (.bool b) := by
    rw [Array.getD_eq_getD_getElem?] at hv
    cases hq : a.tmps[g]? with
    | none => rw [hq] at hv; simp [undef] at hv
    | some v => rw [hq] at hv; simp at hv; rw [hv]
  simp [yielded, hj, hg, hs]

theorem yielded_skip {cx : Cx} {ρ : Ren} {st : St} {a : Act} {w : World} (h : Sim cx ρ st a w) {ops : Array Oper} {j g : Nat} {oj : Oper} (hj : getL ops.toList j = some oj) (hg : oj.dst = some g) (hb : st.t g = .tuple []) : yielded ops a.tmps j = none := by
  have hr := h.tm g
  rw [hb] at hr
  rw [getL_eq, Array.getElem?_toList] at hj
  cases hv : a.tmps.getD g undef <;> rw [hv] at hr <;> cases hr
  rename_i ws hl _
  have hs : a.tmps[g]? = some (.tuple ws) ∨ a.tmps[g]? = none := by
    rw [Array.getD_eq_getD_getElem?] at hv
    cases hq : a.tmps[g]? with
    | none => exact .inr rfl
    | some v => rw [hq] at hv; simp at hv; rw [hv]; exact .inl rfl
  rcases hs with hs | hs <;> simp [yielded, hj, hg, hs]

/-- What the guard decides. -/
theorem gstep_cases {T : Tab P} {ops : Array Oper} {o : Oper} {K : St → Prop} {cx : Cx} {ρ : Ren} {st : St} {a : Act} {w : World} (h : Sim cx ρ st a w) (hK : gstep T ops.toList o K st) :
    (Region.wanted o (yielded ops a.tmps) = true ∧ stepP T st o K) ∨ (Region.wanted o (yielded ops a.tmps) = false ∧ K (st.put o.dst skipV)) := by
  unfold gstep at hK
  split at hK
  · rename_i hg
    left; exact ⟨by simp [Region.wanted, hg], hK⟩
  · rename_i j want hg
    split at hK
    · rename_i oj hoj
      split at hK
      · rename_i g hd
        split at hK
        · rename_i b hb
          have hy := yielded_of h hoj hd hb
          split at hK
          · cases b with
            | true => exact .inl ⟨by simp [Region.wanted, hg, hy], hK.yes rfl⟩
            | false => exact .inr ⟨by simp [Region.wanted, hg, hy], hK.no rfl⟩
          · cases b with
            | true => exact .inr ⟨by simp [Region.wanted, hg, hy], hK.yes rfl⟩
            | false => exact .inl ⟨by simp [Region.wanted, hg, hy], hK.no rfl⟩
        · rename_i hb
          have hy := yielded_skip h hoj hd hb
          exact .inr ⟨by simp [Region.wanted, hg, hy], hK⟩
        · exact hK.elim
      · exact hK.elim
    · exact hK.elim

/-- One operation of a region, in the machine. -/
theorem gstep_sound {T : Tab P} {ops : Array Oper} {o : Oper} {K : St → Prop} {cx : Cx} {ρ : Ren} {st : St} {a : Act} {w : World} (h : Sim cx ρ st a w) (hd : dstOk cx.n o = true) (hK : gstep T ops.toList o K st) (Q : Exit → Act → World → Prop)
    (next : Act → World → Prop) (hn : ∀ st' ρ' a' w', K st' → Sim cx ρ' st' a' w' → next a' w') :
    if Region.wanted o (yielded ops a.tmps) then o.wp P a w next Q ∨ (o.asks P a w ∧ LetsOut Q) else next (a.put o.dst undef) w := by
  rcases gstep_cases h hK with ⟨hw, hK⟩ | ⟨hw, hK⟩
  · rw [if_pos hw]
    exact .inl (Oper.wp_mono (fun a' w' ⟨st', ρ', hk, hs⟩ => hn st' ρ' a' w' hk hs) (stepP_sound T h (dstOk_spec hd) hK Q))
  · rw [if_neg (by rw [hw]; decide)]
    exact hn _ ρ _ w hK (h.put o.dst (dstOk_spec hd) (.tuple [] #[] rfl fun i a v h => by simp at h))

theorem listP_sound {T : Tab P} {ops : Array Oper} {cx : Cx} {Q : Exit → Act → World → Prop} {K : St → Prop} (hn : ∀ st' ρ' a' w', K st' → Sim cx ρ' st' a' w' → Q .normal a' w') :
    ∀ (l : List Oper) (st : St) (ρ : Ren) (a : Act) (w : World), (∀ o ∈ l, dstOk cx.n o = true) → listP T ops.toList l K st → Sim cx ρ st a w → wpList P ops Q l a w
  | [], st, ρ, a, w, _, hK, h => hn st ρ a w hK h
  | o :: r, st, ρ, a, w, hd, hK, h => by
    unfold wpList
    exact gstep_sound h (hd o (by simp)) hK Q _ (fun st' ρ' a' w' hk hs => listP_sound hn r st' ρ' a' w' (fun x hx => hd x (by simp [hx])) hk hs)

/-! ### Exchange -/
/-- An operation that turns memory, makes it, or calls. -/
def isEff (o : Oper) : Bool :=
  match o.op with
  | .assign x | .move x => isNil x
  | .binOp _ _ _ y _ => isNil y
  | .alloc _ | .box .. | .buildSlice .. | .makeSlice .. | .store .. => true
  | .call c => match c.callee with
    | .builtin .len | .builtin .min | .builtin .max => false
    | _ => true
  | _ => false
def isRead (o : Oper) : Bool :=
  match o.op with
  | .load .. => true
  | _ => false

/-- What an operation without an effect comes to. -/
def val (T : Tab P) (st : St) (o : Oper) : Res :=
  match pureV T (ev st.t) o.op with
  | .bad => readV T st.t st.h o.op
  | r => r

theorem effP_none {T : Tab P} {st : St} {o : Oper} {K : St → Prop} (h : isEff o = false) : ¬ effP T st o K := by
  intro hK
  unfold effP at hK
  unfold isEff at h
  split at hK <;> simp_all
  · split at hK <;> simp_all
  · unfold nilP at hK
    split at hK
    · simp_all
    · exact hK

theorem stepP_quiet {T : Tab P} {st : St} {o : Oper} {K : St → Prop} (h : isEff o = false) : stepP T st o K ↔ ∃ p v, (val T st o = .ok v ∧ p = True ∨ val T st o = .vc p v) ∧ p ∧ K (st.put o.dst v) := by
  unfold stepP val
  split
  · rename_i v hv
    rw [hv]
    exact ⟨fun hK => ⟨True, v, .inl ⟨rfl, rfl⟩, trivial, hK⟩, fun ⟨p, v', h, hp, hK⟩ => by rcases h with ⟨h, _⟩ | h <;> cases h; exact hK⟩
  · rename_i p v hv
    rw [hv]
    exact ⟨fun hK => ⟨p, v, .inr rfl, hK.vc, hK.k⟩, fun ⟨p', v', h, hp, hK⟩ => by rcases h with ⟨h, _⟩ | h <;> cases h; exact ⟨hp, hK⟩⟩
  · rename_i hv
    rw [hv]
    simp only
    split
    · rename_i v hv
      rw [hv]
      exact ⟨fun hK => ⟨True, v, .inl ⟨rfl, rfl⟩, trivial, hK⟩, fun ⟨p, v', h, hp, hK⟩ => by rcases h with ⟨h, _⟩ | h <;> cases h; exact hK⟩
    · rename_i p v hv
      rw [hv]
      exact ⟨fun hK => ⟨p, v, .inr rfl, hK.vc, hK.k⟩, fun ⟨p', v', h, hp, hK⟩ => by rcases h with ⟨h, _⟩ | h <;> cases h; exact ⟨hp, hK⟩⟩
    · rename_i hv
      rw [hv]
      exact ⟨fun hK => absurd hK (effP_none h), fun ⟨p', v', h, hp, hK⟩ => by rcases h with ⟨h, _⟩ | h <;> cases h⟩

theorem St.put_comm (st : St) {d e : Option Nat} (h : ∀ k, d = some k → e ≠ some k) (v u : AV) : (st.put d v).put e u = (st.put e u).put d v := by
  cases d with
  | none => rfl
  | some d =>
    cases e with
    | none => rfl
    | some e =>
      have hne : d ≠ e := fun he => h d rfl (by rw [he])
      simp only [St.put]
      congr 1
      funext k
      by_cases h1 : k = e
      · subst h1; simp [Ne.symm hne]
      · simp [h1]

theorem St.put_t (st : St) (d : Option Nat) (v : AV) (k : Nat) (h : d ≠ some k) : (st.put d v).t k = st.t k := by
  cases d with
  | none => rfl
  | some d => simp only [St.put]; rw [if_neg (fun e => h (by rw [e]))]

theorem St.put_h (st : St) (d : Option Nat) (v : AV) : (st.put d v).h = st.h := by cases d <;> rfl

/-- What an operation's operands name. -/
def looks (o : Oper) : List Nat := o.op.operands.toList.filterMap fun | .tmp t => some t | _ => none

theorem ev_congr {t t' : Nat → AV} {x : Operand} (h : ∀ k, x = .tmp k → t k = t' k) : ev t x = ev t' x := by
  cases x with
  | tmp k => exact h k rfl
  | _ => rfl

theorem ev_looks {t t' : Nat → AV} {o : Oper} (h : ∀ k ∈ looks o, t k = t' k) : ∀ x ∈ o.op.operands.toList, ev t x = ev t' x := fun x hx => ev_congr fun k hk => h k (by
  simp only [looks, List.mem_filterMap]
  exact ⟨x, hx, by rw [hk]⟩)

theorem partsV_congr {e e' : Operand → AV} : ∀ (ps : List (Nat × Operand)) (i : Nat), (∀ p ∈ ps, e p.2 = e' p.2) → partsV e i ps = partsV e' i ps
  | [], _, _ => rfl
  | (j, x) :: r, i, h => by
    simp only [partsV]
    rw [partsV_congr r (i + 1) (fun p hp => h p (by simp [hp])), h (j, x) (by simp)]
theorem fillV_congr {e e' : Operand → AV} (pl : List (Nat × Nat)) : ∀ (ps : List (Nat × Operand)) (z : List AV), (∀ p ∈ ps, e p.2 = e' p.2) → fillV e pl z ps = fillV e' pl z ps
  | [], _, _ => rfl
  | (j, x) :: r, z, h => by
    simp only [fillV]
    rw [h (j, x) (by simp)]
    have := fun z => fillV_congr pl r z (fun p hp => h p (by simp [hp]))
    simp only [this]

theorem boundV_congr {e e' : Operand → AV} {x : Option Operand} (h : ∀ y, x = some y → e y = e' y) : boundV e x = boundV e' x := by
  cases x with
  | none => rfl
  | some y => simp only [boundV]; rw [h y rfl]

theorem pureV_congr {T : Tab P} {t t' : Nat → AV} {o : Oper} (h : ∀ k ∈ looks o, t k = t' k) : pureV T (ev t) o.op = pureV T (ev t') o.op := by
  have he := ev_looks h
  obtain ⟨dst, op, ty, pos, after, guard⟩ := o
  cases op <;> simp only [pureV] <;> simp only [Op.operands] at he <;> try rfl
  case move x => split <;> first | rfl | rw [he x (by simp)]
  case assign x => split <;> first | rfl | rw [he x (by simp)]
  case pick c a b => rw [he c (by simp), he a (by simp), he b (by simp)]
  case binOp op xt x y yt => rw [he x (by simp), he y (by simp)]
  case unOp op xt x => rw [he x (by simp)]
  case convert s d x => rw [he x (by simp)]
  case extract x i => rw [he x (by simp)]
  case fieldAddr t x f => rw [he x (by simp)]
  case indexAddr t x i => rw [he x (by simp), he i (by simp)]
  case index t x i => rw [he x (by simp), he i (by simp)]
  case slice t x lo hi mx =>
    rw [he x (by simp), boundV_congr (x := lo) (fun y hy => he y (by subst hy; simp)), boundV_congr (x := hi) (fun y hy => he y (by subst hy; simp)), boundV_congr (x := mx) (fun y hy => he y (by subst hy; simp))]
  case nilCheck x => rw [he x (by simp)]
  case makeFunc fn first cap =>
    rw [List.map_congr_left (fun x hx => he x (by simp at hx ⊢; exact .inr hx))]
  case build bt ps =>
    have h2 : ∀ pl z, fillV (ev t) pl z ps.toList = fillV (ev t') pl z ps.toList := fun pl z => fillV_congr pl ps.toList z (fun p hp => he p.2 (by
      simp only [List.mem_map]; exact ⟨p, hp, rfl⟩))
    simp only [h2]
  case call c =>
    obtain ⟨callee, args, ats⟩ := c
    simp only [Call.operands] at he
    cases callee with
    | value f => rfl
    | invoke r m => rfl
    | builtin b =>
      simp only
      have he' : ∀ x ∈ args.toList, ev t x = ev t' x := fun x hx => he x (by simpa using hx)
      cases b <;> try rfl
      all_goals
        simp only
        split
        · rename_i hx
          first
            | (rw [hx] at he'
               rw [he' _ (List.mem_cons_self), he' _ (List.mem_cons_of_mem _ List.mem_cons_self)])
            | (rename_i hx0
               rw [hx0] at he'
               rw [he' _ (List.mem_cons_self)])
        · rfl

theorem readV_congr {T : Tab P} {t t' : Nat → AV} {H : List AObj} {o : Oper} (h : ∀ k ∈ looks o, t k = t' k) : readV T t H o.op = readV T t' H o.op := by
  have he := ev_looks h
  obtain ⟨dst, op, ty, pos, after, guard⟩ := o
  cases op <;> simp only [readV]
  case load lt x =>
    simp only [Op.operands] at he
    rw [he x (by simp)]

/-- What a read looks at is the same. -/
def sameRd (st st' : St) (o : Oper) : Prop := ∀ ty x a, o.op = .load ty x → ev st.t x = .ptr a → getL st.h a.id = getL st'.h a.id

theorem sameRd_quiet {st st' : St} {o : Oper} (h : isRead o = false) : sameRd st st' o := fun ty x a e _ => by simp [isRead, e] at h
theorem sameRd_heap {st st' : St} {o : Oper} (h : st.h = st'.h) : sameRd st st' o := fun ty x a e _ => by rw [h]

theorem readV_heap {T : Tab P} {t : Nat → AV} {H H' : List AObj} {o : Oper} (h : sameRd ⟨t, H⟩ ⟨t, H'⟩ o) : readV T t H o.op = readV T t H' o.op := by
  obtain ⟨dst, op, ty, pos, after, guard⟩ := o
  cases op <;> simp only [readV]
  case load lt x =>
    cases he : ev t x <;> try rfl
    rename_i a
    have hh : getL H a.id = getL H' a.id := h lt x a rfl he
    cases T.ty lt with
    | none => rfl
    | some ti =>
      simp only [hh]

theorem val_congr {T : Tab P} {st st' : St} {o : Oper} (h : ∀ k ∈ looks o, st.t k = st'.t k) (hr : sameRd st st' o) : val T st o = val T st' o := by
  unfold val
  rw [pureV_congr h]
  have : readV T st.t st.h o.op = readV T st'.t st'.h o.op := by
    rw [← readV_congr (T := T) (H := st'.h) (o := o) h]
    exact readV_heap hr
  rw [this]

/-- The temporary that the guard looks at. -/
def gTmp (ops : List Oper) (o : Oper) : Option Nat :=
  match o.guard with
  | none => none
  | some (j, _) => match getL ops j with
    | some oj => oj.dst
    | none => none

/-- What a quiet operation comes to, its guard reckoned. -/
def gval (T : Tab P) (ops : List Oper) (o : Oper) (st : St) (p : Prop) (v : AV) : Prop :=
  match o.guard with
  | none => (val T st o = .ok v ∧ p = True) ∨ val T st o = .vc p v
  | some (_, want) => ∃ g b, gTmp ops o = some g ∧ gB (st.t g) = some b ∧ ((b = some want ∧ ((val T st o = .ok v ∧ p = True) ∨ val T st o = .vc p v)) ∨ (b ≠ some want ∧ p = True ∧ v = skipV))

theorem gstep_some {T : Tab P} {ops : List Oper} {o : Oper} {K : St → Prop} {st : St} {j : Nat} {want : Bool} (hg : o.guard = some (j, want)) :
    gstep T ops o K st ↔ ∃ g b, gTmp ops o = some g ∧ gB (st.t g) = some b ∧ (b = some want → stepP T st o K) ∧ (b ≠ some want → K (st.put o.dst skipV)) := by
  unfold gstep gTmp
  simp only [hg]
  cases hj : getL ops j with
  | none => simp
  | some oj =>
    simp only
    cases hd : oj.dst with
    | none => simp
    | some g =>
      simp only
      constructor
      · intro h
        split at h
        · rename_i b hb
          refine ⟨g, some b, rfl, by rw [hb]; rfl, fun e => ?_, fun e => ?_⟩
          · cases e; cases want
            · exact h.no rfl
            · exact h.yes rfl
          · cases want <;> cases b <;> first | exact absurd rfl e | exact h.yes rfl | exact h.no rfl
        · rename_i hb
          exact ⟨g, none, rfl, by rw [hb]; rfl, (fun e => by cases e), fun _ => h⟩
        · exact h.elim
      · rintro ⟨g', b, h1, h2, h3, h4⟩
        cases h1
        cases hb : st.t g <;> rw [hb] at h2 <;> simp only [gB, reduceCtorEq, Option.some.injEq] at h2
        · subst h2
          rename_i b'
          cases want <;> cases b'
          · exact ⟨(fun e => by cases e), fun _ => h3 rfl⟩
          · exact ⟨fun _ => h4 (by simp), (fun e => by cases e)⟩
          · exact ⟨(fun e => by cases e), fun _ => h4 (by simp)⟩
          · exact ⟨fun _ => h3 rfl, (fun e => by cases e)⟩
        · rename_i vs
          cases vs with
          | nil => simp only [gB, Option.some.injEq] at h2; subst h2; exact h4 (by simp)
          | cons v vs => simp [gB] at h2

theorem gstep_quiet {T : Tab P} {ops : List Oper} {o : Oper} {K : St → Prop} {st : St} (h : isEff o = false) : gstep T ops o K st ↔ ∃ p v, gval T ops o st p v ∧ p ∧ K (st.put o.dst v) := by
  cases hg : o.guard with
  | none =>
    unfold gstep gval
    simp only [hg]
    rw [stepP_quiet h]
  | some q =>
    obtain ⟨j, want⟩ := q
    rw [gstep_some hg]
    unfold gval
    simp only [hg]
    constructor
    · rintro ⟨g, b, h1, h2, h3, h4⟩
      by_cases e : b = some want
      · obtain ⟨p, v, g1, g2, g3⟩ := (stepP_quiet h).1 (h3 e)
        exact ⟨p, v, ⟨g, b, h1, h2, .inl ⟨e, g1⟩⟩, g2, g3⟩
      · exact ⟨True, skipV, ⟨g, b, h1, h2, .inr ⟨e, rfl, rfl⟩⟩, trivial, h4 e⟩
    · rintro ⟨p, v, ⟨g, b, h1, h2, h3⟩, hp, hK⟩
      refine ⟨g, b, h1, h2, fun e => ?_, fun e => ?_⟩
      · rcases h3 with ⟨_, h3⟩ | ⟨h3, _⟩
        · exact (stepP_quiet h).2 ⟨p, v, h3, hp, hK⟩
        · exact absurd e h3
      · rcases h3 with ⟨h3, _⟩ | ⟨_, _, rfl⟩
        · exact absurd h3 e
        · exact hK

/-- All that an operation looks at. -/
def sees (ops : List Oper) (o : Oper) : List Nat := looks o ++ (gTmp ops o).toList

theorem gval_congr {T : Tab P} {ops : List Oper} {o : Oper} {st st' : St} {p : Prop} {v : AV} (h : ∀ k ∈ sees ops o, st.t k = st'.t k) (hr : sameRd st st' o) (hv : gval T ops o st p v) : gval T ops o st' p v := by
  have hval := val_congr (T := T) (o := o) (fun k hk => h k (by simp [sees, hk])) hr
  unfold gval at hv ⊢
  split at hv
  · rw [← hval]; exact hv
  · obtain ⟨g, b, h1, h2, h3⟩ := hv
    exact ⟨g, b, h1, by rw [← h g (by simp [sees, h1])]; exact h2, by rw [← hval]; exact h3⟩

theorem gval_fun {T : Tab P} {ops : List Oper} {o : Oper} {st : St} {p p' : Prop} {v v' : AV} (h : gval T ops o st p v) (h' : gval T ops o st p' v') : p = p' ∧ v = v' := by
  have key : ∀ {p p' : Prop} {v v' : AV}, ((val T st o = .ok v ∧ p = True) ∨ val T st o = .vc p v) → ((val T st o = .ok v' ∧ p' = True) ∨ val T st o = .vc p' v') → p = p' ∧ v = v' := fun h h' => by
    rcases h with ⟨h, rfl⟩ | h <;> rcases h' with ⟨h', rfl⟩ | h' <;> rw [h] at h' <;> cases h' <;> exact ⟨rfl, rfl⟩
  unfold gval at h h'
  split at h
  · rename_i hg
    simp only [hg] at h'
    exact key h h'
  · rename_i j want hg
    simp only [hg] at h'
    obtain ⟨g, b, h1, h2, h3⟩ := h
    obtain ⟨g', b', h1', h2', h3'⟩ := h'
    rw [h1] at h1'; cases h1'
    rw [h2] at h2'; cases h2'
    rcases h3 with ⟨rfl, h3⟩ | ⟨h3, rfl, rfl⟩ <;> rcases h3' with ⟨e, h3'⟩ | ⟨e, rfl, rfl⟩
    · exact key h3 h3'
    · exact absurd rfl e
    · exact absurd e h3
    · exact ⟨rfl, rfl⟩

/-! ### Effects beside quiet operations -/
theorem newK_put {st : St} {d dst : Option Nat} {v : AV} (h : ∀ k, d = some k → dst ≠ some k) {K : St → Prop} {o : AObj} {f : Nat → AV} : newK (st.put d v) dst K o f ↔ newK st dst (fun s => K (s.put d v)) o f := by
  unfold newK
  have : St.put ⟨(st.put d v).t, snocL (st.put d v).h o⟩ dst (f (st.put d v).h.length) = (St.put ⟨st.t, snocL st.h o⟩ dst (f st.h.length)).put d v := by
    rw [← St.put_comm _ h]
    cases d <;> rfl
  rw [this]

theorem st_eta (st : St) (d : Option Nat) (v : AV) (H : List AObj) : (⟨(st.put d v).t, H⟩ : St) = St.put ⟨st.t, H⟩ d v := by cases d <;> rfl

theorem VC.iff {p q q' : Prop} (h : q ↔ q') : VC p q ↔ VC p q' := ⟨fun x => ⟨x.vc, h.1 x.k⟩, fun x => ⟨x.vc, h.2 x.k⟩⟩

theorem effP_put {T : Tab P} {st : St} {o : Oper} {d : Option Nat} {v : AV} (h : ∀ k, d = some k → k ∉ looks o) (hd : ∀ k, d = some k → o.dst ≠ some k) {K : St → Prop} :
    effP T (st.put d v) o K ↔ effP T st o (fun s => K (s.put d v)) := by
  have he : ∀ x ∈ o.op.operands.toList, ev (st.put d v).t x = ev st.t x := ev_looks (fun k hk => St.put_t st d v k (fun e => h k e hk))
  have hh := St.put_h st d v
  have hnew := fun (o' : AObj) (f : Nat → AV) => newK_put (st := st) (v := v) hd (K := K) (o := o') (f := f)
  have hput : ∀ (H : List AObj) (r : AV), St.put ⟨(st.put d v).t, H⟩ o.dst r = (St.put ⟨st.t, H⟩ o.dst r).put d v := fun H r => by
    rw [st_eta, St.put_comm _ hd]
  obtain ⟨dst, op, ty, pos, after, guard⟩ := o
  simp only at hd hnew hput
  cases op <;> simp only [effP, nilP] <;> simp only [Op.operands] at he <;> try rfl
  case move x => split <;> first | rfl | exact hnew _ _
  case assign x => split <;> first | rfl | exact hnew _ _
  case binOp op t x y yt =>
    rw [he x (by simp)]
    split
    · unfold nilK
      have hk : ∀ r, K ((st.put d v).put dst r) ↔ K ((st.put dst r).put d v) := fun r => by rw [St.put_comm _ hd]
      split
      · exact ⟨fun q => ⟨fun p => (hk _).1 (q.yes p), (hk _).1 q.no⟩, fun q => ⟨fun p => (hk _).2 (q.yes p), (hk _).2 q.no⟩⟩
      · exact hk _
      · rfl
    · rfl
  case alloc t =>
    split
    · split
      · exact VC.iff (hnew _ _)
      · rfl
    · exact hnew _ _
    · rfl
  case box t x =>
    rw [he x (by simp)]
    split
    · split
      · exact VC.iff (hnew _ _)
      · rfl
    · split
      · exact hnew _ _
      · rfl
    · split
      · exact hnew _ _
      · rfl
    · rfl
  case buildSlice t n ps =>
    rw [partsV_congr (e := ev (st.put d v).t) (e' := ev st.t) ps.toList 0 (fun p hp => he p.2 (by simp only [List.mem_map]; exact ⟨p, hp, rfl⟩))]
    split
    · split
      · exact VC.iff (hnew _ _)
      · rfl
    · rfl
  case makeSlice t l c =>
    rw [he l (by simp), he c (by simp)]
    split
    · refine VC.iff ?_
      unfold makeK
      split
      · exact VC.iff (hnew _ _)
      · exact VC.iff (hnew _ _)
      · rfl
    · rfl
  case store t p x =>
    rw [he p (by simp), he x (by simp)]
    split
    · unfold storeK
      rw [hh]
      have hk : ∀ H, K (St.put ⟨(st.put d v).t, H⟩ dst .undef) ↔ K ((St.put ⟨st.t, H⟩ dst .undef).put d v) := fun H => by rw [hput]
      split
      · split
        · split
          · split
            · exact VC.iff (hk _)
            · split
              · exact VC.iff (hk _)
              · rfl
            · rfl
          · split
            · exact VC.iff (hk _)
            · rfl
        · rfl
      · split
        · exact VC.iff (hk _)
        · rfl
      · rfl
    · rfl
  case call c =>
    obtain ⟨callee, args, ats⟩ := c
    simp only [Call.operands] at he
    cases callee with
    | invoke r m => rfl
    | value f =>
      simp only
      rw [he f (by simp), List.map_congr_left (f := ev (st.put d v).t) (g := ev st.t) (fun x hx => he x (by simp; exact .inr (by simpa using hx))), hh]
      split
      · simp only [hput]
      · rfl
    | builtin b =>
      cases b <;> try rfl
      case append =>
        simp only
        split
        · rename_i s x t t' hx ht
          rw [he s (by simp [arr2 hx]), he x (by simp [arr2 hx])]
          split
          · unfold appendK
            rw [hh]
            split
            · split
              · split
                · exact VC.iff (hnew _ _)
                · exact VC.iff (hnew _ _)
                · split
                  · split
                    · refine VC.iff ?_
                      rw [st_eta]
                      exact newK_put hd
                    · rfl
                  · rfl
                · rfl
              · rfl
            · rfl
          · rfl
        · rfl
      case copy =>
        simp only
        split
        · rename_i s x t t' hx ht
          rw [he s (by simp [arr2 hx]), he x (by simp [arr2 hx])]
          split
          · unfold copyK
            rw [hh]
            split
            · split
              · split
                · split
                  · split
                    · refine VC.iff ?_
                      rw [hput]
                    · rfl
                  · rfl
                · rfl
              · rfl
            · rfl
          · rfl
        · rfl

theorem VC.imp {p q q' : Prop} (x : VC p q) (h : q → q') : VC p q' := ⟨x.vc, h x.k⟩

/-- An effect turns one temporary, and memory. -/
theorem effP_temp {T : Tab P} {st : St} {o : Oper} {K K' : St → Prop} (hK : effP T st o K) (hi : ∀ s r, s.t = (st.put o.dst r).t → K s → K' s) : effP T st o K' := by
  have ht : ∀ (H : List AObj) (r : AV), (St.put ⟨st.t, H⟩ o.dst r).t = (st.put o.dst r).t := fun H r => by cases o.dst <;> rfl
  have hnew : ∀ {o' : AObj} {f : Nat → AV}, newK st o.dst K o' f → newK st o.dst K' o' f := fun h => hi _ _ (ht _ _) h
  obtain ⟨dst, op, ty, pos, after, guard⟩ := o
  simp only at hi ht hnew
  cases op <;> simp only [effP, nilP] at hK ⊢ <;> try exact hK
  case move x => split at hK <;> first | exact hnew hK | exact hK
  case assign x => split at hK <;> first | exact hnew hK | exact hK
  case binOp op t x y yt =>
    split at hK
    · unfold nilK at hK ⊢
      split at hK
      · exact ⟨fun p => hi _ _ rfl (hK.yes p), hi _ _ rfl hK.no⟩
      · exact hi _ _ rfl hK
      · exact hK
    · exact hK
  case alloc t =>
    split at hK
    · split at hK
      · exact hK.imp hnew
      · exact hK
    · exact hnew hK
    · exact hK
  case box t x =>
    split at hK
    · split at hK
      · exact hK.imp hnew
      · exact hK
    · split at hK
      · exact hnew hK
      · exact hK
    · split at hK
      · exact hnew hK
      · exact hK
    · exact hK
  case buildSlice t n ps =>
    split at hK
    · split at hK
      · exact hK.imp hnew
      · exact hK
    · exact hK
  case makeSlice t l c =>
    split at hK
    · refine hK.imp fun hK => ?_
      unfold makeK at hK ⊢
      split at hK
      · exact hK.imp hnew
      · exact hK.imp hnew
      · exact hK
    · exact hK
  case store t p x =>
    split at hK
    · unfold storeK at hK ⊢
      split at hK
      · split at hK
        · split at hK
          · split at hK
            · exact hK.imp fun h => hi _ _ (ht _ _) h
            · split at hK
              · exact hK.imp fun h => hi _ _ (ht _ _) h
              · exact hK
            · exact hK
          · split at hK
            · exact hK.imp fun h => hi _ _ (ht _ _) h
            · exact hK
        · exact hK
      · split at hK
        · exact hK.imp fun h => hi _ _ (ht _ _) h
        · exact hK
      · exact hK
    · exact hK
  case call c =>
    obtain ⟨callee, args, ats⟩ := c
    cases callee with
    | invoke r m => exact hK
    | value f =>
      simp only at hK ⊢
      split at hK
      · exact hK.mono fun r H h => hi _ _ (ht _ _) h
      · exact hK
    | builtin b =>
      cases b <;> try exact hK
      case append =>
        simp only at hK ⊢
        split at hK
        · split at hK
          · unfold appendK at hK ⊢
            split at hK
            · split at hK
              · split at hK
                · exact hK.imp hnew
                · exact hK.imp hnew
                · split at hK
                  · split at hK
                    · exact hK.imp fun h => hi _ _ (by rw [← ht]) h
                    · exact hK
                  · exact hK
                · exact hK
              · exact hK
            · exact hK
          · exact hK
        · exact hK
      case copy =>
        simp only at hK ⊢
        split at hK
        · split at hK
          · unfold copyK at hK ⊢
            split at hK
            · split at hK
              · split at hK
                · split at hK
                  · split at hK
                    · exact hK.imp fun h => hi _ _ (ht _ _) h
                    · exact hK
                  · exact hK
                · exact hK
              · exact hK
            · exact hK
          · exact hK
        · exact hK

theorem effP_some {T : Tab P} {st : St} {o : Oper} {K : St → Prop} (hK : effP T st o K) : ∃ s, K s := by
  have hnew : ∀ {st : St} {o' : AObj} {f : Nat → AV}, newK st o.dst K o' f → ∃ s, K s := fun h => ⟨_, h⟩
  obtain ⟨dst, op, ty, pos, after, guard⟩ := o
  simp only at hnew
  cases op <;> simp only [effP, nilP] at hK
  all_goals try exact hK.elim
  case move x => split at hK <;> first | exact hnew hK | exact hK.elim
  case assign x => split at hK <;> first | exact hnew hK | exact hK.elim
  case binOp op t x y yt =>
    split at hK
    · unfold nilK at hK
      split at hK
      · exact ⟨_, hK.no⟩
      · exact ⟨_, hK⟩
      · exact hK.elim
    · exact hK.elim
  case alloc t =>
    split at hK
    · split at hK
      · exact hnew hK.k
      · exact hK.elim
    · exact hnew hK
    · exact hK.elim
  case box t x =>
    split at hK
    · split at hK
      · exact hnew hK.k
      · exact hK.elim
    · split at hK
      · exact hnew hK
      · exact hK.elim
    · split at hK
      · exact hnew hK
      · exact hK.elim
    · exact hK.elim
  case buildSlice t n ps =>
    split at hK
    · split at hK
      · exact hnew hK.k
      · exact hK.elim
    · exact hK.elim
  case makeSlice t l c =>
    split at hK
    · have hK := hK.k
      unfold makeK at hK
      split at hK
      · exact hnew hK.k
      · exact hnew hK.k
      · exact hK.elim
    · exact hK.elim
  case store t p x =>
    split at hK
    · unfold storeK at hK
      split at hK
      · split at hK
        · split at hK
          · split at hK
            · exact ⟨_, hK.k⟩
            · split at hK
              · exact ⟨_, hK.k⟩
              · exact hK.elim
            · exact hK.elim
          · split at hK
            · exact ⟨_, hK.k⟩
            · exact hK.elim
        · exact hK.elim
      · split at hK
        · exact ⟨_, hK.k⟩
        · exact hK.elim
      · exact hK.elim
    · exact hK.elim
  case call c =>
    obtain ⟨callee, args, ats⟩ := c
    cases callee with
    | invoke r m => exact hK.elim
    | value f =>
      simp only at hK
      split at hK
      · obtain ⟨r, H, h⟩ := hK.nv; exact ⟨_, h⟩
      · exact hK.elim
    | builtin b =>
      cases b <;> try exact hK.elim
      case append =>
        simp only at hK
        split at hK
        · split at hK
          · unfold appendK at hK
            split at hK
            · split at hK
              · split at hK
                · exact hnew hK.k
                · exact hnew hK.k
                · split at hK
                  · split at hK
                    · exact hnew hK.k
                    · exact hK.elim
                  · exact hK.elim
                · exact hK.elim
              · exact hK.elim
            · exact hK.elim
          · exact hK.elim
        · exact hK.elim
      case copy =>
        simp only at hK
        split at hK
        · split at hK
          · unfold copyK at hK
            split at hK
            · split at hK
              · split at hK
                · split at hK
                  · split at hK
                    · exact ⟨_, hK.k⟩
                    · exact hK.elim
                  · exact hK.elim
                · exact hK.elim
              · exact hK.elim
            · exact hK.elim
          · exact hK.elim
        · exact hK.elim

theorem pureV_eff {T : Tab P} {t : Nat → AV} {o : Oper} (h : isEff o = true) : pureV T (ev t) o.op = .bad := by
  obtain ⟨dst, op, ty, pos, after, guard⟩ := o
  cases op <;> simp only [isEff] at h <;> try (first | rfl | cases h)
  case move x =>
    unfold isNil at h
    split at h
    · rfl
    · cases h
  case assign x =>
    unfold isNil at h
    split at h
    · rfl
    · cases h
  case binOp op bt x y yt =>
    unfold isNil at h
    split at h
    · simp only [pureV]
      cases T.sq bt
      · cases ev t x <;> rfl
      · show structV op (ev t x) .nilS = .bad
        unfold structV
        split
        · rename_i hq; cases hq
        · rfl
    · cases h
  case call c =>
    obtain ⟨callee, args, ats⟩ := c
    cases callee with
    | invoke r m => rfl
    | value f => rfl
    | builtin b => cases b <;> first | rfl | cases h

theorem readV_eff {T : Tab P} {t : Nat → AV} {H : List AObj} {o : Oper} (h : isEff o = true) : readV T t H o.op = .bad := by
  obtain ⟨dst, op, ty, pos, after, guard⟩ := o
  cases op <;> simp only [isEff] at h <;> first | rfl | cases h

theorem stepP_eff {T : Tab P} {st : St} {o : Oper} {K : St → Prop} (h : isEff o = true) : stepP T st o K = effP T st o K := by
  unfold stepP
  rw [pureV_eff h, readV_eff h]

/-- Two operations that may be exchanged; 'free': reads beside effects, too. -/
def noConf (free : Bool) (ops : List Oper) (x y : Oper) : Bool :=
  (match x.dst with | some d => !(sees ops y).contains d && !(y.dst == some d) | none => true) &&
  (match y.dst with | some d => !(sees ops x).contains d | none => true) &&
  !(isEff x && isEff y) && (free || !(isEff x && isRead y) && !(isRead x && isEff y))

/-- What an effect's step comes to, its guard reckoned. -/
theorem gstep_eff {T : Tab P} {ops : List Oper} {o : Oper} {K : St → Prop} {st : St} (h : isEff o = true) : gstep T ops o K st ↔
    ((o.guard = none ∧ effP T st o K) ∨ ∃ j want g b, o.guard = some (j, want) ∧ gTmp ops o = some g ∧ gB (st.t g) = some b ∧ (b = some want → effP T st o K) ∧ (b ≠ some want → K (st.put o.dst skipV))) := by
  cases hg : o.guard with
  | none =>
    unfold gstep
    simp [hg, stepP_eff h]
  | some q =>
    obtain ⟨j, want⟩ := q
    rw [gstep_some hg, stepP_eff h]
    constructor
    · rintro ⟨g, b, h1, h2, h3, h4⟩
      exact .inr ⟨j, want, g, b, rfl, h1, h2, h3, h4⟩
    · rintro (⟨h', _⟩ | ⟨j', w', g, b, h0, h1, h2, h3, h4⟩)
      · cases h'
      · cases h0; exact ⟨g, b, h1, h2, h3, h4⟩

theorem gstep_mono {T : Tab P} {ops : List Oper} {o : Oper} {K K' : St → Prop} {st : St} (hi : ∀ s, K s → K' s) (h : gstep T ops o K st) : gstep T ops o K' st := by
  cases he : isEff o with
  | false =>
    obtain ⟨p, v, h1, h2, h3⟩ := (gstep_quiet he).1 h
    exact (gstep_quiet he).2 ⟨p, v, h1, h2, hi _ h3⟩
  | true =>
    refine (gstep_eff he).2 ?_
    rcases (gstep_eff he).1 h with ⟨h1, h2⟩ | ⟨j, want, g, b, h1, h2, h3, h4, h5⟩
    · exact .inl ⟨h1, effP_temp h2 fun s _ _ hs => hi s hs⟩
    · exact .inr ⟨j, want, g, b, h1, h2, h3, fun e => effP_temp (h4 e) fun s _ _ hs => hi s hs, fun e => hi _ (h5 e)⟩

/-- What is read lies in objects that no effect turns. -/
def rdIds (ids : Option (List Nat)) (st : St) (o : Oper) : Prop :=
  match ids with
  | none => True
  | some l => match o.op with
    | .load _ x => match ev st.t x with
      | .ptr a => l.contains a.id = true
      | _ => True
    | _ => True
def Stab (ids : Option (List Nat)) (H H' : List AObj) : Prop :=
  match ids with
  | none => True
  | some l => ∀ id, l.contains id = true → getL H' id = getL H id

def gstepS (T : Tab P) (ids : Option (List Nat)) (ops : List Oper) (o : Oper) (K : St → Prop) (st : St) : Prop :=
  VC (rdIds ids st o) (gstep T ops o (fun s => VC (Stab ids st.h s.h) (K s)) st)

theorem sameRd_of {ids : Option (List Nat)} {st st' : St} {o : Oper} (h1 : rdIds ids st o) (h2 : Stab ids st.h st'.h) (h3 : ids.isSome = true) : sameRd st st' o := fun ty x a e ea => by
  cases ids with
  | none => cases h3
  | some l =>
    simp only [rdIds, e, ea] at h1
    exact (h2 a.id h1).symm

theorem rdIds_congr {ids : Option (List Nat)} {st st' : St} {o : Oper} (h : ∀ k ∈ looks o, st.t k = st'.t k) (h1 : rdIds ids st o) : rdIds ids st' o := by
  cases ids with
  | none => trivial
  | some l =>
    obtain ⟨dst, op, ty, pos, after, guard⟩ := o
    cases op <;> simp only [rdIds] at h1 ⊢
    case load lt x =>
      have := ev_looks h x (by simp [Op.operands])
      rw [← this]; exact h1

theorem Stab.refl (ids : Option (List Nat)) (H : List AObj) : Stab ids H H := by cases ids <;> simp [Stab]

theorem swap {T : Tab P} {ids : Option (List Nat)} {ops : List Oper} {x y : Oper} {K : St → Prop} {st : St} (hc : noConf ids.isSome ops x y = true) (h : gstepS T ids ops x (gstepS T ids ops y K) st) : gstepS T ids ops y (gstepS T ids ops x K) st := by
  unfold noConf at hc
  simp only [Bool.and_eq_true, Bool.not_eq_true'] at hc
  obtain ⟨⟨⟨c1, c2⟩, c3⟩, c4⟩ := hc
  have hxy : ∀ k, x.dst = some k → k ∉ sees ops y ∧ y.dst ≠ some k := fun k hk => by
    rw [hk] at c1
    simp only [Bool.and_eq_true, Bool.not_eq_true', List.contains_eq_mem] at c1
    exact ⟨by simpa using c1.1, by simpa using c1.2⟩
  have hyx : ∀ k, y.dst = some k → k ∉ sees ops x ∧ x.dst ≠ some k := fun k hk => by
    rw [hk] at c2
    simp only [Bool.not_eq_true', List.contains_eq_mem] at c2
    refine ⟨by simpa using c2, fun e => (hxy k e).2 hk⟩
  have txy : ∀ (s : St) (v : AV), ∀ k ∈ sees ops y, s.t k = (s.put x.dst v).t k := fun s v k hk => (St.put_t s _ v k (fun e => (hxy k e).1 hk)).symm
  have tyx : ∀ (s : St) (v : AV), ∀ k ∈ sees ops x, s.t k = (s.put y.dst v).t k := fun s v k hk => (St.put_t s _ v k (fun e => (hyx k e).1 hk)).symm
  have comm : ∀ (s : St) (v u : AV), (s.put x.dst v).put y.dst u = (s.put y.dst u).put x.dst v := fun s v u => St.put_comm s (fun k hk => (hxy k hk).2) v u
  have lk : ∀ {o : Oper} {k : Nat}, k ∉ sees ops o → k ∉ looks o := fun h h' => h (by simp [sees, h'])
  have lks : ∀ {o : Oper} {k : Nat}, k ∈ looks o → k ∈ sees ops o := fun h => by simp [sees, h]
  have hph := fun (s : St) (d : Option Nat) (v : AV) => St.put_h s d v
  obtain ⟨hrx0, h⟩ := h
  cases hx : isEff x <;> cases hy : isEff y
  · -- both quiet
    obtain ⟨p, v, h1, hp, h2⟩ := (gstep_quiet hx).1 h
    obtain ⟨hry0, h2⟩ := h2.k
    obtain ⟨q, u, h3, hq, h4⟩ := (gstep_quiet hy).1 h2
    have hS := fun (s s' : St) (e : s.h = s'.h) => (show Stab ids s.h s'.h by rw [e]; exact Stab.refl _ _)
    refine ⟨rdIds_congr (fun k hk => (txy st v k (lks hk)).symm) hry0, (gstep_quiet hy).2 ⟨q, u, gval_congr (fun k hk => (txy st v k hk).symm) (sameRd_heap (hph ..)) h3, hq, hS _ _ (hph ..).symm, ?_⟩⟩
    refine ⟨rdIds_congr (fun k hk => tyx st u k (lks hk)) hrx0, (gstep_quiet hx).2 ⟨p, v, gval_congr (tyx st u) (sameRd_heap (hph ..).symm) h1, hp, hS _ _ (hph ..).symm, ?_⟩⟩
    rw [← comm]; exact h4.k
  · -- x quiet, y an effect
    obtain ⟨p, v, h1, hp, h2⟩ := (gstep_quiet hx).1 h
    obtain ⟨hry0, h2⟩ := h2.k
    rw [hph] at h2
    have hsame : ∀ s : St, Stab ids st.h s.h → sameRd st s x := fun s hs => by
      cases hi : ids.isSome with
      | true => exact sameRd_of hrx0 hs hi
      | false =>
        rw [hi] at c4
        simp only [Bool.false_or, Bool.and_eq_true, Bool.not_eq_true'] at c4
        exact sameRd_quiet (by cases hq : isRead x with | false => rfl | true => simp [hq, hy] at c4)
    have hback : ∀ s r, s.t = (st.put y.dst r).t → VC (Stab ids st.h (s.put x.dst v).h) (K (s.put x.dst v)) → VC (Stab ids st.h s.h) (gstepS T ids ops x K s) := fun s r hs hk => by
      have hst : Stab ids st.h s.h := by have := hk.vc; rw [hph] at this; exact this
      refine ⟨hst, rdIds_congr (fun k hk => by rw [hs]; exact tyx st r k (lks hk)) hrx0, (gstep_quiet hx).2 ⟨p, v, gval_congr (fun k hk => by rw [hs]; exact tyx st r k hk) (hsame s hst) h1, hp, ?_, hk.k⟩⟩
      rw [hph]; exact Stab.refl _ _
    have heff : effP T (st.put x.dst v) y (fun s => VC (Stab ids st.h s.h) (K s)) → effP T st y (fun s => VC (Stab ids st.h s.h) (gstepS T ids ops x K s)) := fun he =>
      effP_temp ((effP_put (fun k hk => lk (hxy k hk).1) (fun k hk => (hxy k hk).2)).1 he) hback
    refine ⟨rdIds_congr (fun k hk => (txy st v k (lks hk)).symm) hry0, (gstep_eff hy).2 ?_⟩
    rcases (gstep_eff hy).1 h2 with ⟨g1, g2⟩ | ⟨j, want, g, b, g1, g2, g3, g4, g5⟩
    · exact .inl ⟨g1, heff g2⟩
    · refine .inr ⟨j, want, g, b, g1, g2, ?_, fun e => heff (g4 e), fun e => hback _ skipV rfl (by rw [← comm]; exact g5 e)⟩
      rw [txy st v g (by simp [sees, g2])]; exact g3
  · -- x an effect, y quiet
    have hsame : ∀ s : St, rdIds ids s y → Stab ids st.h s.h → sameRd s st y := fun s hr hs => by
      cases hi : ids.isSome with
      | true =>
        refine sameRd_of hr ?_ hi
        cases ids with
        | none => trivial
        | some l => exact fun id hid => (hs id hid).symm
      | false =>
        rw [hi] at c4
        simp only [Bool.false_or, Bool.and_eq_true, Bool.not_eq_true'] at c4
        exact sameRd_quiet (by cases hq : isRead y with | false => rfl | true => simp [hq, hx] at c4)
    have hone : ∀ s r, s.t = (st.put x.dst r).t → VC (Stab ids st.h s.h) (gstepS T ids ops y K s) → rdIds ids st y ∧ ∃ p v, gval T ops y st p v ∧ p := fun s r hr hk => by
      obtain ⟨hst, hrd, hk⟩ := hk
      obtain ⟨p, v, h1, hp, _⟩ := (gstep_quiet hy).1 hk
      have ht : ∀ k ∈ sees ops y, s.t k = st.t k := fun k hk => by rw [hr]; exact (txy st r k hk).symm
      exact ⟨rdIds_congr (fun k hk => ht k (lks hk)) hrd, p, v, gval_congr ht (hsame s hrd hst) h1, hp⟩
    have hsome : effP T st x (fun s => VC (Stab ids st.h s.h) (gstepS T ids ops y K s)) → rdIds ids st y ∧ ∃ p v, gval T ops y st p v ∧ p := fun he => by
      obtain ⟨s, r, hr, hk⟩ := effP_some (effP_temp (K' := fun s => ∃ r, s.t = (st.put x.dst r).t ∧ VC (Stab ids st.h s.h) (gstepS T ids ops y K s)) he fun s r hr hk => ⟨r, hr, hk⟩)
      exact hone s r hr hk
    have hval : rdIds ids st y ∧ ∃ p v, gval T ops y st p v ∧ p := by
      rcases (gstep_eff hx).1 h with ⟨g1, g2⟩ | ⟨j, want, g, b, g1, g2, g3, g4, g5⟩
      · exact hsome g2
      · by_cases e : b = some want
        · exact hsome (g4 e)
        · exact hone _ skipV rfl (g5 e)
    obtain ⟨hry, p, v, h1, hp⟩ := hval
    have hgo : ∀ s r, s.t = (st.put x.dst r).t → VC (Stab ids st.h s.h) (gstepS T ids ops y K s) → VC (Stab ids st.h (s.put y.dst v).h) (K (s.put y.dst v)) := fun s r hr hk => by
      obtain ⟨hst, hrd, hk⟩ := hk
      obtain ⟨p', v', h1', _, hK'⟩ := (gstep_quiet hy).1 hk
      have ht : ∀ k ∈ sees ops y, s.t k = st.t k := fun k hk => by rw [hr]; exact (txy st r k hk).symm
      have := gval_congr ht (hsame s hrd hst) h1'
      obtain ⟨_, rfl⟩ := gval_fun this h1
      exact ⟨by rw [hph]; exact hst, hK'.k⟩
    have heff : effP T st x (fun s => VC (Stab ids st.h s.h) (gstepS T ids ops y K s)) → effP T (st.put y.dst v) x (fun s => VC (Stab ids (st.put y.dst v).h s.h) (K s)) := fun he => by
      rw [hph]
      exact (effP_put (fun k hk => lk (hyx k hk).1) (fun k hk => (hyx k hk).2)).2 (effP_temp he hgo)
    refine ⟨hry, (gstep_quiet hy).2 ⟨p, v, h1, hp, by rw [hph]; exact Stab.refl _ _, rdIds_congr (fun k hk => tyx st v k (lks hk)) hrx0, (gstep_eff hx).2 ?_⟩⟩
    rcases (gstep_eff hx).1 h with ⟨g1, g2⟩ | ⟨j, want, g, b, g1, g2, g3, g4, g5⟩
    · exact .inl ⟨g1, heff g2⟩
    · refine .inr ⟨j, want, g, b, g1, g2, ?_, fun e => heff (g4 e), fun e => by rw [← comm, hph]; exact hgo _ skipV rfl (g5 e)⟩
      rw [← tyx st v g (by simp [sees, g2])]; exact g3
  · simp [hx, hy] at c3

/-! ### Any order -/
def listS (T : Tab P) (ids : Option (List Nat)) (ops : List Oper) : List Oper → (St → Prop) → St → Prop
  | [], K, st => K st
  | o :: r, K, st => gstepS T ids ops o (listS T ids ops r K) st

theorem gstepS_mono {T : Tab P} {ids : Option (List Nat)} {ops : List Oper} {o : Oper} {K K' : St → Prop} {st : St} (hi : ∀ s, K s → K' s) (h : gstepS T ids ops o K st) : gstepS T ids ops o K' st :=
  ⟨h.vc, gstep_mono (fun s hs => ⟨hs.vc, hi s hs.k⟩) h.k⟩

theorem to_front {T : Tab P} {ids : Option (List Nat)} {ops : List Oper} {x : Oper} {K : St → Prop} : ∀ (pre post : List Oper) (st : St), (∀ y ∈ pre, noConf ids.isSome ops y x = true) → listS T ids ops (pre ++ x :: post) K st → gstepS T ids ops x (listS T ids ops (pre ++ post) K) st
  | [], post, st, _, h => h
  | y :: pre, post, st, hc, h => by
    refine swap (hc y (by simp)) ?_
    exact gstepS_mono (fun s hs => to_front pre post s (fun z hz => hc z (by simp [hz])) hs) h

/-- The operations that surely come before, each told by a number's digits. -/
def befs : List Oper → List Nat → List Nat
  | [], acc => acc
  | o :: r, acc => befs r (acc ++ [o.after.toList.foldl (fun s e => bif Region.binds .any e then s ||| 2 ^ e.on ||| acc.getD e.on 0 else s) 0])

inductive Anc (ops : List Oper) : Nat → Nat → Prop
  | one {j i : Nat} {o : Oper} {e : Edge} (ho : ops[i]? = some o) (he : e ∈ o.after.toList) (hb : Region.binds .any e = true) (hj : e.on = j) : Anc ops j i
  | more {j i : Nat} {o : Oper} {e : Edge} (ho : ops[i]? = some o) (he : e ∈ o.after.toList) (hb : Region.binds .any e = true) (h : Anc ops j e.on) : Anc ops j i

theorem fold_bits {ops : List Oper} {i : Nat} {o : Oper} (ho : ops[i]? = some o) (acc : List Nat) (hacc : ∀ k m, acc[k]? = some m → ∀ j, m.testBit j = true → Anc ops j k) :
    ∀ (es : List Edge) (s : Nat), (∀ e ∈ es, e ∈ o.after.toList) → (∀ j, s.testBit j = true → Anc ops j i) → ∀ j, (es.foldl (fun s e => bif Region.binds .any e then s ||| 2 ^ e.on ||| acc.getD e.on 0 else s) s).testBit j = true → Anc ops j i
  | [], s, _, hs, j, h => hs j h
  | e :: es, s, hes, hs, j, h => by
    refine fold_bits ho acc hacc es _ (fun e' he' => hes e' (by simp [he'])) (fun j' hj' => ?_) j h
    cases hb : Region.binds .any e with
    | false => simp only [hb, cond_false] at hj'; exact hs j' hj'
    | true =>
      simp only [hb, cond_true, Nat.testBit_or, Bool.or_eq_true, Nat.testBit_two_pow, decide_eq_true_eq] at hj'
      rcases hj' with (hj' | hj') | hj'
      · exact hs j' hj'
      · exact .one ho (hes e (by simp)) hb hj'
      · cases hq : acc[e.on]? with
        | none => simp [List.getD_eq_getElem?_getD, hq] at hj'
        | some m =>
          rw [List.getD_eq_getElem?_getD, hq] at hj'
          exact .more ho (hes e (by simp)) hb (hacc _ m hq j' hj')

theorem befs_spec {ops : List Oper} : ∀ (l : List Oper) (acc : List Nat), (∀ k, l[k]? = ops[acc.length + k]?) → (∀ k m, acc[k]? = some m → ∀ j, m.testBit j = true → Anc ops j k) → ∀ k m, (befs l acc)[k]? = some m → ∀ j, m.testBit j = true → Anc ops j k
  | [], acc, _, h, k, m, hm => h k m hm
  | o :: r, acc, hl, h, k, m, hm => by
    have ho : ops[acc.length]? = some o := by have := hl 0; simpa using this.symm
    refine befs_spec r _ (fun k => ?_) (fun k m hm j hj => ?_) k m hm
    · have := hl (k + 1)
      rw [List.getElem?_cons_succ] at this
      rw [List.length_append, List.length_singleton, show acc.length + 1 + k = acc.length + (k + 1) by omega]; exact this
    · rcases snoc_get hm with ⟨_, hm⟩ | ⟨rfl, rfl⟩
      · exact h k m hm j hj
      · exact fold_bits ho acc h _ 0 (fun _ h => h) (fun j hj => by simp at hj) j hj

/-- Each pair of operations that may not be exchanged is ordered. -/
def ordOk (free : Bool) (ops : List Oper) (masks : List Nat) : Bool :=
  (List.range ops.length).all fun j => (List.range j).all fun i =>
    match ops[i]?, ops[j]? with
    | some x, some y => noConf free ops x y || (masks.getD j 0).testBit i
    | _, _ => true
def edgesOk (ops : List Oper) : Bool :=
  (List.range ops.length).all fun j => match ops[j]? with
    | some o => o.after.toList.all fun e => !Region.binds .any e || Nat.blt e.on j
    | none => true

def drawOk (free : Bool) (n : Nat) (ops : List Oper) : Bool := ops.all (dstOk n) && edgesOk ops && ordOk free ops (befs ops [])

section
variable {T : Tab P} {cx : Cx} {Q : Exit → Act → World → Prop} {K : St → Prop} {ops : Array Oper} {ids : Option (List Nat)}

/-- The operations that aren't listed yet, in the text's order. -/
def unl (ops : Array Oper) (listed : Array Bool) : List Nat := (List.range ops.size).filter fun i => !listed.getD i true

theorem mem_unl {listed : Array Bool} {i : Nat} : i ∈ unl ops listed ↔ i < ops.size ∧ listed.getD i true = false := by simp [unl]

theorem unl_set {listed : Array Bool} (hs : listed.size = ops.size) {i : Nat} (hi : i ∈ unl ops listed) : ∃ pre post, unl ops listed = pre ++ i :: post ∧ unl ops (listed.setIfInBounds i true) = pre ++ post ∧ (∀ j ∈ pre, j < i) := by
  have hi' := mem_unl.1 hi
  have hsplit : List.range ops.size = List.range i ++ i :: (List.range' (i + 1) (ops.size - (i + 1))) := by
    have h1 : List.range' 0 i ++ List.range' (0 + i) (1 + (ops.size - (i + 1))) = List.range' 0 (i + (1 + (ops.size - (i + 1)))) := by rw [List.range'_append_1]
    rw [show i + (1 + (ops.size - (i + 1))) = ops.size by omega, Nat.zero_add, Nat.add_comm 1, List.range'_succ] at h1
    rw [List.range_eq_range', List.range_eq_range', ← h1]
  refine ⟨(List.range i).filter (fun i => !listed.getD i true), (List.range' (i + 1) (ops.size - (i + 1))).filter (fun i => !listed.getD i true), ?_, ?_, fun j hj => by simp at hj; exact hj.1⟩
  · unfold unl
    rw [hsplit, List.filter_append, List.filter_cons, hi'.2]; rfl
  · unfold unl
    rw [hsplit, List.filter_append, List.filter_cons]
    have hne : ∀ k, k ≠ i → (listed.setIfInBounds i true).getD k true = listed.getD k true := fun k hk => by
      simp only [Array.getD_eq_getD_getElem?, Array.getElem?_setIfInBounds, Ne.symm hk, if_false]
    have hsame : (listed.setIfInBounds i true).getD i true = true := by
      simp only [Array.getD_eq_getD_getElem?, Array.getElem?_setIfInBounds, if_true]
      split <;> rfl
    rw [hsame]
    simp only [Bool.not_true, Bool.false_eq_true, if_false]
    congr 1
    · exact List.filter_congr fun k hk => by rw [hne k (by simp at hk; omega)]
    · exact List.filter_congr fun k hk => by rw [hne k (by simp [List.mem_range'] at hk; omega)]

/-- Whether an operation may come next. -/
def rdyB (md : Region.Mode) (ops : List Oper) (done : List Nat) (i : Nat) : Bool :=
  !done.any (Nat.beq i) && match getL ops i with
    | some o => o.after.toList.all fun e => !Region.binds md e || done.any (Nat.beq e.on)
    | none => false
/-- There is an order that all edges allow. -/
def progGo (md : Region.Mode) (ops : List Oper) : Nat → List Nat → Bool
  | 0, done => (List.range ops.length).all fun i => done.any (Nat.beq i)
  | f + 1, done => match (List.range ops.length).find? (rdyB md ops done) with
    | some i => progGo md ops f (i :: done)
    | none => (List.range ops.length).all fun i => done.any (Nat.beq i)

theorem binds_any {e : Edge} (h : Region.binds .any e = true) (md : Region.Mode) : Region.binds md e = true := by
  unfold Region.binds at h ⊢
  split at h <;> first | rfl | (simp at h)

theorem anyBeq {l : List Nat} {i : Nat} : l.any (Nat.beq i) = true ↔ i ∈ l := by
  simp only [List.any_eq_true]
  constructor
  · rintro ⟨x, hx, hb⟩; rw [Nat.eq_of_beq_eq_true hb]; exact hx
  · intro h; exact ⟨i, h, Nat.beq_refl i⟩

theorem progGo_spec {md : Region.Mode} {ops : Array Oper} {listed : Array Bool} (hsz : listed.size = ops.size) (hr : Region.ready md ops listed = []) :
    ∀ (f : Nat) (done : List Nat), (∀ d ∈ done, listed.getD d false = true) → progGo md ops.toList f done = true → unl ops listed = [] := by
  have fin : ∀ done : List Nat, (∀ d ∈ done, listed.getD d false = true) → ((List.range ops.toList.length).all fun i => done.any (Nat.beq i)) = true → unl ops listed = [] := fun done hd hall => by
    unfold unl
    rw [List.filter_eq_nil_iff]
    intro i hi
    have hi' : i < ops.size := by simpa using hi
    have := List.all_eq_true.1 hall i (by simpa using hi')
    have := hd i (anyBeq.1 this)
    simp only [Array.getD_eq_getD_getElem?] at this ⊢
    rw [Array.getElem?_eq_getElem (by omega)] at this ⊢
    simpa using this
  intro f
  induction f with
  | zero => intro done hd h; exact fin done hd h
  | succ f ih =>
    intro done hd h
    unfold progGo at h
    split at h
    · rename_i i hi
      refine ih (i :: done) (fun d hdm => ?_) h
      rcases List.mem_cons.1 hdm with rfl | hdm
      · have hrd := List.find?_some hi
        have hlt : d < ops.size := by simpa using List.mem_of_find?_eq_some hi
        unfold rdyB at hrd
        simp only [Bool.and_eq_true] at hrd
        obtain ⟨_, hrd⟩ := hrd
        rw [getL_eq, Array.getElem?_toList] at hrd
        cases hq : listed.getD d false with
        | true => rfl
        | false =>
          exfalso
          have hmem : d ∈ Region.ready md ops listed := by
            simp only [Region.ready, List.mem_filter, List.mem_range, Bool.and_eq_true, Bool.not_eq_true']
            refine ⟨hlt, ?_, ?_⟩
            · simp only [Array.getD_eq_getD_getElem?] at hq ⊢
              rw [Array.getElem?_eq_getElem (by omega)] at hq ⊢
              simpa using hq
            · rw [Array.getElem?_eq_getElem hlt] at hrd ⊢
              simp only [Option.map_some, Option.getD_some, ← Array.all_toList]
              refine List.all_eq_true.2 fun e he => ?_
              have := List.all_eq_true.1 hrd e he
              simp only [Bool.or_eq_true] at this ⊢
              rcases this with h' | h'
              · exact .inl h'
              · exact .inr (hd _ (anyBeq.1 h'))
          rw [hr] at hmem; cases hmem
      · exact hd d hdm
    · exact fin done hd h

theorem any_sound {md : Region.Mode} (hsome : ∀ listed : Array Bool, listed.size = ops.size → Region.ready md ops listed = [] → unl ops listed = []) (hchk : drawOk ids.isSome cx.n ops.toList = true) (hn : ∀ st' ρ' a' w', K st' → Sim cx ρ' st' a' w' → Q .normal a' w') :
    ∀ (fuel : Nat) (listed : Array Bool) (st : St) (ρ : Ren) (a : Act) (w : World), listed.size = ops.size → (unl ops listed).length ≤ fuel →
      (∀ (k : Nat) (o : Oper) (e : Edge), listed.getD k false = true → ops[k]? = some o → e ∈ o.after.toList → Region.binds .any e = true → listed.getD e.on false = true) →
      listS T ids ops.toList ((unl ops listed).filterMap (ops[·]?)) K st → Sim cx ρ st a w → wpAny P md ops Q fuel listed a w := by
  simp only [drawOk, Bool.and_eq_true] at hchk
  obtain ⟨⟨hd, he⟩, ho⟩ := hchk
  have hedge : ∀ (j : Nat) (o : Oper) (e : Edge), ops[j]? = some o → e ∈ o.after.toList → Region.binds .any e = true → e.on < j := fun j o e hj hm hb => by
    have hlt : j < ops.size := by have := (Array.getElem?_eq_some_iff.1 hj).1; exact this
    have := List.all_eq_true.1 he j (by simpa using hlt)
    rw [Array.getElem?_toList, hj] at this
    have := List.all_eq_true.1 this e hm
    rw [hb] at this
    simpa [Nat.blt_eq] using this
  have hord : ∀ (i j : Nat) (x y : Oper), i < j → ops[i]? = some x → ops[j]? = some y → noConf ids.isSome ops.toList x y = true ∨ Anc ops.toList i j := fun i j x y hij hx hy => by
    have hlt : j < ops.size := (Array.getElem?_eq_some_iff.1 hy).1
    have := List.all_eq_true.1 (List.all_eq_true.1 ho j (by simpa using hlt)) i (by simpa using hij)
    simp only [Array.getElem?_toList, hx, hy, Bool.or_eq_true] at this
    rcases this with h | h
    · exact .inl h
    · right
      cases hq : (befs ops.toList [])[j]? with
      | none => rw [List.getD_eq_getElem?_getD, hq] at h; simp at h
      | some m =>
        rw [List.getD_eq_getElem?_getD, hq] at h
        exact befs_spec ops.toList [] (fun k => by simp) (fun k m h => by simp at h) j m hq i h
  have hanc : ∀ (listed : Array Bool), (∀ (k : Nat) (o : Oper) (e : Edge), listed.getD k false = true → ops[k]? = some o → e ∈ o.after.toList → Region.binds .any e = true → listed.getD e.on false = true) →
      ∀ i j, Anc ops.toList i j → (∀ (o : Oper) (e : Edge), ops[j]? = some o → e ∈ o.after.toList → Region.binds .any e = true → listed.getD e.on false = true) → listed.getD i false = true := fun listed hcl i j h => by
    induction h with
    | one ho he hb hj => intro h0; rw [← hj]; exact h0 _ _ (by rw [← Array.getElem?_toList]; exact ho) he hb
    | more ho he hb h ih =>
      intro h0
      have h1 := h0 _ _ (by rw [← Array.getElem?_toList]; exact ho) he hb
      exact ih fun o e ho' he' hb' => hcl _ o e h1 ho' he' hb'
  have hgd : ∀ (listed : Array Bool) (k : Nat), listed.getD k true = false → listed.getD k false = false := fun listed k h => by
    simp only [Array.getD_eq_getD_getElem?] at h ⊢
    cases hq : listed[k]? with
    | none => rfl
    | some b => rw [hq] at h; simpa using h
  have hready : ∀ (listed : Array Bool) (i : Nat), i ∈ Region.ready md ops listed ↔ (i ∈ unl ops listed ∧ ∃ o, ops[i]? = some o ∧ ∀ e ∈ o.after.toList, Region.binds md e = true → listed.getD e.on false = true) := fun listed i => by
    simp only [Region.ready, List.mem_filter, List.mem_range, Bool.and_eq_true, Bool.not_eq_true', mem_unl]
    constructor
    · rintro ⟨h1, h2, h3⟩
      cases hq : ops[i]? with
      | none => rw [hq] at h3; cases h3
      | some o =>
        rw [hq] at h3
        refine ⟨⟨h1, h2⟩, o, rfl, fun e he hb => ?_⟩
        simp only [Option.map_some, Option.getD_some, ← Array.all_toList] at h3
        have := List.all_eq_true.1 h3 e he
        rw [hb] at this; simpa using this
    · rintro ⟨⟨h1, h2⟩, o, hq, h3⟩
      refine ⟨h1, h2, ?_⟩
      rw [hq]
      simp only [Option.map_some, Option.getD_some, ← Array.all_toList]
      refine List.all_eq_true.2 fun e he => ?_
      cases hb : Region.binds md e with
      | false => rfl
      | true => rw [h3 e he hb]; rfl
  intro fuel
  induction fuel with
  | zero =>
    intro listed st ρ a w hsz hfuel hcl hK hS
    have hu : unl ops listed = [] := List.eq_nil_of_length_eq_zero (by omega)
    refine ⟨?_, ?_⟩
    · cases hr : Region.ready md ops listed with
      | nil => rfl
      | cons i rest =>
        have := ((hready listed i).1 (by rw [hr]; simp)).1
        rw [hu] at this; cases this
    · rw [hu] at hK
      exact hn st ρ a w hK hS
  | succ fuel ih =>
    intro listed st ρ a w hsz hfuel hcl hK hS
    refine ⟨fun hr => ?_, fun i hi => ?_⟩
    · rw [hsome listed hsz hr] at hK
      exact hn st ρ a w hK hS
    · obtain ⟨hiu, o, ho, haft0⟩ := (hready listed i).1 hi
      have haft : ∀ e ∈ o.after.toList, Region.binds .any e = true → listed.getD e.on false = true := fun e he hb => haft0 e he (binds_any hb md)
      obtain ⟨pre, post, h1, h2, h3⟩ := unl_set hsz hiu
      rw [h1, List.filterMap_append, List.filterMap_cons, ho] at hK
      have hfront := to_front _ _ _ (fun y hy => by
        obtain ⟨j, hj, hjy⟩ := List.mem_filterMap.1 hy
        have hji := h3 j hj
        rcases hord j i y o hji hjy ho with h | h
        · exact h
        · exfalso
          have hju : j ∈ unl ops listed := by rw [h1]; simp [hj]
          have := hanc listed hcl j i h (fun o' e ho' he' hb' => by rw [ho] at ho'; cases ho'; exact haft e he' hb')
          rw [hgd listed j (mem_unl.1 hju).2] at this; cases this) hK
      have hdst : dstOk cx.n o = true := List.all_eq_true.1 hd o (by
        have := List.mem_of_getElem? (l := ops.toList) (i := i) (a := o) (by rw [Array.getElem?_toList]; exact ho); exact this)
      unfold wpOp
      rw [ho]
      simp only
      refine gstep_sound hS hdst hfront.k Q _ (fun st' ρ' a' w' hk hs => ?_)
      refine ih (listed.setIfInBounds i true) st' ρ' a' w' (by simpa using hsz) ?_ ?_ ?_ hs
      · rw [h2]; rw [h1] at hfuel; simp only [List.length_append, List.length_cons] at hfuel ⊢; omega
      · intro k o' e hk' ho' he' hb'
        by_cases hki : k = i
        · subst hki
          rw [ho] at ho'; cases ho'
          have := haft e he' hb'
          have hlt := hedge k _ e ho he' hb'
          simp only [Array.getD_eq_getD_getElem?, Array.getElem?_setIfInBounds] at this ⊢
          rw [if_neg (by omega)]; exact this
        · have hk0 : listed.getD k false = true := by
            simp only [Array.getD_eq_getD_getElem?, Array.getElem?_setIfInBounds] at hk' ⊢
            rw [if_neg (Ne.symm hki)] at hk'; exact hk'
          have := hcl k o' e hk0 ho' he' hb'
          simp only [Array.getD_eq_getD_getElem?, Array.getElem?_setIfInBounds] at this ⊢
          by_cases he2 : i = e.on
          · rw [if_pos he2]
            have : i < listed.size := by rw [hsz]; exact (mem_unl.1 hiu).1
            rw [if_pos this]; rfl
          · rw [if_neg he2]; exact this
      · rw [h2, List.filterMap_append]; exact hk.k
end
end YtnfcnocoehkgoaaAM
