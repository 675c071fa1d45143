/- Code: sequences, tests, blocks, loops; a function's contract; a call by the contract. -/
import Derived.Test.YtofjbgpaofcpjaaAmRegion
set_option linter.unusedVariables false
set_option linter.unusedSimpArgs false
namespace YtofjbgpaofcpjaaAM
open Go
variable {P : Program}

/-- From this state the code comes to an exit and a state of which Q holds. n: temporaries; n0: objects that came in. -/
structure AWP (P : Program) (n n0 : Nat) (c : Code) (Q : Exit → St → Prop) (st : St) : Prop where
  run : ∀ (cx : Cx) (ρ : Ren) (a : Act) (w : World), cx.n = n → cx.n0 = n0 → Sim cx ρ st a w → Code.wp P c (fun e a' w' => ∃ st' ρ', Q e st' ∧ Sim cx ρ' st' a' w') a w

section
variable {n n0 : Nat} {Q : Exit → St → Prop} {st : St}

theorem AWP.mono {c : Code} {Q' : Exit → St → Prop} (h : AWP P n n0 c Q st) (hq : ∀ e s, Q e s → Q' e s) : AWP P n n0 c Q' st :=
  ⟨fun cx ρ a w h1 h2 hs => Code.wp_mono (fun e a' w' ⟨s, ρ', hk, hs'⟩ => ⟨s, ρ', hq e s hk, hs'⟩) (h.run cx ρ a w h1 h2 hs)⟩

theorem AWP.skip (h : Q .normal st) : AWP P n n0 .skip Q st := ⟨fun cx ρ a w _ _ hs => wp_skip ⟨st, ρ, h, hs⟩⟩
theorem AWP.ret (h : Q .ret st) : AWP P n n0 .ret Q st := ⟨fun cx ρ a w _ _ hs => wp_ret ⟨st, ρ, h, hs⟩⟩
theorem AWP.exit {id : Nat} (h : Q (.exit id) st) : AWP P n n0 (.exit id) Q st := ⟨fun cx ρ a w _ _ hs => wp_exit ⟨st, ρ, h, hs⟩⟩

def thenQ (R : St → Prop) (Q : Exit → St → Prop) : Exit → St → Prop
  | .normal, s => R s
  | e, s => Q e s

theorem AWP.seq {x y : Code} (h : AWP P n n0 x (thenQ (AWP P n n0 y Q) Q) st) : AWP P n n0 (.seq x y) Q st :=
  ⟨fun cx ρ a w h1 h2 hs => wp_seq (Code.wp_mono (fun e a' w' ⟨s, ρ', hk, hs'⟩ => by
    cases e with
    | normal => exact (show AWP P n n0 y Q s from hk).run cx ρ' a' w' h1 h2 hs'
    | _ => exact ⟨s, ρ', hk, hs'⟩) (h.run cx ρ a w h1 h2 hs))⟩

def blockQ (id : Nat) (Q : Exit → St → Prop) : Exit → St → Prop
  | .exit id', s => match Nat.beq id' id with
    | true => Q .normal s
    | false => Q (.exit id') s
  | e, s => Q e s

theorem AWP.block {id : Nat} {c : Code} (h : AWP P n n0 c (blockQ id Q) st) : AWP P n n0 (.block id c) Q st :=
  ⟨fun cx ρ a w h1 h2 hs => wp_block (Code.wp_mono (fun e a' w' ⟨s, ρ', hk, hs'⟩ => by
    cases e with
    | exit id' =>
      simp only [Exit.inBlock]
      split
      · rename_i hid
        refine ⟨s, ρ', ?_, hs'⟩
        simp only [blockQ, hid, Nat.beq_refl] at hk; exact hk
      · rename_i hid
        refine ⟨s, ρ', ?_, hs'⟩
        have hb : Nat.beq id' id = false := by
          cases hq : Nat.beq id' id with
          | false => rfl
          | true => exact absurd (Nat.eq_of_beq_eq_true hq) hid
        simp only [blockQ, hb] at hk; exact hk
    | _ => exact ⟨s, ρ', hk, hs'⟩) (h.run cx ρ a w h1 h2 hs))⟩

theorem AWP.cond {c : Operand} {x y : Code} {b : Bool} (hc : ev st.t c = .bool b) (ht : b = true → AWP P n n0 x Q st) (hf : b = false → AWP P n n0 y Q st) : AWP P n n0 (.cond c x y) Q st :=
  ⟨fun cx ρ a w h1 h2 hs => by
    have hr := ev_rel hs c
    rw [hc] at hr
    have hv : a.eval c = .bool b := by cases hu : a.eval c <;> rw [hu] at hr <;> cases hr; rfl
    exact wp_cond_split hv (fun e => (ht e).run cx ρ a w h1 h2 hs) (fun e => (hf e).run cx ρ a w h1 h2 hs)⟩

/-- A region in the text's order. -/
theorem AWP.region (T : Tab P) {id : Nat} {ops : Array Oper} (hd : ops.toList.all (dstOk n) = true) (h : listP T ops.toList ops.toList (Q .normal) st) : AWP P n n0 (.region id ops false) Q st :=
  ⟨fun cx ρ a w h1 h2 hs => wp_region_list (listP_sound (fun st' ρ' a' w' hk hs' => ⟨st', ρ', hk, hs'⟩) _ st ρ a w (fun o ho => by rw [h1]; exact List.all_eq_true.1 hd o ho) h hs)⟩

/-- A region in any order. -/
theorem AWP.draw (T : Tab P) (ids : Option (List Nat)) {id : Nat} {ops : Array Oper} (hm : ∀ md, (md = .any ∨ (P.follows .mixedOrders || !Region.departs ops) = false) → progGo md ops.toList ops.toList.length [] = true) (hd : drawOk ids.isSome n ops.toList = true) (h : listS T ids ops.toList ops.toList (Q .normal) st) : AWP P n n0 (.region id ops true) Q st :=
  ⟨fun cx ρ a w h1 h2 hs => wp_region_draw fun t => by
    have main : ∀ (md : Region.Mode) (t : Nat), progGo md ops.toList ops.toList.length [] = true → wpOps P ops (fun e a' w' => ∃ st' ρ', Q e st' ∧ Sim cx ρ' st' a' w') (Region.linearise md ops t) a w.drew := fun md t hp => by
      refine wpAny_sound ops.size t _ a _ (any_sound (T := T) (ids := ids) (K := Q .normal) (cx := cx) (fun listed hsz hr => progGo_spec hsz hr _ [] (by simp) hp) (by rw [h1]; exact hd) (fun st' ρ' a' w' hk hs' => ⟨st', ρ', hk, hs'⟩) ops.size (Array.replicate ops.size false) st ρ a _ (by simp) ?_ ?_ ?_ hs.drew)
      · exact Nat.le_trans (List.length_filter_le _ _) (by simp)
      · intro k o e hk
        simp only [Array.getD_eq_getD_getElem?, Array.getElem?_replicate] at hk
        split at hk <;> simp at hk
      · have hu : unl ops (Array.replicate ops.size false) = List.range ops.size := by
          unfold unl
          rw [List.filter_eq_self]
          intro i hi
          have : i < ops.size := by simpa using hi
          simp [Array.getD_eq_getD_getElem?, this]
        rw [hu]
        have : (List.range ops.size).filterMap (ops[·]?) = ops.toList := by
          apply List.ext_getElem?
          intro i
          rw [Array.getElem?_toList]
          have key : ∀ m, m ≤ ops.size → (List.range m).filterMap (ops[·]?) = ops.toList.take m := fun m => by
            induction m with
            | zero => intro _; simp
            | succ m ih =>
              intro hm
              rw [List.range_succ, List.filterMap_append, ih (by omega)]
              have : ops[m]? = some ops[m] := by simp [show m < ops.size by omega]
              rw [List.filterMap_cons, this, List.filterMap_nil, List.take_add_one, Array.getElem?_toList, this]; rfl
          rw [key ops.size (Nat.le_refl _), List.take_of_length_le (by simp), Array.getElem?_toList]
        rw [this]; exact h
    unfold Region.schedule
    split
    · exact main .any t (hm .any (.inl rfl))
    · rename_i hq
      have hq : (P.follows .mixedOrders || !Region.departs ops) = false := by simpa using hq
      exact main _ _ (hm _ (.inr hq))⟩

end

/-! ### Names turned -/
def AAddr.ren (f : Nat → Nat) (a : AAddr) : AAddr := match a with | ⟨id, row, idx, esz, fld⟩ => ⟨f id, row, idx, esz, fld⟩

mutual
def AV.ren (f : Nat → Nat) : AV → AV
  | .undef => .undef
  | .int k n => .int k n
  | .bool b => .bool b
  | .ptr a => .ptr (a.ren f)
  | .slice a len => .slice (a.ren f) len
  | .cslice a len cap => .cslice (a.ren f) len cap
  | .nilS => .nilS
  | .nilF => .nilF
  | .agg vs => .agg (AV.renL f vs)
  | .vec x => .vec x
  | .tuple vs => .tuple (AV.renL f vs)
  | .func g vs => .func g (AV.renL f vs)
def AV.renL (f : Nat → Nat) : List AV → List AV
  | [] => []
  | v :: r => AV.ren f v :: AV.renL f r
end

theorem AV.renL_eq (f : Nat → Nat) (l : List AV) : AV.renL f l = l.map (AV.ren f) := by
  induction l with
  | nil => rfl
  | cons v r ih => simp [AV.renL, ih]

theorem AV.ren_scalar {f : Nat → Nat} {v : AV} (h : v.scalar = true) : v.ren f = v := by
  cases v <;> simp_all [AV.scalar, AV.ren]

theorem Vec.ren (f : Nat → Nat) (x : Vec) : (AV.agg x.cells).ren f = .agg x.cells := by
  simp only [AV.ren, AV.renL_eq]
  congr 1
  have := List.map_congr_left (f := AV.ren f) (g := id) (l := x.cells) fun v h => AV.ren_scalar (Vec.scalar h)
  simpa using this

theorem VRel.rename {ρ : Ren} {N M : Nat} {f : Nat → Nat} {v : AV} {u : Value} (h : VRel ρ N (v.ren f) u) (hb : v.bd M = true) : VRel (fun id r => ρ (f id) r) M v u := by
  generalize hv : v.ren f = v' at h
  induction h generalizing v with
  | undef u => cases v <;> simp only [AV.ren, reduceCtorEq] at hv; exact .undef u
  | int k n => cases v <;> simp only [AV.ren, reduceCtorEq, AV.int.injEq] at hv; rw [hv.1, hv.2]; exact .int k n
  | bool b => cases v <;> simp only [AV.ren, reduceCtorEq, AV.bool.injEq] at hv; rw [hv]; exact .bool b
  | ptr a h =>
    cases v <;> simp only [AV.ren, reduceCtorEq, AV.ptr.injEq] at hv
    subst hv
    exact .ptr _ (by simpa [AV.bd] using hb)
  | slice a len p cap h hl hc =>
    cases v <;> simp only [AV.ren, reduceCtorEq, AV.slice.injEq] at hv
    obtain ⟨rfl, rfl⟩ := hv
    exact .slice _ _ p cap (by simpa [AV.bd] using hb) hl hc
  | cslice a len p cap h hl hc =>
    cases v <;> simp only [AV.ren, reduceCtorEq, AV.cslice.injEq] at hv
    obtain ⟨rfl, rfl, rfl⟩ := hv
    exact .cslice _ _ p _ (by simpa [AV.bd] using hb) hl hc
  | nilS => cases v <;> simp only [AV.ren, reduceCtorEq] at hv; exact .nilS
  | nilF => cases v <;> simp only [AV.ren, reduceCtorEq] at hv; exact .nilF
  | vec x u h ih =>
    cases v <;> simp only [AV.ren, reduceCtorEq, AV.vec.injEq] at hv
    subst hv
    exact .vec _ u (ih (v := .agg _) (Vec.bd _ M) (Vec.ren f _))
  | agg vs ws hl h ih =>
    cases v <;> simp only [AV.ren, reduceCtorEq, AV.agg.injEq] at hv
    rename_i us
    rw [AV.renL_eq] at hv; subst hv
    refine .agg us ws (by simpa using hl) fun i a v ha hv => ?_
    exact ih i (a.ren f) v (by rw [List.getElem?_map, ha]; rfl) hv (AV.bdL_iff.1 (by simpa [AV.bd] using hb) _ (List.mem_of_getElem? ha)) rfl
  | tuple vs ws hl h ih =>
    cases v <;> simp only [AV.ren, reduceCtorEq, AV.tuple.injEq] at hv
    rename_i us
    rw [AV.renL_eq] at hv; subst hv
    refine .tuple us ws (by simpa using hl) fun i a v ha hv => ?_
    exact ih i (a.ren f) v (by rw [List.getElem?_map, ha]; rfl) hv (AV.bdL_iff.1 (by simpa [AV.bd] using hb) _ (List.mem_of_getElem? ha)) rfl
  | func g vs ws hl h ih =>
    cases v <;> simp only [AV.ren, reduceCtorEq, AV.func.injEq] at hv
    rename_i g' us
    obtain ⟨rfl, hv⟩ := hv
    rw [AV.renL_eq] at hv; subst hv
    refine .func _ us ws (by simpa using hl) fun i a v ha hv => ?_
    exact ih i (a.ren f) v (by rw [List.getElem?_map, ha]; rfl) hv (AV.bdL_iff.1 (by simpa [AV.bd] using hb) _ (List.mem_of_getElem? ha)) rfl

def AObj.ren (f : Nat → Nat) : AObj → AObj
  | .arr ro (.raw n) l => .arr ro (.raw n) (l.map (AV.renL f))
  | o => o

theorem Ty.enc_scalar {τ : Ty} (hτ : ∀ n, τ ≠ .raw n) (x : τ.El) : ∀ c ∈ τ.enc x, c.scalar = true := fun c hc => by
  cases τ <;> simp only [Ty.enc, List.mem_cons, List.not_mem_nil, or_false] at hc
  case raw n => exact absurd rfl (hτ n)
  all_goals (rcases hc with rfl | rfl | rfl) <;> rfl

theorem map_ren_scalar {f : Nat → Nat} : ∀ l : List AV, (∀ c ∈ l, c.scalar = true) → l.map (AV.ren f) = l
  | [], _ => rfl
  | v :: r, h => by simp [AV.ren_scalar (h v (by simp)), map_ren_scalar r (fun c hc => h c (by simp [hc]))]

theorem hdrs_ren (f : Nat → Nat) (id : Nat) : ∀ (k : Nat) (ll : List (List Int)), (hdrs id k ll).map (AV.ren f) = hdrs (f id) k ll
  | _, [] => rfl
  | k, r :: rs => by simp [hdrs, AV.ren, AAddr.ren, hdrs_ren f id (k + 1) rs]

theorem AObj.ren_row (f : Nat → Nat) (o : AObj) (id r : Nat) : (o.ren f).row (f id) r = (o.row id r).map (·.map (AV.ren f)) := by
  cases o with
  | dead => rfl
  | arr ro τ l =>
    have sc : ∀ τ : Ty, (∀ n, τ ≠ .raw n) → ∀ l : List τ.El, (l.flatMap τ.enc).map (AV.ren f) = l.flatMap τ.enc := fun τ hτ l =>
      map_ren_scalar _ fun c hc => by
        obtain ⟨x, _, hx⟩ := List.mem_flatMap.1 hc
        exact Ty.enc_scalar hτ x c hx
    by_cases hr : r = 0
    · cases τ
      case raw n =>
        simp only [AObj.ren, AObj.row, hr, if_true, Option.map_some, Ty.enc]
        congr 1
        induction l with
        | nil => rfl
        | cons x l ih => simp only [List.map_cons, List.flatMap_cons, List.map_append, ← ih, AV.renL_eq]; rfl
      all_goals
        simp only [AObj.ren, AObj.row, hr, if_true, Option.map_some]
        rw [sc _ (by simp) l]
    · cases τ <;> simp [AObj.ren, AObj.row, hr]
  | rows ro ll =>
    by_cases hr : r = 0
    · simp [AObj.ren, AObj.row, hr, hdrs_ren]
    · simp only [AObj.ren, AObj.row, hr, if_false, Option.map_map]
      congr 1
      funext l
      exact (map_ren_scalar _ fun c hc => by
        obtain ⟨z, _, rfl⟩ := List.mem_map.1 hc
        rfl).symm

theorem AObj.ren_ro (f : Nat → Nat) (o : AObj) : (o.ren f).ro = o.ro := by
  cases o with
  | arr ro τ l => cases τ <;> rfl
  | _ => rfl

theorem AObj.ren_wf {f : Nat → Nat} {o : AObj} (h : (o.ren f).wf) : o.wf := by
  cases o with
  | arr ro τ l =>
    cases τ
    case raw n =>
      intro x hx
      have := h (AV.renL f x) (List.mem_map.2 ⟨x, hx, rfl⟩)
      simpa [Ty.enc, AV.renL_eq] using this
    all_goals exact h
  | _ => trivial

/-! ### Weakening and loops -/
def AObj.bdB (N : Nat) : AObj → Bool
  | .dead => true
  | .arr _ (.raw _) l => l.all fun x => AV.bdL N x
  | .arr _ _ _ => true
  | .rows _ _ => true

theorem Ty.enc_bd {N : Nat} {τ : Ty} (hτ : ∀ n, τ ≠ .raw n) (x : τ.El) : ∀ c ∈ τ.enc x, c.bd N = true := fun c hc => AV.bd_scalar (Ty.enc_scalar hτ x c hc)

theorem AObj.bd_of {N id : Nat} {o : AObj} (hid : id < N) (h : o.bdB N = true) : o.bd N id := fun r cs hr c hc => by
  cases o with
  | dead => cases hr
  | arr ro τ l =>
    simp only [AObj.row] at hr
    split at hr
    · cases hr
      obtain ⟨x, hx, hcx⟩ := List.mem_flatMap.1 hc
      cases τ
      case raw n =>
        have := List.all_eq_true.1 h x hx
        exact AV.bdL_iff.1 this c hcx
      all_goals exact Ty.enc_bd (by simp) x c hcx
    · cases hr
  | rows ro ll =>
    simp only [AObj.row] at hr
    split at hr
    · cases hr
      have key : ∀ (l : List (List Int)) (k : Nat), c ∈ hdrs id k l → c.bd N = true := by
        intro l
        induction l with
        | nil => intro k h; cases h
        | cons y ys ih =>
          intro k h
          rcases List.mem_cons.1 h with rfl | h
          · simp [AV.bd, Nat.blt_eq, hid]
          · exact ih _ h
      exact key ll 0 hc
    · obtain ⟨r', hr', rfl⟩ := Option.map_eq_some_iff.1 hr
      obtain ⟨z, _, rfl⟩ := List.mem_map.1 hc
      rfl

/-- A heap that tells no more than another, by other names. -/
structure HWeak (f : Nat → Nat) (H H' : List AObj) : Prop where
  h : ∀ (id : Nat) (o : AObj), H'[id]? = some o → o = .dead ∨ (∃ o', H[f id]? = some o' ∧ (o.ren f).le o' ∧ o.bdB H'.length = true)
  inj : ∀ (id id' : Nat) (o o' : AObj), H'[id]? = some o → H'[id']? = some o' → o.ro = false → o' ≠ .dead → f id = f id' → id = id'

theorem HWeak.key {f : Nat → Nat} {H H' : List AObj} (k : HWeak f H H') {id r : Nat} {o : AObj} {cs : List AV} (ho : H'[id]? = some o) (hr : o.row id r = some cs) :
    ∃ o', H[f id]? = some o' ∧ (o.ren f).wf = (o.ren f).wf ∧ o'.row (f id) r = some (cs.map (AV.ren f)) ∧ (o.ro = false → o'.ro = false) ∧ (∀ c ∈ cs, c.bd H'.length = true) := by
  rcases k.h id o ho with rfl | ⟨o', h1, h2, h3⟩
  · cases hr
  · have hr' : (o.ren f).row (f id) r = some (cs.map (AV.ren f)) := by rw [AObj.ren_row, hr]; rfl
    have := AObj.le_row h2 hr'
    exact ⟨o', h1, rfl, this.1, fun e => this.2 (by rw [AObj.ren_ro]; exact e), AObj.bd_of (List.getElem?_eq_some_iff.1 ho).1 h3 r cs hr⟩

theorem HSim.rename {ρ : Ren} {f : Nat → Nat} {H H' : List AObj} {w : World} (h : HSim ρ H w) (k : HWeak f H H') : HSim (fun id r => ρ (f id) r) H' w := by
  refine ⟨fun id o ho => ?_, fun id o r cs ho hr => ?_, fun id o r id' o' r' ho ho' hr hr' hro hne h0 h0' => ?_⟩
  · rcases k.h id o ho with rfl | ⟨o', h1, h2, _⟩
    · trivial
    · exact AObj.ren_wf (AObj.le_wf h2 (h.wf _ o' h1))
  · obtain ⟨o', h1, _, h2, h3, h4⟩ := k.key ho hr
    have hH := h.row _ o' r _ h1 h2
    refine ⟨by simpa using hH.fits, hH.there, fun e => hH.own (h3 e), fun j c hc => ?_⟩
    obtain ⟨v, hv, hr', h1'⟩ := hH.cell j (c.ren f) (by rw [List.getElem?_map, hc]; rfl)
    exact ⟨v, hv, hr'.rename (h4 c (List.mem_of_getElem? hc)), h1'⟩
  · obtain ⟨cs, hcs⟩ := Option.isSome_iff_exists.1 hr
    obtain ⟨cs', hcs'⟩ := Option.isSome_iff_exists.1 hr'
    obtain ⟨q, h1, _, h2, h3, _⟩ := k.key ho hcs
    obtain ⟨q', h1', _, h2', h3', _⟩ := k.key ho' hcs'
    refine h.apart (f id) q r (f id') q' r' h1 h1' (by rw [h2]; rfl) (by rw [h2']; rfl) (h3 hro) (fun e => hne ?_) h0 h0'
    have e1 := congrArg Prod.fst e
    have e2 := congrArg Prod.snd e
    simp only at e1 e2
    rw [k.inj id id' o o' ho ho' hro (fun e => by subst e; cases hr') e1, e2]

/-- st' tells no more than st, by other names. -/
structure Weak (n0 : Nat) (f : Nat → Nat) (st st' : St) : Prop where
  t : ∀ k, st'.t k = .undef ∨ (st.t k = (st'.t k).ren f ∧ (st'.t k).bd st'.h.length = true)
  big : n0 ≤ st'.h.length
  same : ∀ i : Nat, i < n0 → f i = i
  h : HWeak f st.h st'.h

theorem Sim.weak {cx : Cx} {ρ : Ren} {f : Nat → Nat} {st st' : St} {a : Act} {w : World} (h : Sim cx ρ st a w) (k : Weak cx.n0 f st st') : Sim cx (fun id r => ρ (f id) r) st' a w := by
  refine ⟨fun j => ?_, h.sz, h.df, h.hs.rename k.h, h.fr, fun i hi r => ?_, k.big, fun id o r ho hro hr h0 => ?_⟩
  · rcases k.t j with e | ⟨e, hb⟩
    · rw [e]; exact .undef _
    · exact VRel.rename (by rw [← e]; exact h.tm j) hb
  · simp only [k.same i hi]; exact h.ag i hi r
  · obtain ⟨cs, hcs⟩ := Option.isSome_iff_exists.1 hr
    obtain ⟨q, h1, _, h2, h3, _⟩ := k.h.key ho hcs
    exact h.wr (f id) q r h1 (h3 hro) (by rw [h2]; rfl) h0

section
variable {n n0 : Nat} {Q : Exit → St → Prop} {st : St}
theorem AWP.weak {c : Code} {f : Nat → Nat} {st' : St} (k : Weak n0 f st st') (h : AWP P n n0 c Q st') : AWP P n n0 c Q st :=
  ⟨fun cx ρ a w h1 h2 hs => h.run cx _ a w h1 h2 (hs.weak (by rw [h2]; exact k))⟩

/-- A loop: I tells the state at the head for each ghost; m sinks. -/
theorem AWP.loop {c : Code} {ι : Type} (I : ι → St) (m : ι → Nat) (i0 : ι) (f : Nat → Nat) (h0 : Weak n0 f st (I i0))
    (round : ∀ i, AWP P n n0 c (thenQ (fun s => ∃ i' f, m i' < m i ∧ Weak n0 f s (I i')) Q) (I i)) : AWP P n n0 (.loop c) Q st :=
  ⟨fun cx ρ a w h1 h2 hs => by
    intro b k cs
    have key : ∀ (j : Nat) (i : ι), m i = j → ∀ (ρ : Ren) (a : Act) (w : World), Sim cx ρ (I i) a w →
        ∃ e a' w', (∃ st' ρ', Q e st' ∧ Sim cx ρ' st' a' w') ∧ Arrives P (lone (b.at a (.code c :: .inLoop c :: k)) cs w) b k cs e a' w' := by
      intro j
      induction j using Nat.strongRecOn with
      | _ j ih =>
        intro i hi ρ a w hs
        obtain ⟨e, a₁, w₁, ⟨st₁, ρ₁, hq, hs₁⟩, harr⟩ := (round i).run cx ρ a w h1 h2 hs b (.inLoop c :: k) cs
        cases e with
        | normal =>
          obtain ⟨i', f, hlt, hW⟩ := hq
          obtain ⟨e₂, a₂, w₂, hq₂, harr₂⟩ := ih (m i') (by omega) i' rfl _ a₁ w₁ (hs₁.weak (by rw [h2]; exact hW))
          exact ⟨e₂, a₂, w₂, hq₂, .of_steps (Steps.trans harr (.one step_inLoop)) harr₂⟩
        | exit id => exact ⟨_, a₁, w₁, ⟨st₁, ρ₁, hq, hs₁⟩, .pass (x := .inLoop c) rfl (fun _ _ => .inl (by simp)) harr⟩
        | goto l => exact ⟨_, a₁, w₁, ⟨st₁, ρ₁, hq, hs₁⟩, .pass (x := .inLoop c) rfl (fun _ _ => .inl (by simp)) harr⟩
        | ret => exact ⟨_, a₁, w₁, ⟨st₁, ρ₁, hq, hs₁⟩, .pass (x := .inLoop c) rfl (fun _ _ => .inl (by simp)) harr⟩
        | panic ch => exact ⟨_, a₁, w₁, ⟨st₁, ρ₁, hq, hs₁⟩, .pass (x := .inLoop c) rfl (fun _ _ => .inl (by simp)) harr⟩
        | outgrown => exact ⟨_, a₁, w₁, ⟨st₁, ρ₁, hq, hs₁⟩, .pass (x := .inLoop c) rfl (fun _ _ => .inl (by simp)) harr⟩
    obtain ⟨e, a', w', hq, harr⟩ := key _ i0 rfl _ a w (hs.weak (by rw [h2]; exact h0))
    exact ⟨e, a', w', hq, .of_steps (.one step_loop) harr⟩⟩
end
end YtofjbgpaofcpjaaAM
