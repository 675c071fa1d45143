/- Rows that grow: a row made into rows, and rows put on rows. -/
import Derived.Test.YtofjbgpaofcpjaaAmRowSt
set_option linter.unusedVariables false
set_option linter.unusedSimpArgs false
namespace YtofjbgpaofcpjaaAM
open Go
variable {P : Program}

theorem alloc_cell (w : World) (c : Array Value) (e : TypeId) (k : Nat) : (w.alloc (.cells c e)).cell? ⟨w.heap.size, k, none⟩ = c[k]? := by simp
theorem alloc_frozen (w : World) (c : Array Value) (e : TypeId) (k : Nat) : (w.alloc (.cells c e)).frozen? ⟨w.heap.size, k, none⟩ = false := by simp
def gatF (ρ : Ren) (p0 : Place) (g : Nat → Nat × Nat) : Nat → Place
  | 0 => p0
  | k + 1 => ρ (g k).1 (g k).2

/-- An object made of rows that were others'. -/
theorem HSim.gather {ρ : Ren} {H H1 : List AObj} {w w' : World} (h : HSim ρ H w) (hH1 : HSim ρ H1 w') (hl : H1.length = H.length) (hk : ∀ (j : Nat) (x : AObj) (r : Nat), H1[j]? = some x → (x.row j r).isSome = true → H[j]? = some x)
    (ll : List (List Int)) (p0 : Place) (g : Nat → Nat × Nat)
    (hg : ∀ k r, ll[k]? = some r → ∃ o, H[(g k).1]? = some o ∧ o.ro = false ∧ o.row (g k).1 (g k).2 = some (ints .i64 r) ∧ RowH ρ H.length w' (ρ (g k).1 (g k).2) false (ints .i64 r) ∧ ∀ x, H1[(g k).1]? = some x → x = .dead)
    (hinj : ∀ k k', k < ll.length → k' < ll.length → g k = g k' → k = k')
    (hfit : ll.length ≤ p0.room) (hth : 0 < p0.room → p0.block < w'.heap.size) (hown : Own w' p0)
    (hcell : ∀ k r, ll[k]? = some r → ∃ p cap, w'.cell? (p0.addr k) = some (.slice p r.length cap) ∧ r.length ≤ cap ∧ (cap = 0 ∨ (p = some ((ρ (g k).1 (g k).2).addr 0) ∧ cap ≤ (ρ (g k).1 (g k).2).room)))
    (hap0 : ∀ (j : Nat) (o : AObj) (q : Nat), H1[j]? = some o → (o.row j q).isSome = true → 0 < p0.room → 0 < (ρ j q).room → p0.block ≠ (ρ j q).block)
    (hap1 : ∀ k, k < ll.length → 0 < p0.room → 0 < (ρ (g k).1 (g k).2).room → p0.block ≠ (ρ (g k).1 (g k).2).block) :
    HSim (ρ.put H1.length (gatF ρ p0 g)) (H1 ++ [.rows false ll]) w' := by
  have get : ∀ k, ((AObj.rows false ll).row H1.length (k + 1)).isSome = true → ∃ r, ll[k]? = some r := fun k hr => by
    rw [rows_row] at hr
    cases e : ll[k]? with
    | none => rw [e] at hr; cases hr
    | some r => exact ⟨r, rfl⟩
  have lt : ∀ k r, ll[k]? = some r → k < ll.length := fun k r e => (List.getElem?_eq_some_iff.1 e).1
  refine hH1.snoc (Keeps.refl w') _ (gatF ρ p0 g) trivial (fun r cs hr => ?_) (fun r r' hr hr' _ hrr h0 h0' => ?_) (fun j o' r r' hj hr' hr _ h0 h0' => ?_)
  · cases r with
    | zero =>
      simp only [AObj.row, if_true, Option.some.injEq] at hr
      subst hr
      refine ⟨by rw [hdrs_length]; exact hfit, hth, fun _ => hown, fun k c hkc => ?_⟩
      rw [hdrs_get] at hkc
      obtain ⟨y, hy, rfl⟩ := Option.map_eq_some_iff.1 hkc
      obtain ⟨p, cap, h1, h2, h3⟩ := hcell k y hy
      refine ⟨_, h1, .slice _ _ _ _ (by show H1.length < _; omega) h2 ?_, rfl⟩
      rcases h3 with h3 | ⟨h3, h4⟩
      · exact .inl h3
      · refine .inr ⟨?_, ?_⟩
        · rw [h3]
          simp only [AAddr.at, AAddr.cell, Ren.put_same, Nat.zero_add, gatF]
        · simpa [AAddr.cell, Ren.put_same, gatF] using h4
    | succ k =>
      rw [rows_row] at hr
      obtain ⟨y, hy, rfl⟩ := Option.map_eq_some_iff.1 hr
      obtain ⟨o, _, _, _, h1, _⟩ := hg k y hy
      have := h1.keeps (Keeps.refl w') (ρ' := ρ.put H1.length (gatF ρ p0 g)) (N' := H1.length + 1) (by rw [← hl]; exact Ren.put_agree ρ _ _) (by omega)
      exact this
  · cases r with
    | zero =>
      cases r' with
      | zero => exact absurd rfl hrr
      | succ k =>
        obtain ⟨y, hy⟩ := get k hr'
        exact hap1 k (lt k y hy) h0 h0'
    | succ k =>
      obtain ⟨y, hy⟩ := get k hr
      cases r' with
      | zero => exact (hap1 k (lt k y hy) h0' h0).symm
      | succ k' =>
        obtain ⟨y', hy'⟩ := get k' hr'
        obtain ⟨o1, a1, a2, a3, _⟩ := hg k y hy
        obtain ⟨o2, b1, b2, b3, _⟩ := hg k' y' hy'
        refine h.apart _ o1 _ _ o2 _ a1 b1 (by rw [a3]; rfl) (by rw [b3]; rfl) a2 (fun e => ?_) h0 h0'
        exact hrr (by rw [hinj k k' (lt k y hy) (lt k' y' hy') (Prod.ext (congrArg Prod.fst e) (congrArg Prod.snd e))])
  · cases r with
    | zero => exact hap0 j o' r' hj hr' h0 h0'
    | succ k =>
      obtain ⟨y, hy⟩ := get k hr
      obtain ⟨o1, a1, a2, a3, _, a5⟩ := hg k y hy
      refine h.apart _ o1 _ j o' r' a1 (hk j o' r' hj hr') (by rw [a3]; rfl) hr' a2 (fun e => ?_) h0 h0'
      have e : (g k).1 = j := congrArg Prod.fst e
      rw [a5 o' (by rw [e]; exact hj)] at hr'
      cases hr'

/-! ### Steps of what is left of a region -/
theorem XGoal.list {T : Tab P} {n : Nat} {ops rest : List Oper} {K : St → Prop} {tl : List (Nat × AV)} {H : List AObj} (hd : rest.all (dstOk n) = true) (h : listN T none ops rest K tl H) : XGoal P T n ops rest K (St.of tl H) :=
  ⟨fun cx ρ a w opsA Q h1 h2 hs hn =>
    listP_sound (T := T) (ops := opsA) hn rest (St.of tl H) ρ a w (fun o ho => by rw [h1]; exact List.all_eq_true.1 hd o ho) (by rw [h2]; exact listS_none _ _ (listN_sound _ _ _ h)) hs⟩
theorem XGoal.one {T : Tab P} {n : Nat} {ops rest : List Oper} {o : Oper} {K : St → Prop} {st : St}
    (h : ∀ (cx : Cx) (ρ : Ren) (a : Act) (w : World), cx.n = n → Sim cx ρ st a w → ∃ st' ρ' w' u, XGoal P T n ops rest K st' ∧ Sim cx ρ' st' (a.put o.dst u) w' ∧ (execOp a.eval o).run P w = .ok (.value u) w') (hg : o.guard = none) : XGoal P T n ops (o :: rest) K st :=
  ⟨fun cx ρ a w opsA Q h1 h2 hs hn => by
    obtain ⟨st', ρ', w', u, hx, hs', hrun⟩ := h cx ρ a w h1 hs
    unfold wpList
    rw [if_pos (by simp [Region.wanted, hg])]
    refine .inl ?_
    unfold Oper.wp
    rw [hrun]
    exact hx.run cx ρ' _ w' opsA Q h1 h2 hs' hn⟩

theorem hdr_val {ρ : Ren} {N id k len : Nat} {v : Value} (h : VRel ρ N (.slice ⟨id, k, 0, 1, 0⟩ len) v) : ∃ p cap, v = .slice p len cap ∧ len ≤ cap ∧ (cap = 0 ∨ (p = some ((ρ id k).addr 0) ∧ cap ≤ (ρ id k).room)) := by
  cases h with
  | slice _ _ p cap h hl hc =>
    refine ⟨p, cap, rfl, hl, ?_⟩
    rcases hc with hc | ⟨h1, h2⟩
    · exact .inl hc
    · refine .inr ⟨by rw [h1]; simp only [AAddr.at, AAddr.cell], by simpa [AAddr.cell] using h2⟩

/-- 'append' of one row onto none: the rows' beginning. -/
def wrapN (T : Tab P) (o : Oper) (tl : List (Nat × AV)) (H : List AObj) (k : List (Nat × AV) → List AObj → Prop) : Prop :=
  match o.op, o.guard, o.dst with
  | .buildSlice t 1 ps, none, some d => match ps.toList with
    | [(0, x)] => match T.ty t, ev (lkp tl) x with
      | some ⟨.slice e, _, _, _⟩, .slice ⟨src, 0, 0, 1, 0⟩ len => match T.ty e, getL H src with
        | some te, some (.arr false .int l) => VC (te.size = 1 ∧ len = l.length) (natF H.length fun N => forceH (snocL (setL H src .dead) (.rows false [l])) fun H => k ((d, .slice ⟨N, 0, 0, 1, 0⟩ 1) :: tl) H)
        | _, _ => False
      | _, _ => False
    | _ => False
  | _, _, _ => False

theorem XGoal.wrap {T : Tab P} {n : Nat} {ops : List Oper} {o : Oper} {rest : List Oper} {K : St → Prop} {tl : List (Nat × AV)} {H : List AObj} (hd : dstOk n o = true) (h : wrapN T o tl H fun tl H => XGoal P T n ops rest K (St.of tl H)) :
    XGoal P T n ops (o :: rest) K (St.of tl H) := by
  obtain ⟨dst, op, ty, pos, after, guard⟩ := o
  unfold wrapN at h
  simp only at h
  split at h
  · rename_i t ps d
    split at h
    · rename_i x hps
      split at h
      · rename_i e _ _ _ src len hty hx
        split at h
        · rename_i te l hte hsrc
          obtain ⟨⟨hsz, hlen⟩, hk⟩ := h
          rw [natF_eq, forceH_eq, snocL_eq, setL_eq] at hk
          rw [getL_eq] at hsrc
          subst hlen
          refine XGoal.one (fun cx ρ a w hn hs => ?_) rfl
          have hH := hs.hs
          have hhl : (St.of tl H).h = H := rfl
          rw [hhl] at hH
          have hlt : src < H.length := (List.getElem?_eq_some_iff.1 hsrc).1
          obtain ⟨dd, hdd, rfl⟩ := (T.ok t _ hty).und
          obtain ⟨i, zz, hi, hzz, hss, hbb, hcz, hzl, hrel⟩ := zero_rel T hte
          have hi1 : i.size = 1 := by rw [hss, hsz]
          have hpv : partsV (ev (lkp tl)) 0 ps.toList = some [[.slice ⟨src, 0, 0, 1, 0⟩ l.length]] := by
            rw [hps]; simp [partsV, hx]
          obtain ⟨c1, hf, hc1, _, _, hget⟩ := partsV_spec (fun x => ev_rel hs x) 1 ps.toList 0 _ ((Array.range (1 * 1)).map (zz.cells[· % zz.cells.size]!)) hpv (fun vs hv => by simp at hv; subst hv; exact ⟨rfl, rfl⟩) (by simp [hps])
          have hparts : (ps.map fun p => (p.1, a.eval p.2)).toList = ps.toList.map fun p => (p.1, a.eval p.2) := by simp
          have hrun : (Instr.buildSlice t 1 (ps.map fun p => (p.1, a.eval p.2))).run P w = .ok (.slice (some ⟨w.heap.size, 0, none⟩) 1 1) (w.alloc (.cells c1 e)) := by
            refine run_buildSlice w t e 1 _ c1 i zz hdd hi hzz (by rw [hi1]; decide) (by rw [hi1]; decide) ?_
            rw [hparts, hi1]; exact hf
          have hsz1 : c1.size = 1 := by rw [hc1]; simp
          obtain ⟨v, hv1, hv2, hv3⟩ := hget 0 0 _ _ rfl rfl
          obtain ⟨p, cap, rfl, hle, hc⟩ := hdr_val hv2
          have hkeep : Keeps w (w.alloc (.cells c1 e)) := Keeps.alloc w _
          let p0 : Place := ⟨w.heap.size, 0, c1.size⟩
          have hcell : ∀ k, (w.alloc (.cells c1 e)).cell? (p0.addr k) = c1[k]? := fun k => by simp [p0, Place.addr]
          have hrow : RowH ρ H.length w (ρ src 0) false (ints .i64 l) := by
            have := hH.row src _ 0 _ hsrc (show _ = some (l.flatMap Ty.int.enc) from rfl)
            rwa [flat_int] at this
          have hG := hH.gather (H1 := H.set src .dead) (w' := w.alloc (.cells c1 e)) ((hH.kill src).keeps hkeep) (by simp) (fun j x r hx hr => by
              rcases kill_get hx with ⟨_, rfl⟩ | ⟨_, hx⟩
              · cases hr
              · exact hx) [l] p0 (fun _ => (src, 0)) (fun k r hr => by
              cases k with
              | zero =>
                cases hr
                refine ⟨_, hsrc, rfl, ?_, hrow.keeps hkeep (Agree.refl _ _) (Nat.le_refl _), fun x hx => ?_⟩
                · show some (l.flatMap Ty.int.enc) = _
                  rw [flat_int]; rfl
                · rcases kill_get hx with ⟨_, rfl⟩ | ⟨hne, _⟩
                  · rfl
                  · exact absurd rfl hne
              | succ k => cases hr)
            (fun k k' h1 h2 _ => by simp at h1 h2; omega) (by simp [p0, hsz1]) (fun _ => by simp [p0]) (fun k hk' => by
              rw [hcell]
              exact ⟨by simp [p0] at hk'; simp [hk'], by simp [p0, Place.addr]⟩)
            (fun k r hr => by
              cases k with
              | zero =>
                cases hr
                exact ⟨p, cap, by rw [hcell]; simpa using hv1, hle, hc⟩
              | succ k => cases hr)
            (fun j o q hj hq _ h0 => by
              rcases kill_get hj with ⟨_, rfl⟩ | ⟨_, hj⟩
              · cases hq
              · have := hH.block_lt hj hq h0
                show w.heap.size ≠ _
                omega)
            (fun k _ _ h0 => by
              have := hH.block_lt hsrc (r := 0) rfl h0
              show w.heap.size ≠ (ρ src 0).block
              omega)
          have hS1 : Sim cx ρ ⟨lkp tl, H.set src .dead⟩ a w := hs.kill src
          have hS := hS1.grow (.rows false [l]) _ hG (hs.fr.alloc _) (fun r _ hr h0 => by
            cases r with
            | zero => exact .inr hs.fr.size
            | succ k => exact hs.wr src _ 0 hsrc rfl rfl h0)
          have hdn : d < cx.n := by rw [hn]; exact dstOk_spec hd d rfl
          have hS3 := hS.put (some d) (fun k hk => by cases hk; exact hdn) (v := .slice ⟨H.length, 0, 0, 1, 0⟩ 1) (u := .slice (some ⟨w.heap.size, 0, none⟩) 1 1) (by
            refine .slice _ _ _ _ (by simp) (Nat.le_refl _) (.inr ⟨?_, ?_⟩)
            · simp [AAddr.at, AAddr.cell, Ren.put, gatF, p0, Place.addr]
            · simp [AAddr.cell, Ren.put, gatF, p0, hsz1])
          refine ⟨St.of ((d, .slice ⟨H.length, 0, 0, 1, 0⟩ 1) :: tl) (H.set src .dead ++ [.rows false [l]]), _, _, .slice (some ⟨w.heap.size, 0, none⟩) 1 1, hk, by rw [St.of_cons]; exact hS3, ?_⟩
          · show (do pure (Next.value (← Instr.buildSlice t 1 (ps.map fun (i, x) => (i, a.eval x)))) : Sem Next).run P w = _
            simp [hrun]
        · exact h.elim
      · exact h.elim
    · exact h.elim
  · exact h.elim

/-- No rows. -/
def rows0N (T : Tab P) (o : Oper) (tl : List (Nat × AV)) (H : List AObj) (k : List (Nat × AV) → List AObj → Prop) : Prop :=
  match o.op, o.guard, o.dst with
  | .buildSlice t 0 ps, none, some d => match ps.toList with
    | [] => match T.ty t with
      | some ⟨.slice e, _, _, _⟩ => match T.ty e with
        | some te => natF H.length fun N => forceH (snocL H (.rows false [])) fun H => k ((d, .slice ⟨N, 0, 0, 1, 0⟩ 0) :: tl) H
        | _ => False
      | _ => False
    | _ => False
  | _, _, _ => False

theorem XGoal.rows0 {T : Tab P} {n : Nat} {ops : List Oper} {o : Oper} {rest : List Oper} {K : St → Prop} {tl : List (Nat × AV)} {H : List AObj} (hd : dstOk n o = true) (h : rows0N T o tl H fun tl H => XGoal P T n ops rest K (St.of tl H)) :
    XGoal P T n ops (o :: rest) K (St.of tl H) := by
  obtain ⟨dst, op, ty, pos, after, guard⟩ := o
  unfold rows0N at h
  simp only at h
  split at h
  · rename_i t ps d
    split at h
    · rename_i hps
      split at h
      · rename_i e _ _ _ hty
        split at h
        · rename_i te hte
          rw [natF_eq, forceH_eq, snocL_eq] at h
          refine XGoal.one (fun cx ρ a w hn hs => ?_) rfl
          have hhl : (St.of tl H).h = H := rfl
          obtain ⟨dd, hdd, rfl⟩ := (T.ok t _ hty).und
          obtain ⟨i, zz, hi, hzz, hss, hbb, hcz, hzl, hrel⟩ := zero_rel T hte
          obtain rfl : ps = #[] := by simpa using hps
          have hrun : (Instr.buildSlice t 0 #[]).run P w = .ok (.slice (some ⟨w.heap.size, 0, none⟩) 0 0) (w.alloc (.cells #[] e)) := by
            have hf : Instr.fill (fun k => some (k * i.size, i.size)) #[] [] = some #[] := rfl
            have hr0 : Array.range 0 = #[] := rfl
            simp [Instr.buildSlice, run_underlying hdd, Go.sizeOf, typeInfo, hi, hr0, hf, newRow]
          have hS := hs.alloc (.rows false []) [] #[] e trivial rfl (fun r hr => by
            cases r with
            | zero => exact absurd rfl hr
            | succ r => rw [rows_row]; rfl) (by simp) (fun k a h => by simp at h)
          have hdn : d < cx.n := by rw [hn]; exact dstOk_spec hd d rfl
          have hS3 := hS.put (some d) (fun k hk => by cases hk; exact hdn) (v := .slice ⟨H.length, 0, 0, 1, 0⟩ 0) (u := .slice (some ⟨w.heap.size, 0, none⟩) 0 0) (.slice _ _ _ _ (by simp [hhl]) (Nat.le_refl _) (.inl rfl))
          refine ⟨St.of ((d, .slice ⟨H.length, 0, 0, 1, 0⟩ 0) :: tl) (H ++ [.rows false []]), _, _, .slice (some ⟨w.heap.size, 0, none⟩) 0 0, h, by rw [St.of_cons]; exact hS3, ?_⟩
          show (do pure (Next.value (← Instr.buildSlice t 0 ((#[] : Array (Nat × Operand)).map fun (i, x) => (i, a.eval x)))) : Sem Next).run P w = _
          simp [hrun]
        · exact h.elim
      · exact h.elim
    · exact h.elim
  · exact h.elim

/-! ### Rows put on rows -/
/-- All rows but one, of which the room is written, stay as they are. -/
theorem rest_room {ρ : Ren} {H : List AObj} {w : World} (h : HSim ρ H w) {id r : Nat} {o : AObj} (ho : H[id]? = some o) (hr : (o.row id r).isSome = true) (hro : o.ro = false) (h0 : 0 < (ρ id r).room) (off : Nat) (vs : List Value)
    {j : Nat} {x : AObj} {q : Nat} {cx : List AV} (hx : H[j]? = some x) (hq : x.row j q = some cx) (hne : (j, q) ≠ (id, r)) : RowH ρ H.length (w.setCells (ρ id r).block off vs) (ρ j q) x.ro cx := by
  have hX := h.row j x q cx hx hq
  have hsz : (w.setCells (ρ id r).block off vs).heap.size = w.heap.size := size_setCells ..
  refine ⟨hX.fits, fun e => by rw [hsz]; exact hX.there e, fun e k' hk' => ⟨World.isSome_setCells _ _ _ _ _ ((hX.own e) k' hk').1, by rw [World.frozen?_setCells]; exact ((hX.own e) k' hk').2⟩, fun i c hc => ?_⟩
  obtain ⟨v, hv, hr1, h1⟩ := hX.cell i c hc
  refine ⟨v, ?_, hr1, h1⟩
  have h0' : 0 < (ρ j q).room := by have := (List.getElem?_eq_some_iff.1 hc).1; have := hX.fits; omega
  have hb := h.apart id o r j x q ho hx hr (by rw [hq]; rfl) hro (fun e => hne e.symm) h0 h0'
  rw [World.cell?_setCells_out _ _ _ _ _ (fun e _ => by rw [Place.addr_block] at e; exact absurd e.symm hb)]; exact hv

def joinG (R S n : Nat) (k : Nat) : Nat × Nat := if k < n then (R, k + 1) else (S, k - n + 1)
theorem joinG_lt {R S n k : Nat} (h : k < n) : joinG R S n k = (R, k + 1) := by rw [joinG, if_pos h]
theorem joinG_ge {R S n k : Nat} (h : ¬ k < n) : joinG R S n k = (S, k - n + 1) := by rw [joinG, if_neg h]

def rappN (T : Tab P) (o : Oper) (tl : List (Nat × AV)) (H : List AObj) (k : List (Nat × AV) → List AObj → Prop) : Prop :=
  match o.op, o.guard, o.dst with
  | .call c, none, some d => match c.callee, c.args.toList, c.argTypes.toList with
    | .builtin .append, [s, x], [t, t'] => match T.ty t, T.ty t', ev (lkp tl) s, ev (lkp tl) x with
      | some ⟨.slice e, _, _, _⟩, some ⟨.slice _, _, _, _⟩, .slice ⟨R, 0, 0, 1, 0⟩ n, .slice ⟨S, 0, 0, 1, 0⟩ m => match T.ty e, getL H R, getL H S with
        | some te, some (.rows false lr), some (.rows false ls) => VC (R ≠ S ∧ te.size = 1 ∧ n = lr.length ∧ m = ls.length ∧ 0 < m ∧ (n + m) * te.bytes ≤ 140737488355328)
            (natF H.length fun N => forceH (snocL (setL (setL H R .dead) S .dead) (.rows false (lr ++ ls))) fun H => k ((d, .slice ⟨N, 0, 0, 1, 0⟩ (n + m)) :: tl) H)
        | _, _, _ => False
      | _, _, _, _ => False
    | _, _, _ => False
  | _, _, _ => False

theorem XGoal.rapp {T : Tab P} {n0 : Nat} {ops : List Oper} {o : Oper} {rest : List Oper} {K : St → Prop} {tl : List (Nat × AV)} {H : List AObj} (hd : dstOk n0 o = true) (h : rappN T o tl H fun tl H => XGoal P T n0 ops rest K (St.of tl H)) :
    XGoal P T n0 ops (o :: rest) K (St.of tl H) := by
  obtain ⟨dst, op, ty, pos, after, guard⟩ := o
  unfold rappN at h
  simp only at h
  split at h
  · rename_i c d
    obtain ⟨callee, args, ats⟩ := c
    simp only at h
    split at h
    · rename_i s x t t' hargs hats
      split at h
      · rename_i e _ _ _ _ _ _ _ R n S m hty hty' hsv hxv
        split at h
        · rename_i te lr ls hte hR hS
          obtain ⟨⟨hne, hsz, rfl, rfl, hm, hbig⟩, hk⟩ := h
          rw [natF_eq, forceH_eq, snocL_eq, setL_eq, setL_eq] at hk
          rw [getL_eq] at hR hS
          refine XGoal.one (fun cx ρ a w hn hs => ?_) rfl
          have hdn : d < cx.n := by rw [hn]; exact dstOk_spec hd d rfl
          have hH := hs.hs
          have hhl : (St.of tl H).h = H := rfl
          rw [hhl] at hH
          obtain ⟨dd, hd1, rfl⟩ := (T.ok t _ hty).und
          obtain ⟨dd', hd2, rfl⟩ := (T.ok t' _ hty').und
          obtain rfl := arr2 hargs
          obtain rfl := arr2 hats
          obtain ⟨i, zz, hii, hzz, hss, hbb, hcz, hzl, _⟩ := zero_rel T hte
          have hi1 : i.size = 1 := by rw [hss, hsz]
          have hop : execOp a.eval ⟨some d, .call ⟨.builtin .append, #[s, x], #[t, t']⟩, ty, pos, after, none⟩ = (do pure (.value (← Builtin.append_ #[t, t'] ty #[a.eval s, a.eval x]))) := by
            rw [execOp_bi]; simp only [List.map_toArray, List.map_cons, List.map_nil]; rfl
          have hrs := ev_rel hs s
          have hrx := ev_rel hs x
          have e1 : ev (St.of tl H).t s = ev (lkp tl) s := rfl
          have e2 : ev (St.of tl H).t x = ev (lkp tl) x := rfl
          rw [e1, hsv] at hrs
          rw [e2, hxv] at hrx
          have hltR : R < H.length := (List.getElem?_eq_some_iff.1 hR).1
          have hltS : S < H.length := (List.getElem?_eq_some_iff.1 hS).1
          obtain ⟨base, cap, hus, hle, hc⟩ := hdr_val hrs
          obtain ⟨basx, capx, hux, hlex, hcx⟩ := hdr_val hrx
          obtain ⟨rfl, hroomx⟩ := hcx.resolve_left (by omega)
          have hrowR := hH.row R _ 0 (hdrs R 0 lr) hR rfl
          have hrowS := hH.row S _ 0 (hdrs S 0 ls) hS rfl
          obtain ⟨ws, hwl, hw1, hw2⟩ := hrowR.read 0 lr.length (by rw [hdrs_length]; omega)
          obtain ⟨ns, hnl, hn1, hn2⟩ := hrowS.read 0 ls.length (by rw [hdrs_length]; omega)
          have hsrc : Src P i.size t' (a.eval x) ls.length ns w := by
            rw [hux, hi1]
            refine Src.ofSlice w hd2 _ _ _ _ (by rw [hnl, Nat.mul_one]) (fun j u hu => ?_) (fun u hu => ?_)
            · rw [Place.addr_add]; exact (hn1 j u hu).1
            · obtain ⟨k, hk⟩ := List.mem_iff_getElem?.1 hu
              exact (hn1 k u hk).2
          -- the old headers and the new ones
          have hvR : ∀ k r, lr[k]? = some r → ∃ p cap, ws[k]? = some (.slice p r.length cap) ∧ r.length ≤ cap ∧ (cap = 0 ∨ (p = some ((ρ R (k + 1)).addr 0) ∧ cap ≤ (ρ R (k + 1)).room)) := fun k r hr => by
            have hkl := (List.getElem?_eq_some_iff.1 hr).1
            have hw : ws[k]? = some (ws[k]'(by omega)) := List.getElem?_eq_getElem (by omega)
            have := hw2 k (.slice ⟨R, k + 1, 0, 1, 0⟩ r.length) _ hkl (by rw [Nat.zero_add, hdrs_get, hr, Nat.zero_add]; rfl) hw
            obtain ⟨p, cap, h1, h2, h3⟩ := hdr_val this
            exact ⟨p, cap, by rw [hw, h1], h2, h3⟩
          have hvS : ∀ k r, ls[k]? = some r → ∃ p cap, ns[k]? = some (.slice p r.length cap) ∧ r.length ≤ cap ∧ (cap = 0 ∨ (p = some ((ρ S (k + 1)).addr 0) ∧ cap ≤ (ρ S (k + 1)).room)) := fun k r hr => by
            have hkl := (List.getElem?_eq_some_iff.1 hr).1
            have hw : ns[k]? = some (ns[k]'(by omega)) := List.getElem?_eq_getElem (by omega)
            have := hn2 k (.slice ⟨S, k + 1, 0, 1, 0⟩ r.length) _ hkl (by rw [Nat.zero_add, hdrs_get, hr, Nat.zero_add]; rfl) hw
            obtain ⟨p, cap, h1, h2, h3⟩ := hdr_val this
            exact ⟨p, cap, by rw [hw, h1], h2, h3⟩
          have hall : ∀ k r, (lr ++ ls)[k]? = some r → ∃ p cap, (ws ++ ns)[k]? = some (.slice p r.length cap) ∧ r.length ≤ cap ∧ (cap = 0 ∨ (p = some ((ρ (joinG R S lr.length k).1 (joinG R S lr.length k).2).addr 0) ∧ cap ≤ (ρ (joinG R S lr.length k).1 (joinG R S lr.length k).2).room)) := fun k r hr => by
            by_cases h : k < lr.length
            · rw [List.getElem?_append_left h] at hr
              rw [joinG_lt h, List.getElem?_append_left (by omega)]
              exact hvR k r hr
            · rw [List.getElem?_append_right (by omega)] at hr
              rw [joinG_ge h, List.getElem?_append_right (by omega), hwl]
              exact hvS _ r hr
          have hH1w : HSim ρ ((H.set R .dead).set S .dead) w := (hH.kill R).kill S
          have hget1 : ∀ (j : Nat) (x : AObj) (r : Nat), ((H.set R .dead).set S .dead)[j]? = some x → (x.row j r).isSome = true → j ≠ S ∧ j ≠ R ∧ H[j]? = some x := fun j x r hx hr => by
            rcases kill_get hx with ⟨_, rfl⟩ | ⟨n1, hx⟩
            · cases hr
            · rcases kill_get hx with ⟨_, rfl⟩ | ⟨n2, hx⟩
              · cases hr
              · exact ⟨n1, n2, hx⟩
          have hgold : ∀ k r, (lr ++ ls)[k]? = some r → ∃ o, H[(joinG R S lr.length k).1]? = some o ∧ o.ro = false ∧ o.row (joinG R S lr.length k).1 (joinG R S lr.length k).2 = some (ints .i64 r) ∧ (joinG R S lr.length k) ≠ (R, 0) ∧ ∀ x, ((H.set R .dead).set S .dead)[(joinG R S lr.length k).1]? = some x → x = .dead := fun k r hr => by
            by_cases h : k < lr.length
            · rw [List.getElem?_append_left h] at hr
              rw [joinG_lt h]
              refine ⟨_, hR, rfl, by rw [rows_row, hr]; rfl, (fun e => by cases congrArg Prod.snd e), fun x hx => ?_⟩
              have hx : ((H.set R .dead).set S .dead)[R]? = some x := hx
              rcases kill_get hx with ⟨_, rfl⟩ | ⟨_, hx⟩
              · rfl
              · rcases kill_get hx with ⟨_, rfl⟩ | ⟨n2, _⟩
                · rfl
                · exact absurd rfl n2
            · rw [List.getElem?_append_right (by omega)] at hr
              rw [joinG_ge h]
              refine ⟨_, hS, rfl, by rw [rows_row, hr]; rfl, fun e => hne (congrArg Prod.fst e).symm, fun x hx => ?_⟩
              have hx : ((H.set R .dead).set S .dead)[S]? = some x := hx
              rcases kill_get hx with ⟨_, rfl⟩ | ⟨n2, _⟩
              · rfl
              · exact absurd rfl n2
          have hinj : ∀ k k', k < (lr ++ ls).length → k' < (lr ++ ls).length → joinG R S lr.length k = joinG R S lr.length k' → k = k' := fun k k' _ _ e => by
            unfold joinG at e
            split at e <;> split at e <;> simp [hne, Ne.symm hne] at e <;> omega
          have hwrk : ∀ k, ((AObj.rows false (lr ++ ls)).row H.length (k + 1)).isSome = true → 0 < (ρ (joinG R S lr.length k).1 (joinG R S lr.length k).2).room → cx.B (ρ (joinG R S lr.length k).1 (joinG R S lr.length k).2).block ∨ cx.w0.heap.size ≤ (ρ (joinG R S lr.length k).1 (joinG R S lr.length k).2).block := fun k hr h0 => by
            rw [rows_row] at hr
            cases e : (lr ++ ls)[k]? with
            | none => rw [e] at hr; cases hr
            | some r =>
              obtain ⟨o, a1, a2, a3, _⟩ := hgold k r e
              exact hs.wr _ o _ a1 a2 (by rw [a3]; rfl) h0
          have hlen1 : ((H.set R .dead).set S .dead).length = H.length := by simp
          have hS1 : Sim cx ρ ⟨lkp tl, (H.set R .dead).set S .dead⟩ a w := (hs.kill R).kill S
          by_cases hg : cap < lr.length + ls.length
          · -- no room
            have hpos := (T.ok e te hte).pos
            have h63 : lr.length + ls.length ≤ (lr.length + ls.length) * te.bytes := Nat.le_mul_of_pos_right _ hpos
            have hold : (Builtin.firstCells i.size lr.length (.slice base lr.length cap)).run P w.drew = .ok ws.toArray w.drew := by
              rw [hi1]
              rcases hc with rfl | ⟨rfl, hroom⟩
              · obtain rfl : ws = [] := List.eq_nil_of_length_eq_zero (by omega)
                have h0 : lr.length = 0 := by omega
                rw [h0]
                cases base with
                | none => exact run_firstCells_none w.drew 1 0 0 0
                | some ad => exact run_firstCells_some w.drew 1 0 ad 0 0 [] (by simp) (fun j v hv => by simp at hv)
              · refine run_firstCells_some w.drew 1 lr.length _ lr.length cap ws (by omega) (fun j v hv => ?_)
                rw [Place.addr_add]
                exact (hw1 j v hv).1
            have hrun := run_append_grow_src (P := P) w t t' ty e i zz hd1 hii hzz base lr.length cap ws hold (a.eval x) ls.length ns hsrc hg (by omega) (by rw [hbb]; exact growslice_fits hg hbig)
            have hge := grownCap_ge w (lr.length + ls.length) cap e
            have hszc : ((ws ++ ns).toArray ++ Builtin.zeroCells zz.cells (grownCap w (lr.length + ls.length) cap e - (lr.length + ls.length))).size = grownCap w (lr.length + ls.length) cap e := by
              rw [Array.size_append, List.size_toArray, List.length_append, size_zeroCells, hwl, hnl, hcz, hsz]
              omega
            generalize hcs : (ws ++ ns).toArray ++ Builtin.zeroCells zz.cells (grownCap w (lr.length + ls.length) cap e - (lr.length + ls.length)) = cs at hrun hszc
            generalize hcap : grownCap w (lr.length + ls.length) cap e = cp at hrun hszc hge
            let p0 : Place := ⟨w.heap.size, 0, cs.size⟩
            have hkeep : Keeps w (w.drew.alloc (.cells cs e)) := (Keeps.drew w).trans (Keeps.alloc w.drew _)
            have hcell : ∀ k, (w.drew.alloc (.cells cs e)).cell? (p0.addr k) = cs[k]? := fun k => by
              have : p0.addr k = ⟨w.drew.heap.size, k, none⟩ := by simp [p0, Place.addr]
              rw [this]; exact alloc_cell w.drew cs e k
            have hG := hH.gather (H1 := (H.set R .dead).set S .dead) (w' := w.drew.alloc (.cells cs e)) (hH1w.keeps hkeep) hlen1 (fun j x r hx hr => (hget1 j x r hx hr).2.2) (lr ++ ls) p0 (joinG R S lr.length)
              (fun k r hr => by
                obtain ⟨o, a1, a2, a3, _, a5⟩ := hgold k r hr
                refine ⟨o, a1, a2, a3, ?_, a5⟩
                have := (hH.row _ o _ _ a1 a3).keeps hkeep (Agree.refl _ _) (Nat.le_refl _)
                rwa [a2] at this)
              hinj (by rw [List.length_append]; show _ ≤ cs.size; omega) (fun _ => by show w.heap.size < (w.drew.alloc (.cells cs e)).heap.size; simp) (fun k hk' => by
                rw [hcell]
                exact ⟨by simp [p0] at hk'; simp [hk'], by
                  have : p0.addr k = ⟨w.drew.heap.size, k, none⟩ := by simp [p0, Place.addr]
                  rw [this]; exact alloc_frozen w.drew cs e k⟩)
              (fun k r hr => by
                obtain ⟨p, cap', h1, h2, h3⟩ := hall k r hr
                refine ⟨p, cap', ?_, h2, h3⟩
                have hkl := (List.getElem?_eq_some_iff.1 h1).1
                rw [hcell, ← hcs, Array.getElem?_append_left (by simpa using hkl)]
                simpa using h1)
              (fun j o q hj hq _ h0 => by
                have := hH.block_lt (hget1 j o q hj hq).2.2 hq h0
                show w.heap.size ≠ (ρ j q).block
                omega)
              (fun k hkl _ h0 => by
                obtain ⟨o, a1, a2, a3, _⟩ := hgold k _ (List.getElem?_eq_getElem hkl)
                have := hH.block_lt a1 (by rw [a3]; rfl) h0
                show w.heap.size ≠ (ρ (joinG R S lr.length k).1 (joinG R S lr.length k).2).block
                omega)
            have hS2 := hS1.grow (.rows false (lr ++ ls)) _ hG (hs.fr.drew.alloc _) (fun r _ hr h0 => by
              cases r with
              | zero => exact .inr hs.fr.size
              | succ k => exact hwrk k (by rw [← hlen1]; exact hr) h0)
            have hS3 := hS2.put (some d) (fun k hk => by cases hk; exact hdn) (v := .slice ⟨H.length, 0, 0, 1, 0⟩ (lr.length + ls.length)) (u := .slice (some ⟨w.heap.size, 0, none⟩) (lr.length + ls.length) cp) (by
            refine .slice _ _ _ _ (by simp) hge (.inr ⟨?_, ?_⟩)
            · simp [AAddr.at, AAddr.cell, Ren.put, gatF, p0, Place.addr]
            · simp [AAddr.cell, Ren.put, gatF, p0, hszc])
            exact ⟨St.of ((d, .slice ⟨H.length, 0, 0, 1, 0⟩ (lr.length + ls.length)) :: tl) ((H.set R .dead).set S .dead ++ [.rows false (lr ++ ls)]), _, _, _, hk, by rw [St.of_cons]; exact hS3, by rw [hop, hus]; simp [hrun]⟩
          · -- there is room
            obtain ⟨rfl, hroom⟩ := hc.resolve_left (by omega)
            have h0R : 0 < (ρ R 0).room := by omega
            have hown := hrowR.own rfl
            have hth : ∀ j, j < ns.length → (w.cell? ((ρ R 0).addr (lr.length + j))).isSome = true ∧ w.frozen? ((ρ R 0).addr (lr.length + j)) = false := fun j hj => hown _ (by omega)
            have hat : (ρ R 0).addr 0 = ⟨(ρ R 0).block, (ρ R 0).off, none⟩ := by simp [Place.addr]
            have hrun := run_append_room_src (P := P) w t t' ty e i hd1 hii (ρ R 0).block (ρ R 0).off lr.length cap (a.eval x) ls.length ns hsrc (by omega)
              (fun j hj => by have := (hth j hj).1; rw [hi1]; simpa [Place.addr, Nat.add_assoc] using this) (fun j hj => by have := (hth j hj).2; rw [hi1]; simpa [Place.addr, Nat.add_assoc] using this)
            rw [← hat, hi1, Nat.mul_one] at hrun
            have hcellI : ∀ k v, ns[k]? = some v → (w.setCells (ρ R 0).block ((ρ R 0).off + lr.length) ns).cell? ((ρ R 0).addr (lr.length + k)) = some v := fun k v hv => by
              have hlt := (List.getElem?_eq_some_iff.1 hv).1
              have := World.cell?_setCells_in (ρ R 0).block ns ((ρ R 0).off + lr.length) w (fun j hj => by
                have := (hth j hj).1; simpa [Place.addr, Nat.add_assoc] using this) k hlt
              rw [List.getElem?_eq_getElem hlt] at hv
              rw [show (ρ R 0).addr (lr.length + k) = ⟨(ρ R 0).block, (ρ R 0).off + lr.length + k, none⟩ by simp only [Place.addr]; congr 1; omega, this]
              exact hv
            have hcellO : ∀ k, k < lr.length → (w.setCells (ρ R 0).block ((ρ R 0).off + lr.length) ns).cell? ((ρ R 0).addr k) = w.cell? ((ρ R 0).addr k) := fun k hk' =>
              World.cell?_setCells_out _ _ _ _ _ (fun _ _ => by simp only [Place.addr]; omega)
            have hH1 : HSim ρ ((H.set R .dead).set S .dead) (w.setCells (ρ R 0).block ((ρ R 0).off + lr.length) ns) := by
              refine hH1w.besides (ρ R 0).block (size_setCells ..) (fun y hy => World.cell?_setCells_out _ _ _ _ _ (fun e _ => absurd e hy)) (fun y => World.frozen?_setCells ..) (fun j ob r hob hr hr1 => ?_)
              obtain ⟨n1, n2, hob⟩ := hget1 j ob r hob hr
              exact (hH.apart R _ 0 j ob r hR hob rfl hr rfl (fun e => n2 (congrArg Prod.fst e).symm) h0R hr1).symm
            have hfr : Frame cx.w0 cx.B (w.setCells (ρ R 0).block ((ρ R 0).off + lr.length) ns) := hs.fr.setCells _ _ _ (hs.wr R _ 0 hR rfl rfl h0R)
            have hsize : (w.setCells (ρ R 0).block ((ρ R 0).off + lr.length) ns).heap.size = w.heap.size := size_setCells ..
            have hG := hH.gather (H1 := (H.set R .dead).set S .dead) (w' := w.setCells (ρ R 0).block ((ρ R 0).off + lr.length) ns) hH1 hlen1 (fun j x r hx hr => (hget1 j x r hx hr).2.2) (lr ++ ls) (ρ R 0) (joinG R S lr.length)
              (fun k r hr => by
                obtain ⟨o, a1, a2, a3, a4, a5⟩ := hgold k r hr
                refine ⟨o, a1, a2, a3, ?_, a5⟩
                have := rest_room hH hR (r := 0) rfl rfl h0R ((ρ R 0).off + lr.length) ns a1 a3 (fun e => a4 (Prod.ext (congrArg Prod.fst e) (congrArg Prod.snd e)))
                rwa [a2] at this)
              hinj (by rw [List.length_append]; omega) (fun h0 => by rw [hsize]; exact hrowR.there h0) (fun k hk' => ⟨World.isSome_setCells _ _ _ _ _ (hown k hk').1, by rw [World.frozen?_setCells]; exact (hown k hk').2⟩)
              (fun k r hr => by
                obtain ⟨p, cap', h1, h2, h3⟩ := hall k r hr
                refine ⟨p, cap', ?_, h2, h3⟩
                by_cases h : k < lr.length
                · rw [List.getElem?_append_left (by omega)] at h1
                  rw [hcellO k h, ← Nat.zero_add k]
                  exact (hw1 k _ h1).1
                · rw [List.getElem?_append_right (by omega), hwl] at h1
                  have := hcellI _ _ h1
                  rwa [show lr.length + (k - lr.length) = k by omega] at this)
              (fun j o q hj hq h0 h0' => by
                obtain ⟨n1, n2, hj⟩ := hget1 j o q hj hq
                exact hH.apart R _ 0 j o q hR hj rfl hq rfl (fun e => n2 (congrArg Prod.fst e).symm) h0R h0')
              (fun k hkl h0 h0' => by
                obtain ⟨o, a1, a2, a3, a4, _⟩ := hgold k _ (List.getElem?_eq_getElem hkl)
                exact hH.apart R _ 0 _ o _ hR a1 rfl (by rw [a3]; rfl) rfl (fun e => a4 (Prod.ext (congrArg Prod.fst e).symm (congrArg Prod.snd e).symm)) h0R h0')
            have hS2 := hS1.grow (.rows false (lr ++ ls)) _ hG hfr (fun r _ hr h0 => by
              cases r with
              | zero => exact hs.wr R _ 0 hR rfl rfl h0R
              | succ k => exact hwrk k (by rw [← hlen1]; exact hr) h0)
            have hS3 := hS2.put (some d) (fun k hk => by cases hk; exact hdn) (v := .slice ⟨H.length, 0, 0, 1, 0⟩ (lr.length + ls.length)) (u := .slice (some ((ρ R 0).addr 0)) (lr.length + ls.length) cap) (by
            refine .slice _ _ _ _ (by simp) (by omega) (.inr ⟨?_, ?_⟩)
            · simp [AAddr.at, AAddr.cell, Ren.put, gatF]
            · simpa [AAddr.cell, Ren.put, gatF] using hroom)
            exact ⟨St.of ((d, .slice ⟨H.length, 0, 0, 1, 0⟩ (lr.length + ls.length)) :: tl) ((H.set R .dead).set S .dead ++ [.rows false (lr ++ ls)]), _, _, _, hk, by rw [St.of_cons]; exact hS3, by rw [hop, hus]; simp [hrun]⟩
        · exact h.elim
      · exact h.elim
    · exact h.elim
  · exact h.elim
end YtofjbgpaofcpjaaAM
