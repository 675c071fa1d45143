/- A region split at one operation that turns more than one temporary: a row laid into rows. -/
import Derived.Test.YtofjbgpaofcpjaaAmDrive
set_option linter.unusedVariables false
set_option linter.unusedSimpArgs false
namespace YtofjbgpaofcpjaaAM
open Go
variable {P : Program}

/-- An object's own row named anew: what begins there is told by the new name. -/
def AAddr.mv (i N : Nat) (a : AAddr) : AAddr :=
  match a with
  | ⟨id, 0, idx, esz, fld⟩ => match Nat.beq id i with
    | true => ⟨N, 0, idx, esz, fld⟩
    | false => ⟨id, 0, idx, esz, fld⟩
  | a => a
def AV.mv (i N : Nat) : AV → AV
  | .ptr a => .ptr (a.mv i N)
  | .slice a len => .slice (a.mv i N) len
  | .cslice a len cap => .cslice (a.mv i N) len cap
  | v => v
def mvN (i N : Nat) : List (Nat × AV) → (List (Nat × AV) → Prop) → Prop
  | [], k => k []
  | (j, v) :: r, k => force (v.mv i N) fun v => mvN i N r fun r => k ((j, v) :: r)
theorem mvN_eq (i N : Nat) : ∀ (tl : List (Nat × AV)) (k : List (Nat × AV) → Prop), mvN i N tl k = k (tl.map fun p => (p.1, p.2.mv i N))
  | [], k => rfl
  | (j, v) :: r, k => by simp only [mvN, force_eq, mvN_eq i N r, List.map_cons]
theorem lkp_mv (i N : Nat) : ∀ (tl : List (Nat × AV)) (k : Nat), lkp (tl.map fun p => (p.1, p.2.mv i N)) k = (lkp tl k).mv i N
  | [], k => rfl
  | (j, v) :: r, k => by
    rw [List.map_cons, lkp_cons, lkp_cons, lkp_mv i N r k]
    split <;> rfl

theorem AAddr.mv_spec {ρ : Ren} {M i N : Nat} (hN : N < M) (hρ : ρ N 0 = ρ i 0) (a : AAddr) : (a.mv i N).cell = a.cell ∧ (a.mv i N).esz = a.esz ∧ ρ (a.mv i N).id (a.mv i N).row = ρ a.id a.row ∧ (a.id < M → (a.mv i N).id < M) := by
  obtain ⟨id, row, idx, esz, fld⟩ := a
  cases row with
  | succ r => exact ⟨rfl, rfl, rfl, fun h => h⟩
  | zero =>
    simp only [AAddr.mv]
    split
    · rename_i hb
      have := Nat.eq_of_beq_eq_true hb
      subst this
      exact ⟨rfl, rfl, hρ, fun _ => hN⟩
    · exact ⟨rfl, rfl, rfl, fun h => h⟩

theorem VRel.mv {ρ : Ren} {M i N : Nat} (hN : N < M) (hρ : ρ N 0 = ρ i 0) {v : AV} {u : Value} (h : VRel ρ M v u) : VRel ρ M (v.mv i N) u := by
  have hat : ∀ a : AAddr, (a.mv i N).at ρ = a.at ρ := fun a => by
    obtain ⟨h1, h2, h3, _⟩ := AAddr.mv_spec (M := M) hN hρ a
    simp only [AAddr.at, h1, h3]
  cases h with
  | undef u => exact .undef u
  | int k n => exact .int k n
  | bool b => exact .bool b
  | ptr a h => rw [← hat a]; exact .ptr _ ((AAddr.mv_spec hN hρ a).2.2.2 h)
  | slice a len p cap h hl hc =>
    obtain ⟨h1, h2, h3, h4⟩ := AAddr.mv_spec (M := M) hN hρ a
    exact .slice _ len p cap (h4 h) hl (by rw [hat, h1, h2, h3]; exact hc)
  | cslice a len p cap h hl hc =>
    exact .cslice _ len p cap ((AAddr.mv_spec hN hρ a).2.2.2 h) hl (by rw [hat]; exact hc)
  | nilS => exact .nilS
  | nilF => exact .nilF
  | agg vs ws hl h => exact .agg vs ws hl h
  | vec x u h => exact .vec x u h
  | tuple vs ws hl h => exact .tuple vs ws hl h
  | func f vs ws hl h => exact .func f vs ws hl h

theorem hdrs_length (id : Nat) : ∀ (k : Nat) (l : List (List Int)), (hdrs id k l).length = l.length
  | _, [] => rfl
  | k, r :: rs => by simp [hdrs, hdrs_length id (k + 1) rs]
theorem hdrs_get (id : Nat) : ∀ (l : List (List Int)) (k q : Nat), (hdrs id k l)[q]? = (l[q]?).map fun r => .slice ⟨id, k + q + 1, 0, 1, 0⟩ r.length
  | [], k, q => by simp [hdrs]
  | r :: rs, k, 0 => by simp [hdrs]
  | r :: rs, k, q + 1 => by
    simp only [hdrs, List.getElem?_cons_succ, hdrs_get id rs (k + 1) q]
    congr 1; funext r; congr 2; omega

def rowStoreN (T : Tab P) (o : Oper) (tl : List (Nat × AV)) (H : List AObj) (k : List (Nat × AV) → List AObj → Prop) : Prop :=
  match o.op, o.guard, o.dst with
  | .store t p x, none, none => match T.ty t, ev (lkp tl) p, ev (lkp tl) x with
    | some ti, .ptr ⟨id, 0, idx, 1, 0⟩, .slice ⟨src, 0, 0, 1, 0⟩ len => match getL H id, getL H src with
      | some (.rows false ll), some (.arr false .int l) => match ti.k.agg, Nat.beq ti.size 1 with
        | false, true => VC (idx < ll.length ∧ len = l.length) (natF H.length fun N => mvN id N tl fun tl => forceH (snocL (setL (setL H src .dead) id .dead) (.rows false (ll.set idx l))) fun H => k tl H)
        | _, _ => False
      | _, _ => False
    | _, _, _ => False
  | _, _, _ => False

/-- All rows but one that is written over stay as they are. -/
theorem rest_row {ρ : Ren} {H : List AObj} {w : World} (h : HSim ρ H w) {id r : Nat} {o : AObj} {cs : List AV} (ho : H[id]? = some o) (hr : o.row id r = some cs) (hro : o.ro = false) (k : Nat) (vs : List Value) (hk : k + vs.length ≤ cs.length)
    {j : Nat} {x : AObj} {q : Nat} {cx : List AV} (hx : H[j]? = some x) (hq : x.row j q = some cx) (hne : (j, q) ≠ (id, r)) : RowH ρ H.length (w.setCells (ρ id r).block ((ρ id r).off + k) vs) (ρ j q) x.ro cx := by
  have hX := h.row j x q cx hx hq
  have hfits := (h.row id o r cs ho hr).fits
  have hsz : (w.setCells (ρ id r).block ((ρ id r).off + k) vs).heap.size = w.heap.size := size_setCells ..
  refine ⟨hX.fits, fun e => by rw [hsz]; exact hX.there e, fun e k' hk' => ⟨World.isSome_setCells _ _ _ _ _ ((hX.own e) k' hk').1, by rw [World.frozen?_setCells]; exact ((hX.own e) k' hk').2⟩, fun i c hc => ?_⟩
  obtain ⟨v, hv, hr1, h1⟩ := hX.cell i c hc
  refine ⟨v, ?_, hr1, h1⟩
  have h0 : 0 < (ρ j q).room := by have := (List.getElem?_eq_some_iff.1 hc).1; have := hX.fits; omega
  rcases Nat.eq_zero_or_pos vs.length with e | e
  · obtain rfl := List.eq_nil_of_length_eq_zero e
    exact hv
  · have hb := h.apart id o r j x q ho hx (by rw [hr]; rfl) (by rw [hq]; rfl) hro (fun e => hne e.symm) (by omega) h0
    rw [World.cell?_setCells_out _ _ _ _ _ (fun e _ => by rw [Place.addr_block] at e; exact absurd e.symm hb)]; exact hv

theorem rowStore_sound {T : Tab P} {cx : Cx} {ρ : Ren} {tl : List (Nat × AV)} {H : List AObj} {a : Act} {w : World} {o : Oper} {k : List (Nat × AV) → List AObj → Prop} (hs : Sim cx ρ (St.of tl H) a w) (h : rowStoreN T o tl H k) :
    ∃ tl' H' ρ' w', k tl' H' ∧ Sim cx ρ' (St.of tl' H') a w' ∧ (execOp a.eval o).run P w = .ok .skip w' ∧ o.guard = none ∧ o.dst = none := by
  obtain ⟨dst, op, ty, pos, after, guard⟩ := o
  unfold rowStoreN at h
  simp only at h
  split at h
  · rename_i t p x
    split at h
    · rename_i ti id idx src len hti hp hx
      split at h
      · rename_i ll l ho hsrc
        split at h
        · rename_i hagg hsz
          obtain ⟨⟨hidx, hlen⟩, h⟩ := h
          rw [natF_eq, mvN_eq, forceH_eq, snocL_eq, setL_eq, setL_eq] at h
          rw [getL_eq] at ho hsrc
          have hsz := Nat.eq_of_beq_eq_true hsz
          subst hlen
          have hne : id ≠ src := fun e => by subst e; rw [ho] at hsrc; cases hsrc
          have hrp := ev_rel hs p
          have hrx := ev_rel hs x
          have e1 : ev (St.of tl H).t p = ev (lkp tl) p := rfl
          have e2 : ev (St.of tl H).t x = ev (lkp tl) x := rfl
          rw [e1, hp] at hrp
          rw [e2, hx] at hrx
          cases hup : a.eval p <;> rw [hup] at hrp <;> cases hrp
          rename_i hidN
          cases hux : a.eval x <;> rw [hux] at hrx <;> cases hrx
          rename_i q cap hsrcN hl hc
          have hH := hs.hs
          have hhl : (St.of tl H).h = H := rfl
          rw [hhl] at hH hidN hsrcN
          have hrow0 := hH.row id _ 0 (hdrs id 0 ll) ho rfl
          have hown := hrow0.own rfl
          have hfits := hrow0.fits
          rw [hdrs_length] at hfits
          have hat : (⟨id, 0, idx, 1, 0⟩ : AAddr).at ρ = (ρ id 0).addr idx := by simp only [AAddr.at, AAddr.cell]; congr 1; omega
          have hst := run_storeVar_at T hti (.slice q l.length cap) (by rw [hsz]; rfl) w (ρ id 0) idx (fun j hj => hown _ (by simp [Value.cells] at hj; omega)) (fun u hu => by simp [Value.cells] at hu; subst hu; rfl)
          have hcl : (Value.slice q l.length cap).cells.toList = [.slice q l.length cap] := rfl
          rw [hcl] at hst
          have hrun : (execOp a.eval ⟨none, .store t p x, ty, pos, after, none⟩).run P w = .ok .skip (w.setCells (ρ id 0).block ((ρ id 0).off + idx) [.slice q l.length cap]) := by
            show (do (Instr.storeAt t (a.eval p) (a.eval x)); pure Next.skip : Sem Next).run P w = _
            rw [hup, hux]; simp [Instr.storeAt, Instr.sureAddr, hat, hst]
          have h0room : 0 < (ρ id 0).room := by omega
          have hrest := fun {j : Nat} {x : AObj} {q' : Nat} {cx' : List AV} (hx : H[j]? = some x) (hq : x.row j q' = some cx') (hne : (j, q') ≠ (id, 0)) =>
            rest_row hH ho (r := 0) (cs := hdrs id 0 ll) rfl rfl idx [.slice q l.length cap] (by rw [hdrs_length]; show idx + 1 ≤ _; omega) hx hq hne
          have hcellI := World.cell?_setCells_in (ρ id 0).block [Value.slice q l.length cap] ((ρ id 0).off + idx) w (fun j hj => by
            obtain rfl : j = 0 := by simpa using hj
            exact (hown idx (by omega)).1) 0 (by simp)
          have hcellO : ∀ j, j ≠ idx → (w.setCells (ρ id 0).block ((ρ id 0).off + idx) [.slice q l.length cap]).cell? ((ρ id 0).addr j) = w.cell? ((ρ id 0).addr j) := fun j hj =>
            World.cell?_setCells_out _ _ _ _ _ (fun _ => by simp only [Place.addr, List.length_singleton]; omega)
          have hfz : ∀ y : Addr, (w.setCells (ρ id 0).block ((ρ id 0).off + idx) [.slice q l.length cap]).frozen? y = w.frozen? y := fun y => World.frozen?_setCells ..
          have hisS : ∀ y : Addr, (w.cell? y).isSome = true → ((w.setCells (ρ id 0).block ((ρ id 0).off + idx) [.slice q l.length cap]).cell? y).isSome = true := fun y => World.isSome_setCells _ _ _ _ _
          have hsize : (w.setCells (ρ id 0).block ((ρ id 0).off + idx) [.slice q l.length cap]).heap.size = w.heap.size := size_setCells ..
          have hfr : Frame cx.w0 cx.B (w.setCells (ρ id 0).block ((ρ id 0).off + idx) [.slice q l.length cap]) := hs.fr.setCells _ _ _ (hs.wr id _ 0 ho rfl rfl h0room)
          have hfrm := hcellI
          generalize hw' : w.setCells (ρ id 0).block ((ρ id 0).off + idx) [.slice q l.length cap] = w' at *
          -- the heap without the two
          let H1 := (H.set src .dead).set id .dead
          have hget1 : ∀ (j : Nat) (x : AObj) (r : Nat), H1[j]? = some x → (x.row j r).isSome = true → j ≠ id ∧ j ≠ src ∧ H[j]? = some x := fun j x r hx hr => by
            rcases kill_get hx with ⟨_, rfl⟩ | ⟨n1, hx⟩
            · cases hr
            · rcases kill_get hx with ⟨_, rfl⟩ | ⟨n2, hx⟩
              · cases hr
              · exact ⟨n1, n2, hx⟩
          have hH1w : HSim ρ H1 w := (hH.kill src).kill id
          have hH1 : HSim ρ H1 w' := by
            rw [← hw']
            refine hH1w.besides (ρ id 0).block (size_setCells ..) (fun y hy => World.cell?_setCells_out _ _ _ _ _ (fun e _ => absurd e hy)) (fun y => World.frozen?_setCells ..) (fun j ob r hob hr hr1 => ?_)
            obtain ⟨n1, n2, hob⟩ := hget1 j ob r hob hr
            exact (hH.apart id _ 0 j ob r ho hob rfl hr rfl (fun e => n1 (congrArg Prod.fst e).symm) h0room hr1).symm
          have hlen1 : H1.length = H.length := by simp [H1]
          -- where the new object's rows lie
          let g : Nat → Nat × Nat := fun r => match r with | 0 => (id, 0) | k + 1 => if k = idx then (src, 0) else (id, k + 1)
          let f : Nat → Place := fun r => ρ (g r).1 (g r).2
          let ob : AObj := .rows false (ll.set idx l)
          have ginj : ∀ r r', r ≠ r' → g r ≠ g r' := fun r r' hrr => by
            cases r <;> cases r'
            · exact absurd rfl hrr
            · simp only [g]; split <;> simp [hne]
            · simp only [g]; split <;> simp [Ne.symm hne]
            · rename_i r r'
              simp only [g]
              split <;> split <;> simp [Ne.symm hne, hne] <;> omega
          have gold : ∀ r cs, ob.row H.length r = some cs → ∃ ob', H[(g r).1]? = some ob' ∧ ob'.ro = false ∧ (ob'.row (g r).1 (g r).2).isSome = true ∧ (r ≠ 0 → ob'.row (g r).1 (g r).2 = some cs ∧ g r ≠ (id, 0)) := fun r cs hr => by
            cases r with
            | zero => exact ⟨_, ho, rfl, rfl, fun h => absurd rfl h⟩
            | succ r =>
              simp only [ob, rows_row, List.getElem?_set] at hr
              by_cases e : idx = r
              · subst e
                rw [if_pos rfl, if_pos hidx] at hr
                simp only [g, if_true]
                refine ⟨_, hsrc, rfl, rfl, fun _ => ⟨?_, fun e => hne (congrArg Prod.fst e).symm⟩⟩
                rw [← hr]
                show some (l.flatMap (Ty.enc .int)) = _
                rw [flat_int]; rfl
              · rw [if_neg e] at hr
                have e' : ¬ r = idx := fun h => e h.symm
                simp only [g, if_neg e']
                have hrr : (AObj.rows false ll).row id (r + 1) = some cs := by rw [rows_row]; exact hr
                exact ⟨_, ho, rfl, by rw [hrr]; rfl, fun _ => ⟨hrr, fun e => by simp at e⟩⟩
          have hH2 : HSim (ρ.put H1.length f) (H1 ++ [ob]) w' := by
            refine hH1.snoc (Keeps.refl w') ob f trivial (fun r cs hr => ?_) (fun r r' hr hr' _ hrr h0 h0' => ?_) (fun j o' r r' hj hr' hr _ h0 h0' => ?_)
            · rw [hlen1] at hr ⊢
              cases r with
              | zero =>
                simp only [ob, AObj.row, if_true, Option.some.injEq] at hr
                subst hr
                refine ⟨by rw [hdrs_length, List.length_set]; exact hfits, fun e => by rw [hsize]; exact hrow0.there e, fun _ k hk => ⟨hisS _ (hown k hk).1, by rw [hfz]; exact (hown k hk).2⟩, fun k c hkc => ?_⟩
                rw [hdrs_get, List.getElem?_set] at hkc
                by_cases e : idx = k
                · subst e
                  rw [if_pos rfl, if_pos hidx] at hkc
                  cases hkc
                  refine ⟨_, hcellI, ?_, rfl⟩
                  refine .slice _ _ _ _ (by show H.length < H.length + 1; omega) hl ?_
                  rcases hc with hc | ⟨hc1, hc2⟩
                  · exact .inl hc
                  · refine .inr ⟨?_, ?_⟩
                    · rw [hc1]
                      simp only [AAddr.at, AAddr.cell, Ren.put_same, f, g, Nat.zero_add, if_true]
                    · simpa [AAddr.cell, Ren.put_same, f, g] using hc2
                · rw [if_neg e] at hkc
                  obtain ⟨y, hy, rfl⟩ := Option.map_eq_some_iff.1 hkc
                  obtain ⟨v, hv, hr1, h1⟩ := hrow0.cell k (.slice ⟨id, 0 + k + 1, 0, 1, 0⟩ y.length) (by rw [hdrs_get, hy]; rfl)
                  refine ⟨v, by show w'.cell? ((ρ id 0).addr k) = _; rw [hcellO k (fun h => e h.symm)]; exact hv, ?_, h1⟩
                  cases hr1 with
                  | slice _ _ p' cap' hi' hl' hc' =>
                    refine .slice _ _ _ _ (by show H.length < H.length + 1; omega) hl' ?_
                    have e' : ¬ k = idx := fun h => e h.symm
                    rcases hc' with hc' | ⟨hc1, hc2⟩
                    · exact .inl hc'
                    · refine .inr ⟨?_, ?_⟩
                      · rw [hc1]
                        simp only [AAddr.at, AAddr.cell, Ren.put_same, f, g, Nat.zero_add, if_neg e']
                      · simpa [AAddr.cell, Ren.put_same, f, g, e'] using hc2
              | succ r =>
                obtain ⟨ob', h1, h2, h3, h4⟩ := gold (r + 1) cs hr
                obtain ⟨h5, h6⟩ := h4 (by omega)
                have := hrest h1 h5 h6
                rw [h2] at this
                exact this.keeps (Keeps.refl w') (Ren.put_agree ρ _ f) (by omega)
            · rw [hlen1] at hr hr'
              obtain ⟨cs, hcs⟩ := Option.isSome_iff_exists.1 hr
              obtain ⟨cs', hcs'⟩ := Option.isSome_iff_exists.1 hr'
              obtain ⟨o1, a1, a2, a3, _⟩ := gold r cs hcs
              obtain ⟨o2, b1, b2, b3, _⟩ := gold r' cs' hcs'
              exact hH.apart _ o1 _ _ o2 _ a1 b1 a3 b3 a2 (ginj r r' hrr) h0 h0'
            · rw [hlen1] at hr
              obtain ⟨cs, hcs⟩ := Option.isSome_iff_exists.1 hr
              obtain ⟨o1, a1, a2, a3, _⟩ := gold r cs hcs
              obtain ⟨n1, n2, hj⟩ := hget1 j o' r' hj hr'
              refine hH.apart _ o1 _ j o' r' a1 hj a3 hr' a2 (fun e => ?_) h0 h0'
              have e := congrArg Prod.fst e
              cases r with
              | zero => exact n1 e.symm
              | succ r =>
                simp only [g] at e
                split at e
                · exact n2 e.symm
                · exact n1 e.symm
          have hS1 : Sim cx ρ ⟨lkp tl, H1⟩ a w := ((hs.kill src).kill id)
          have hS := (hS1.reheap (H' := H1) rfl hH1 hfr hS1.wr).grow ob f hH2 hfr (fun r _ hr h0 => by
            obtain ⟨cs, hcs⟩ := Option.isSome_iff_exists.1 hr
            obtain ⟨o1, a1, a2, a3, _⟩ := gold r cs (by rw [← hlen1]; exact hcs)
            exact hs.wr _ o1 _ a1 a2 a3 h0)
          have hput0 : (ρ.put H1.length f) H1.length 0 = (ρ.put H1.length f) id 0 := by
            rw [Ren.put_same, Ren.put_lt f (by rw [hlen1]; exact hidN)]
          refine ⟨_, _, ρ.put H1.length f, w', h, ?_, hrun, rfl, rfl⟩
          refine ⟨fun j => ?_, hS.sz, hS.df, hS.hs, hS.fr, hS.ag, hS.nn, hS.wr⟩
          have := (hS.tm j).mv (i := id) (N := H1.length) (by simp) hput0
          show VRel _ _ (lkp (tl.map _) j) _
          rw [lkp_mv, ← hlen1]
          exact this
        · exact h.elim
      · exact h.elim
    · exact h.elim
  · exact h.elim

/-- What is left of a region, from one operation on. -/
structure XGoal (P : Program) (T : Tab P) (n : Nat) (ops : List Oper) (rest : List Oper) (K : St → Prop) (st : St) : Prop where
  run : ∀ (cx : Cx) (ρ : Ren) (a : Act) (w : World) (opsA : Array Oper) (Q : Exit → Act → World → Prop), cx.n = n → opsA.toList = ops → Sim cx ρ st a w → (∀ st' ρ' a' w', K st' → Sim cx ρ' st' a' w' → Q .normal a' w') → wpList P opsA Q rest a w

theorem listP_app {T : Tab P} {ops : Array Oper} {cx : Cx} {Q : Exit → Act → World → Prop} {K : St → Prop} {rest : List Oper} (hn : ∀ st' ρ' a' w', K st' → Sim cx ρ' st' a' w' → wpList P ops Q rest a' w') :
    ∀ (l : List Oper) (st : St) (ρ : Ren) (a : Act) (w : World), (∀ o ∈ l, dstOk cx.n o = true) → listP T ops.toList l K st → Sim cx ρ st a w → wpList P ops Q (l ++ rest) a w
  | [], st, ρ, a, w, _, hK, h => hn st ρ a w hK h
  | o :: r, st, ρ, a, w, hd, hK, h => by
    rw [List.cons_append]
    unfold wpList
    exact gstep_sound h (hd o (by simp)) hK Q _ (fun st' ρ' a' w' hk hs => listP_app hn r st' ρ' a' w' (fun x hx => hd x (by simp [hx])) hk hs)

def takeL {α : Type} : Nat → List α → List α
  | 0, _ => []
  | _ + 1, [] => []
  | n + 1, a :: l => a :: takeL n l
theorem take_drop {α : Type} : ∀ (n : Nat) (l : List α), takeL n l ++ dropL n l = l
  | 0, l => by cases l <;> rfl
  | n + 1, [] => rfl
  | n + 1, a :: l => by simp only [takeL, dropL, List.cons_append, take_drop n l]

/-- A region in the text's order, split at operation k. -/
theorem AWP.regX {n n0 : Nat} {Q : Exit → St → Prop} {tl : List (Nat × AV)} {H : List AObj} (T : Tab P) (k : Nat) {id : Nat} {ops : Array Oper} (hd : ops.toList.all (dstOk n) = true) (h : listN T none ops.toList (takeL k ops.toList) (XGoal P T n ops.toList (dropL k ops.toList) (Q .normal)) tl H) :
    AWP P n n0 (.region id ops false) Q (St.of tl H) :=
  ⟨fun cx ρ a w h1 h2 hs => wp_region_list (by
    have := listP_app (T := T) (ops := ops) (cx := cx) (Q := fun e a' w' => ∃ st' ρ', Q e st' ∧ Sim cx ρ' st' a' w') (K := XGoal P T n ops.toList (dropL k ops.toList) (Q .normal)) (rest := dropL k ops.toList)
      (fun st' ρ' a' w' hk hs' => hk.run cx ρ' a' w' ops _ h1 rfl hs' fun st'' ρ'' a'' w'' hk' hs'' => ⟨st'', ρ'', hk', hs''⟩)
      (takeL k ops.toList) (St.of tl H) ρ a w (fun o ho => by rw [h1]; exact List.all_eq_true.1 hd o (by rw [← take_drop k ops.toList]; simp [ho])) (listS_none _ _ (listN_sound _ _ _ h)) hs
    rwa [take_drop] at this)⟩

theorem XGoal.row {T : Tab P} {n : Nat} {ops : List Oper} {o : Oper} {rest : List Oper} {K : St → Prop} {tl : List (Nat × AV)} {H : List AObj} (hd : rest.all (dstOk n) = true) (h : rowStoreN T o tl H fun tl H => listN T none ops rest K tl H) :
    XGoal P T n ops (o :: rest) K (St.of tl H) :=
  ⟨fun cx ρ a w opsA Q h1 h2 hs hn => by
    obtain ⟨tl', H', ρ', w', hk, hs', hrun, hg, hds⟩ := rowStore_sound hs h
    have := listP_sound (T := T) (ops := opsA) hn rest (St.of tl' H') ρ' a w' (fun o ho => by rw [h1]; exact List.all_eq_true.1 hd o ho) (by rw [h2]; exact listS_none _ _ (listN_sound _ _ _ hk)) hs'
    unfold wpList
    rw [if_pos (by simp [Region.wanted, hg])]
    refine .inl ?_
    unfold Oper.wp
    rw [hrun]
    have e : a.put o.dst undef = a := by rw [hds]; rfl
    show wpList P opsA Q rest (a.put o.dst undef) w'
    rw [e]
    exact this⟩

/-! ### A slice of a whole array -/
def slcN (T : Tab P) (o : Oper) (tl : List (Nat × AV)) (H : List AObj) (k : List (Nat × AV) → List AObj → Prop) : Prop :=
  match o.op, o.guard, o.dst with
  | .slice t x none none none, none, some d => match T.ty t, ev (lkp tl) x with
    | some ⟨.array n e, _, _, _⟩, .ptr ⟨id, 0, 0, esz, 0⟩ => match getL H id, T.ty e with
      | some (.arr ro τ l), some te => match Nat.beq τ.n esz, Nat.beq te.size esz with
        | true, true => VC (n ≤ l.length) (natF n fun n => k ((d, .slice ⟨id, 0, 0, esz, 0⟩ n) :: tl) H)
        | _, _ => False
      | _, _ => False
    | _, _ => False
  | _, _, _ => False

theorem XGoal.slc {T : Tab P} {n : Nat} {ops : List Oper} {o : Oper} {rest : List Oper} {K : St → Prop} {tl : List (Nat × AV)} {H : List AObj} (hd : (o :: rest).all (dstOk n) = true) (h : slcN T o tl H fun tl H => listN T none ops rest K tl H) :
    XGoal P T n ops (o :: rest) K (St.of tl H) :=
  ⟨fun cx ρ a w opsA Q h1 h2 hs hn => by
    have hdo := List.all_eq_true.1 hd o (by simp)
    obtain ⟨dst, op, ty, pos, after, guard⟩ := o
    unfold slcN at h
    simp only at h
    split at h
    · rename_i t x d
      split at h
      · rename_i m e _ _ _ id esz hty hx
        split at h
        · rename_i ro τ l te ho hte
          split at h
          · rename_i he1 he2
            obtain ⟨hml, hk⟩ := h
            rw [natF_eq] at hk
            have he1 := Nat.eq_of_beq_eq_true he1
            have he2 := Nat.eq_of_beq_eq_true he2
            rw [getL_eq] at ho
            have hrx := ev_rel hs x
            have e1 : ev (St.of tl H).t x = ev (lkp tl) x := rfl
            rw [e1, hx] at hrx
            cases hux : a.eval x <;> rw [hux] at hrx <;> cases hrx
            rename_i hid
            obtain ⟨dd, hdd, rfl⟩ := (T.ok t _ hty).und
            obtain ⟨ie, ze, hie, hise, _⟩ := (T.ok e _ hte).info
            have hrun : (execOp a.eval ⟨some d, .slice t x none none none, ty, pos, after, none⟩).run P w = .ok (.value (.slice (some ((⟨id, 0, 0, esz, 0⟩ : AAddr).at ρ)) m m)) w := by
              show (do pure (Next.value (← Instr.sliceAt t (a.eval x) none none none)) : Sem Next).run P w = _
              rw [hux]
              simp [Instr.sliceAt, run_underlying hdd, Instr.sureAddr, Instr.sliceBounds, Go.sizeOf, typeInfo, hie]
              unfold Addr.add; simp
            have hrow := arr_row hs.hs ho
            have hwf := arr_wf hs.hs ho
            have hfits := hrow.fits
            rw [flat_length τ.enc l hwf] at hfits
            have hdn : d < cx.n := by rw [h1]; exact dstOk_spec hdo d rfl
            have hv : VRel ρ H.length (.slice ⟨id, 0, 0, esz, 0⟩ m) (.slice (some ((⟨id, 0, 0, esz, 0⟩ : AAddr).at ρ)) m m) := by
              refine .slice _ _ _ _ hid (Nat.le_refl _) (.inr ⟨rfl, ?_⟩)
              have : m * τ.n ≤ l.length * τ.n := Nat.mul_le_mul_right _ hml
              simp only [AAddr.cell, ← he1]
              omega
            have hS := hs.put (some d) (fun k hk => by cases hk; exact hdn) hv
            have hS' : Sim cx ρ (St.of ((d, .slice ⟨id, 0, 0, esz, 0⟩ m) :: tl) H) (a.put (some d) (.slice (some ((⟨id, 0, 0, esz, 0⟩ : AAddr).at ρ)) m m)) w := by
              rw [St.of_cons]; exact hS
            have := listP_sound (T := T) (ops := opsA) hn rest _ ρ _ w (fun o' ho' => by rw [h1]; exact List.all_eq_true.1 hd o' (by simp [ho'])) (by rw [h2]; exact listS_none _ _ (listN_sound _ _ _ hk)) hS'
            unfold wpList
            rw [if_pos (by simp [Region.wanted])]
            refine .inl ?_
            unfold Oper.wp
            rw [hrun]
            exact this
          · exact h.elim
        · exact h.elim
      · exact h.elim
    · exact h.elim⟩

/-! ### A byte of a text that stands in the code -/
def strAt (s : ByteArray) (k : Nat) : Int := match s[k]? with | some b => (b.toNat : Int) | none => 0
theorem strAt_range (s : ByteArray) (k : Nat) : 0 ≤ strAt s k ∧ strAt s k ≤ 255 := by
  unfold strAt
  split
  · rename_i b _
    have := b.toNat_lt
    omega
  · omega
theorem in64_str (s : ByteArray) (k : Nat) : in64 (0 + strAt s k) := by
  have := strAt_range s k
  unfold in64; omega
theorem in64_byte (s : ByteArray) (k : Nat) : in64 (strAt s k) := by
  have := strAt_range s k
  unfold in64; omega
theorem wrap_u8 {x : Int} (h : 0 ≤ x ∧ x ≤ 255) : IntKind.wrap .u8 x = x := by
  simp only [IntKind.wrap, IntKind.bits, IntKind.signed, Bool.false_and, Bool.false_eq_true, if_false]
  omega
theorem wrap_u64 {x : Int} (h : 0 ≤ x ∧ x ≤ 9223372036854775807) : IntKind.wrap .u64 x = x := by
  simp only [IntKind.wrap, IntKind.bits, IntKind.signed, Bool.false_and, Bool.false_eq_true, if_false]
  omega
def strN (o : Oper) (tl : List (Nat × AV)) (H : List AObj) (k : List (Nat × AV) → List AObj → Prop) : Prop :=
  match o.op, o.guard, o.dst with
  | .index t (.const (.string s)) i, none, some d => match ev (lkp tl) i with
    | .int _ n => VC (0 ≤ n ∧ n.toNat < s.size) (k ((d, .int .u8 (strAt s n.toNat)) :: tl) H)
    | _ => False
  | _, _, _ => False
theorem XGoal.str {T : Tab P} {n : Nat} {ops : List Oper} {o : Oper} {rest : List Oper} {K : St → Prop} {tl : List (Nat × AV)} {H : List AObj} (t : TypeId) (ht : P.underlying t = some .string) (hot : (match o.op with | .index t' _ _ => Nat.beq t' t | _ => false) = true) (hd : (o :: rest).all (dstOk n) = true) (h : strN o tl H fun tl H => listN T none ops rest K tl H) :
    XGoal P T n ops (o :: rest) K (St.of tl H) :=
  ⟨fun cx ρ a w opsA Q h1 h2 hs hn => by
    have hdo := List.all_eq_true.1 hd o (by simp)
    obtain ⟨dst, op, ty, pos, after, guard⟩ := o
    unfold strN at h
    simp only at h hot
    split at h
    · rename_i t' s i d
      have := Nat.eq_of_beq_eq_true hot
      subst this
      split at h
      · rename_i kk m hi
        obtain ⟨⟨hm0, hm1⟩, hk⟩ := h
        have hri := ev_rel hs i
        have e1 : ev (St.of tl H).t i = ev (lkp tl) i := rfl
        rw [e1, hi] at hri
        cases hui : a.eval i <;> rw [hui] at hri <;> cases hri
        have hget : s[m.toNat]? = some (s[m.toNat]'hm1) := by simp [hm1]
        have hrun : (execOp a.eval ⟨some d, .index t' (.const (.string s)) i, ty, pos, after, none⟩).run P w = .ok (.value (.int .u8 (strAt s m.toNat))) w := by
          show (do pure (Next.value (← Instr.index t' (.string s) (a.eval i))) : Sem Next).run P w = _
          rw [hui]
          have hst : strAt s m.toNat = ((s[m.toNat]'hm1).toNat : Int) := by unfold strAt; rw [hget]
          rw [hst]
          simp [Instr.index, asIntOf, run_underlying ht, hm0, hget]
        have hdn : d < cx.n := by rw [h1]; exact dstOk_spec hdo d rfl
        have hS := hs.put (some d) (fun k hk => by cases hk; exact hdn) (.int .u8 (strAt s m.toNat))
        have hS' : Sim cx ρ (St.of ((d, .int .u8 (strAt s m.toNat)) :: tl) H) (a.put (some d) (.int .u8 (strAt s m.toNat))) w := by
          rw [St.of_cons]; exact hS
        have := listP_sound (T := T) (ops := opsA) hn rest _ ρ _ w (fun o' ho' => by rw [h1]; exact List.all_eq_true.1 hd o' (by simp [ho'])) (by rw [h2]; exact listS_none _ _ (listN_sound _ _ _ hk)) hS'
        unfold wpList
        rw [if_pos (by simp [Region.wanted])]
        refine .inl ?_
        unfold Oper.wp
        rw [hrun]
        exact this
      · exact h.elim
    · exact h.elim⟩

/-- What a call returns, told no more. -/
theorem ACall.hide {f : FuncId} {args : List AV} {H H1 : List AObj} {K : AV → List AObj → Prop} (h : ACall P f args H K) (hK : ∀ r H', K r H' → H' = H1) : ACall P f args H (Is .undef H1) :=
  ⟨h.text, ⟨_, _, rfl, rfl⟩, fun ρ w vals h1 h2 h3 => (h.run ρ w vals h1 h2 h3).mono fun e w' ⟨v, r, H', ρ', he, hk, hv, rest⟩ => ⟨v, .undef, H', ρ', he, ⟨rfl, hK r H' hk⟩, .undef _, rest⟩⟩
end YtofjbgpaofcpjaaAM
