/- The effects' steps are sound. -/
import Derived.Test.YtofjbgpaofcpjaaAmMem
import Derived.Great.BuildSlice
import Derived.Lib.SliceRun
set_option linter.unusedVariables false
set_option linter.unusedSimpArgs false
namespace YtofjbgpaofcpjaaAM
open Go
variable {P : Program}

/-- What an operation must come to. -/
def Fin (P : Program) (cx : Cx) (o : Oper) (a : Act) (w : World) (K : St → Prop) : Prop :=
  ∀ Q : Exit → Act → World → Prop, o.wp P a w (fun a' w' => ∃ st' ρ', K st' ∧ Sim cx ρ' st' a' w') Q

section
variable {cx : Cx} {ρ : Ren} {st : St} {a : Act} {w : World} {o : Oper} {K : St → Prop}

theorem fin_value {u : Value} {w' : World} {st' : St} {ρ' : Ren} {v : AV} (hr : (execOp a.eval o).run P w = .ok (.value u) w') (hd : ∀ k, o.dst = some k → k < cx.n) (hs : Sim cx ρ' st' a w') (hv : VRel ρ' st'.h.length v u) (hK : K (st'.put o.dst v)) : Fin P cx o a w K := fun Q => by
  unfold Oper.wp
  rw [hr]
  exact ⟨_, _, hK, hs.put o.dst hd hv⟩

theorem fin_skip {w' : World} {st' : St} {ρ' : Ren} (hr : (execOp a.eval o).run P w = .ok .skip w') (hd : ∀ k, o.dst = some k → k < cx.n) (hs : Sim cx ρ' st' a w') (hK : K (st'.put o.dst .undef)) : Fin P cx o a w K := fun Q => by
  unfold Oper.wp
  rw [hr]
  exact ⟨_, _, hK, hs.put o.dst hd (.undef _)⟩

theorem Sim.alloc (h : Sim cx ρ st a w) (ob : AObj) (cs : List AV) (c : Array Value) (t : TypeId) (hwf : ob.wf) (h0 : ob.row st.h.length 0 = some cs) (h1 : ∀ r, r ≠ 0 → ob.row st.h.length r = none)
    (hlen : cs.length ≤ c.size) (hrel : ∀ (k : Nat) (a : AV), cs[k]? = some a → ∃ v, c[k]? = some v ∧ VRel ρ st.h.length a v ∧ v.oneCell' = true) :
    Sim cx (ρ.put st.h.length fun _ => ⟨w.heap.size, 0, c.size⟩) ⟨st.t, st.h ++ [ob]⟩ a (w.alloc (.cells c t)) :=
  h.grow ob _ (h.hs.alloc ob cs c t hwf h0 h1 hlen hrel) (h.fr.alloc _) (fun r _ _ _ => .inr h.fr.size)

theorem Sim.ghost (h : Sim cx ρ st a w) (ob : AObj) (hwf : ob.wf) (h0 : ∀ r cs, ob.row st.h.length r = some cs → cs = []) : Sim cx (ρ.put st.h.length fun _ => ⟨0, 0, 0⟩) ⟨st.t, st.h ++ [ob]⟩ a w :=
  h.grow ob _ (h.hs.ghost ob hwf h0) h.fr (fun r _ _ h => absurd h (by simp))

/-- A new object of one row, in a new block. -/
theorem fin_new (h : Sim cx ρ st a w) (hd : ∀ k, o.dst = some k → k < cx.n) (ob : AObj) (cs : List AV) (c : Array Value) (t : TypeId) (hwf : ob.wf) (h0 : ob.row st.h.length 0 = some cs) (h1 : ∀ r, r ≠ 0 → ob.row st.h.length r = none)
    (hlen : cs.length ≤ c.size) (hrel : ∀ (k : Nat) (a : AV), cs[k]? = some a → ∃ v, c[k]? = some v ∧ VRel ρ st.h.length a v ∧ v.oneCell' = true)
    {u : Value} (hr : (execOp a.eval o).run P w = .ok (.value u) (w.alloc (.cells c t))) {v : Nat → AV} (hv : VRel (ρ.put st.h.length fun _ => ⟨w.heap.size, 0, c.size⟩) (st.h.length + 1) (v st.h.length) u)
    (hK : newK st o.dst K ob v) : Fin P cx o a w K := by
  unfold newK at hK
  rw [snocL_eq] at hK
  exact fin_value hr hd (h.alloc ob cs c t hwf h0 h1 hlen hrel) (by simpa using hv) hK

/-- A slice of a new block's beginning. -/
theorem slice_new {N : Nat} {b size len cap n : Nat} (hl : len ≤ cap) (hs : cap * n ≤ size) (ρ : Ren) : VRel (ρ.put N fun _ => ⟨b, 0, size⟩) (N + 1) (.slice ⟨N, 0, 0, n, 0⟩ len) (.slice (some ⟨b, 0, none⟩) len cap) := by
  refine .slice _ _ _ _ (by simp) hl (.inr ⟨?_, ?_⟩)
  · simp [AAddr.at, Ren.put_same, Place.addr, AAddr.cell]
  · simp [Ren.put_same, AAddr.cell]; exact hs

theorem ptr_new {N : Nat} {b size n : Nat} (ρ : Ren) : VRel (ρ.put N fun _ => ⟨b, 0, size⟩) (N + 1) (.ptr ⟨N, 0, 0, n, 0⟩) (.pointer (some ⟨b, 0, none⟩)) := by
  have : (⟨N, 0, 0, n, 0⟩ : AAddr).at (ρ.put N fun _ => ⟨b, 0, size⟩) = ⟨b, 0, none⟩ := by simp [AAddr.at, Ren.put_same, Place.addr, AAddr.cell]
  rw [← this]; exact .ptr _ (by simp)

theorem arr_rows (id : Nat) (ro : Bool) (τ : Ty) (l : List τ.El) : (AObj.arr ro τ l).row id 0 = some (l.flatMap τ.enc) ∧ ∀ r, r ≠ 0 → (AObj.arr ro τ l).row id r = none :=
  ⟨rfl, fun r hr => by simp [AObj.row, hr]⟩

theorem raw_rows (id : Nat) (ro : Bool) (n : Nat) (vs : List AV) : (AObj.arr ro (.raw n) [vs]).row id 0 = some vs := by
  simp [AObj.row, Ty.enc]

/-- Zero cells, by the table. -/
theorem zero_rel (T : Tab P) {t : TypeId} {ti : TI} (ht : T.ty t = some ti) : ∃ i z, P.info? t = some i ∧ i.zero = some z ∧ i.size = ti.size ∧ i.bytes = ti.bytes ∧ z.cells.size = ti.size ∧ ti.zero.length = ti.size ∧
    ∀ (ρ : Ren) (N k : Nat) (c : AV), ti.zero[k]? = some c → ∃ v, z.cells[k]? = some v ∧ VRel ρ N c v ∧ v.oneCell' = true := by
  have hT := T.ok t ti ht
  obtain ⟨i, z, hi, hs, hb, hz, hc⟩ := hT.info
  refine ⟨i, z, hi, hz, hs, hb, hc, hT.zlen, fun ρ N k c hk => ?_⟩
  obtain ⟨v, h1, h2, h3⟩ := hT.zero i z hi hz k c hk
  exact ⟨v, h1, h3 ρ N, h2⟩

theorem alloc_run (T : Tab P) {t : TypeId} {i : TypeInfo} {z : Value} (hi : P.info? t = some i) (hz : i.zero = some z) (w : World) :
    (Instr.alloc t true (.tuple #[])).run P w = .ok (.pointer (some ⟨w.heap.size, 0, none⟩)) (w.alloc (.cells z.cells t)) := by
  simp [Instr.alloc, zeroValue, typeInfo, hi, hz, newVar, newRow]

theorem box_run (t : TypeId) (v : Value) (w : World) : (Instr.box t v).run P w = .ok (.pointer (some ⟨w.heap.size, 0, none⟩)) (w.alloc (.cells v.cells t)) := by
  simp [Instr.box, newVar, newRow]

theorem eff_nil (T : Tab P) (h : Sim cx ρ st a w) (hd : ∀ k, o.dst = some k → k < cx.n) {x : Operand} (hop : (execOp a.eval o) = pure (.value (a.eval x))) (hx : isNil x = true) {ob : AObj} {n : Nat} (he : emptyOf T o.type = some (ob, n))
    (hK : newK st o.dst K ob fun N => .slice ⟨N, 0, 0, n, 0⟩ 0) : Fin P cx o a w K := by
  have hev : a.eval x = .slice none 0 0 := by
    unfold isNil at hx
    split at hx
    · rfl
    · cases hx
  unfold newK at hK
  rw [snocL_eq] at hK
  have hg : ob.wf ∧ ∀ r cs, ob.row st.h.length r = some cs → cs = [] := by
    unfold emptyOf at he
    split at he
    · split at he
      · cases he
        refine ⟨by simp [AObj.wf], fun r cs hr => ?_⟩
        simp only [AObj.row] at hr
        split at hr
        · simpa using hr.symm
        · cases hr
      · cases he
        refine ⟨trivial, fun r cs hr => ?_⟩
        simp only [AObj.row] at hr
        split at hr
        · simpa [hdrs] using hr.symm
        · simp at hr
      · cases he
    · cases he
  refine fin_value (u := .slice none 0 0) (w' := w) (by rw [hop, hev]; rfl) hd (h.ghost ob hg.1 hg.2) ?_ hK
  exact .slice _ _ _ _ (by simp) (Nat.le_refl _) (.inl rfl)

theorem eff_alloc (T : Tab P) (h : Sim cx ρ st a w) (hd : ∀ k, o.dst = some k → k < cx.n) {t : TypeId} (hop : o.op = .alloc t) (hK : effP T st o K) : Fin P cx o a w K := by
  obtain ⟨dst, op, ty, pos, after, guard⟩ := o
  simp only at hop; subst hop
  simp only [effP] at hK
  split at hK
  · rename_i n e s b z ht
    split at hK
    · rename_i τ te her hte
      obtain ⟨⟨hzd, hsz, hz⟩, hK⟩ := hK
      obtain ⟨i, zz, hi, hzz, _, _, hc, hl, hrel⟩ := zero_rel T ht
      obtain ⟨_, _, _, _, _, _, _, hl', _⟩ := zero_rel T hte
      have hn : (τ.enc τ.d).length = τ.n := by rw [hzd, hl', hsz]
      refine fin_new h hd _ ((List.replicate n τ.d).flatMap τ.enc) zz.cells t ?_ (arr_rows _ _ _ _).1 (arr_rows _ _ _ _).2 ?_ (fun k c hk => hrel ρ _ k c (by rw [hz]; exact hk)) (by show (do pure (Next.value (← Instr.alloc t true (.tuple #[]))) : Sem Next).run P w = _; simp [alloc_run T hi hzz]) (ptr_new ρ) hK
      · intro x hx; rw [List.eq_of_mem_replicate hx]; exact hn
      · rw [← hz, hc]; exact Nat.le_of_eq hl
    · exact hK.elim
  · rename_i k n b z hk ht
    obtain ⟨i, zz, hi, hzz, _, _, hc, hl, hrel⟩ := zero_rel T ht
    refine fin_new h hd _ z zz.cells t ?_ (raw_rows _ _ _ _) (arr_rows _ _ _ _).2 (by rw [hc]; exact Nat.le_of_eq hl) (fun k c hk => hrel ρ _ k c hk) (by show (do pure (Next.value (← Instr.alloc t true (.tuple #[]))) : Sem Next).run P w = _; simp [alloc_run T hi hzz]) (ptr_new ρ) hK
    intro x hx
    obtain rfl : x = z := by simpa using hx
    exact hl
  · exact hK.elim

theorem rel_cells {N : Nat} {vs : List AV} {ws : Array Value} (hv : VRel ρ N (.agg vs) (.agg ws)) (h1 : vs.all AV.one = true) (k : Nat) (c : AV) (hk : vs[k]? = some c) : ∃ v, ws[k]? = some v ∧ VRel ρ N c v ∧ v.oneCell' = true := by
  cases hv with | agg _ _ hl hr =>
  have hlt := (List.getElem?_eq_some_iff.1 hk).1
  have hw : ws[k]? = some (ws[k]'(by omega)) := by simp [show k < ws.size by omega]
  refine ⟨_, hw, hr k c _ hk hw, one_of_rel (hr k c _ hk hw) ?_⟩
  exact List.all_eq_true.1 h1 c (List.mem_of_getElem? hk)

theorem flat_int (l : List Int) : l.flatMap (Ty.enc .int) = l.map (.int .i64) := by
  induction l with
  | nil => rfl
  | cons x l ih => rw [List.flatMap_cons, ih]; rfl

theorem eff_box (T : Tab P) (h : Sim cx ρ st a w) (hd : ∀ k, o.dst = some k → k < cx.n) {t : TypeId} {x : Operand} (hop : o.op = .box t x) (hK : effP T st o K) : Fin P cx o a w K := by
  obtain ⟨dst, op, ty, pos, after, guard⟩ := o
  simp only at hop; subst hop
  simp only [effP] at hK
  have hx := ev_rel h x
  split at hK
  · rename_i fs n b z ht
    split at hK
    · rename_i vs hvs
      obtain ⟨⟨hn, h1⟩, hK⟩ := hK
      rw [hvs] at hx
      cases hu : a.eval x <;> rw [hu] at hx <;> cases hx
      rename_i ws hl hr
      refine fin_new h hd _ vs ws t ?_ (raw_rows _ _ _ _) (arr_rows _ _ _ _).2 (Nat.le_of_eq hl) (fun k c hk => rel_cells (.agg _ _ hl hr) h1 k c hk) (by show (do pure (Next.value (← Instr.box t (a.eval x))) : Sem Next).run P w = _; simp [hu, box_run, Value.cells]) (ptr_new ρ) hK
      intro y hy
      obtain rfl : y = vs := by simpa using hy
      exact hn
    · exact hK.elim
  · rename_i n0 e0 n b z ht
    split at hK
    · rename_i l hl
      rw [hl] at hx
      obtain ⟨cs, hu, hcs, hget⟩ := ints_rel hx
      refine fin_new h hd (.arr false .int l) (l.map (.int .i64)) cs t (fun y hy => rfl) (by rw [(arr_rows _ _ _ _).1, flat_int]) (arr_rows _ _ _ _).2 (by rw [List.length_map]; omega) (fun k c hk => ?_) (by show (do pure (Next.value (← Instr.box t (a.eval x))) : Sem Next).run P w = _; simp [hu, box_run, Value.cells]) (ptr_new ρ) hK
      rw [List.getElem?_map] at hk
      obtain ⟨y, hy, rfl⟩ := Option.map_eq_some_iff.1 hk
      have hlt := (List.getElem?_eq_some_iff.1 hy).1
      refine ⟨_, hget k hlt, ?_, rfl⟩
      have : l.getD k 0 = y := by
        rw [List.getD_eq_getElem?_getD, hy]; rfl
      rw [this]; exact .int _ _
    · exact hK.elim
  · rename_i k n b z hk ht
    split at hK
    · rename_i hg hone
      have ho := one_of_rel hx hone
      have hc := cells_of_one ho
      refine fin_new h hd _ [ev st.t x] #[a.eval x] t ?_ (raw_rows _ _ _ _) (arr_rows _ _ _ _).2 (by simp) (fun k c hk => ?_) (by show (do pure (Next.value (← Instr.box t (a.eval x))) : Sem Next).run P w = _; simp [box_run, hc]) (ptr_new ρ) hK
      · intro y hy
        obtain rfl : y = [ev st.t x] := by simpa using hy
        rfl
      · cases k with
        | zero => simp at hk; subst hk; exact ⟨_, rfl, hx, ho⟩
        | succ k => simp at hk
    · exact hK.elim
  · exact hK.elim

/-! ### make -/
theorem made_get (z : Array Value) (n k : Nat) (hk : k < n) (hz : 0 < z.size) : (madeCells z n)[k]? = some (z[k % z.size]'(Nat.mod_lt _ hz)) := by
  simp [madeCells, hk, Nat.mod_lt _ hz]

theorem make_fits {n : Int} {b : Nat} (h0 : 0 ≤ n) (hb : 0 < b) (h : n * (b : Int) ≤ 281474976710656) : n ≤ 9223372036854775807 := by
  have := Int.mul_le_mul_of_nonneg_left (show (1 : Int) ≤ b by omega) h0
  omega

theorem eff_make (T : Tab P) (h : Sim cx ρ st a w) (hd : ∀ k, o.dst = some k → k < cx.n) {t : TypeId} {l c : Operand} (hop : o.op = .makeSlice t l c) (hK : effP T st o K) : Fin P cx o a w K := by
  obtain ⟨dst, op, ty, pos, after, guard⟩ := o
  simp only at hop; subst hop
  simp only [effP] at hK
  have hl := ev_rel h l
  have hc := ev_rel h c
  split at hK
  · rename_i e _ _ _ n m ht hln hcm
    obtain ⟨rfl, hK⟩ := hK
    rw [hln] at hl
    rw [hcm] at hc
    cases hul : a.eval l <;> rw [hul] at hl <;> cases hl
    cases huc : a.eval c <;> rw [huc] at hc <;> cases hc
    obtain ⟨d, hdd, rfl⟩ := (T.ok t _ ht).und
    unfold makeK at hK
    split at hK
    · rename_i te τ hte her
      obtain ⟨⟨h0, hb, hz, hsz⟩, hK⟩ := hK
      obtain ⟨i, zz, hi, hzz, hs, hbb, hcz, hzl, hrel⟩ := zero_rel T hte
      have hpos := (T.ok e te hte).pos
      have h63 : n ≤ 9223372036854775807 := make_fits h0 hpos hb
      have hrun := run_make (P := P) w t e i zz hdd hi hzz .i64 .i64 n n h0 (Int.le_refl _) (by rw [hbb, Int.mul_comm]; exact hb) h63
      have hn : (τ.enc τ.d).length = τ.n := by rw [hz, hzl, hsz]
      have hwf : ∀ x ∈ List.replicate n.toNat τ.d, (τ.enc x).length = τ.n := fun x hx => by rw [List.eq_of_mem_replicate hx]; exact hn
      have hfl := flat_length τ.enc _ hwf
      rw [List.length_replicate] at hfl
      refine fin_new (v := fun N => .slice ⟨N, 0, 0, τ.n, 0⟩ n.toNat) h hd (.arr false τ (List.replicate n.toNat τ.d)) ((List.replicate n.toNat τ.d).flatMap τ.enc) (madeCells zz.cells (n.toNat * i.size)) e hwf (arr_rows _ _ _ _).1 (arr_rows _ _ _ _).2 (by rw [size_madeCells, hs, hsz, hfl]; exact Nat.le_refl _) (fun k c hk => ?_)
        (by show (do pure (Next.value (← Instr.makeSlice t (a.eval l) (a.eval c))) : Sem Next).run P w = _; rw [hul, huc]; simp [hrun]) (slice_new (Nat.le_refl _) (by rw [size_madeCells, hs, hsz]; exact Nat.le_refl _) ρ) hK
      have hlt := (List.getElem?_eq_some_iff.1 hk).1
      rw [hfl] at hlt
      have hp : 0 < τ.n := Nat.pos_of_ne_zero fun e => by rw [e] at hlt; simp at hlt
      rw [flat_get τ.enc hp _ hwf, List.getElem?_replicate] at hk
      split at hk
      · simp only [Option.bind_some] at hk
        rw [hz] at hk
        obtain ⟨v, h1, h2, h3⟩ := hrel ρ st.h.length _ c hk
        refine ⟨v, ?_, h2, h3⟩
        rw [made_get _ _ _ (by rw [hs, hsz]; exact hlt) (by rw [hcz, hsz]; exact hp)]
        have hm : zz.cells.size = τ.n := by rw [hcz, hsz]
        simp only [hm]
        rw [← h1]; simp [hm, Nat.mod_lt _ hp]
      · cases hk
    · rename_i te hte her
      obtain ⟨⟨h0, hb, hz, hsz⟩, hK⟩ := hK
      obtain ⟨i, zz, hi, hzz, hs, hbb, hcz, hzl, hrel⟩ := zero_rel T hte
      have hpos := (T.ok e te hte).pos
      have h63 : n ≤ 9223372036854775807 := make_fits h0 hpos hb
      have hrun := run_make (P := P) w t e i zz hdd hi hzz .i64 .i64 n n h0 (Int.le_refl _) (by rw [hbb, Int.mul_comm]; exact hb) h63
      obtain ⟨z0, hz0, hz1, hz2⟩ := hrel ρ st.h.length 0 .nilS (by rw [hz]; rfl)
      have hzn : z0 = .slice none 0 0 := by cases hz1; rfl
      subst hzn
      unfold newK at hK
      rw [snocL_eq] at hK
      have hcell : ∀ k, k < n.toNat → (madeCells zz.cells (n.toNat * i.size))[k]? = some (.slice none 0 0) := fun k hk => by
        rw [made_get _ _ _ (by rw [hs, hsz]; omega) (by rw [hcz, hsz]; omega)]
        have hm : zz.cells.size = 1 := by rw [hcz, hsz]
        simp only [hm, Nat.mod_one]
        rw [← hz0]; simp [hm]
      have hlen : ∀ (k : Nat) (l : List (List Int)), (hdrs st.h.length k l).length = l.length := fun k l => by
        induction l generalizing k with
        | nil => rfl
        | cons r rs ih => simp [hdrs, ih]
      have hget : ∀ (m k q : Nat) (c : AV), (hdrs st.h.length k (List.replicate m []))[q]? = some c → q < m ∧ ∃ r, c = .slice ⟨st.h.length, r, 0, 1, 0⟩ 0 := fun m => by
        induction m with
        | zero => intro k q c hc; simp [hdrs] at hc
        | succ m ih =>
          intro k q c hc
          rw [List.replicate_succ, hdrs] at hc
          cases q with
          | zero => simp at hc; exact ⟨by omega, _, hc.symm⟩
          | succ q =>
            rw [List.getElem?_cons_succ] at hc
            obtain ⟨h1, h2⟩ := ih (k + 1) q c hc
            exact ⟨by omega, h2⟩
      have hrow : ∀ r, (List.replicate n.toNat ([] : List Int))[r]? = none ∨ (List.replicate n.toNat ([] : List Int))[r]? = some [] := fun r => by
        rw [List.getElem?_replicate]; split <;> simp
      let f : Nat → Place := fun r => if r = 0 then ⟨w.heap.size, 0, n.toNat * i.size⟩ else ⟨0, 0, 0⟩
      have hs1 : i.size = 1 := by rw [hs, hsz]
      have hf0 : f 0 = ⟨w.heap.size, 0, n.toNat * i.size⟩ := rfl
      have hfs : ∀ r, r ≠ 0 → f r = ⟨0, 0, 0⟩ := fun r hr => by simp [f, hr]
      have hH : HSim (ρ.put st.h.length f) (st.h ++ [.rows false (List.replicate n.toNat [])]) (w.alloc (.cells (madeCells zz.cells (n.toNat * i.size)) e)) := by
        refine h.hs.snoc (Keeps.alloc w _) _ f trivial (fun r cs hr => ?_) (fun r r' _ _ _ hne h0 h0' => ?_) (fun id o' r r' ho' hr' hr _ h0 h0' => ?_)
        · by_cases e0 : r = 0
          · subst e0
            rw [hf0]
            simp only [AObj.row, if_true, Option.some.injEq] at hr
            subst hr
            refine ⟨by rw [hlen]; simp [hs1], fun _ => by simp, fun _ k hk => ⟨?_, by simp [Place.addr]⟩, fun k c hc => ?_⟩
            · simp only at hk; simp [Place.addr, size_madeCells, hk]
            · obtain ⟨hk, r, rfl⟩ := hget _ _ _ _ hc
              refine ⟨_, ?_, .slice _ _ none 0 (by simp) (Nat.le_refl _) (.inl rfl), rfl⟩
              simp only [Place.addr, World.cell?_alloc_new, Nat.zero_add]; exact hcell k hk
          · rw [hfs r e0]
            simp only [AObj.row, e0, if_false] at hr
            rcases hrow (r - 1) with h' | h' <;> rw [h'] at hr
            · cases hr
            · simp only [Option.map_some, Option.some.injEq] at hr; subst hr
              exact ⟨by simp [ints], fun h => absurd h (by simp), fun _ k hk => absurd hk (by simp), fun k c hc => by simp [ints] at hc⟩
        · by_cases e0 : r = 0
          · by_cases e1 : r' = 0
            · omega
            · rw [hfs r' e1] at h0'; simp at h0'
          · rw [hfs r e0] at h0; simp at h0
        · by_cases e0 : r = 0
          · subst e0
            have := h.hs.block_lt ho' hr' h0'
            rw [hf0]; show w.heap.size ≠ _; omega
          · rw [hfs r e0] at h0; simp at h0
      have hS := h.grow _ f hH (h.fr.alloc _) (fun r _ _ h0 => by
        by_cases e0 : r = 0
        · subst e0; right; rw [hf0]; exact h.fr.size
        · rw [hfs r e0] at h0; simp at h0)
      refine fin_value (u := .slice (some ⟨w.heap.size, 0, none⟩) n.toNat n.toNat) (by show (do pure (Next.value (← Instr.makeSlice t (a.eval l) (a.eval c))) : Sem Next).run P w = _; rw [hul, huc]; simp [hrun]) hd hS ?_ hK
      refine .slice _ _ _ _ (by simp) (Nat.le_refl _) (.inr ⟨?_, ?_⟩)
      · simp [AAddr.at, Ren.put_same, Place.addr, AAddr.cell, hf0]
      · simp [Ren.put_same, AAddr.cell, hf0, hs1]
    · exact hK.elim
  · exact hK.elim

/-! ### Slice literals -/
theorem fold_set (off : Nat) : ∀ (vs : List Value) (s : Nat) (cells : Array Value),
    ((vs.zipIdx s).foldl (fun (cs : Array Value) (p : Value × Nat) => cs.setIfInBounds (off + p.2) p.1) cells).size = cells.size ∧
    ∀ k : Nat, ((vs.zipIdx s).foldl (fun (cs : Array Value) (p : Value × Nat) => cs.setIfInBounds (off + p.2) p.1) cells)[k]? =
      if off + s ≤ k ∧ k < off + s + vs.length ∧ k < cells.size then vs[k - (off + s)]? else cells[k]?
  | [], s, cells => ⟨rfl, fun k => by simp; intro h1 h2; omega⟩
  | v :: vs, s, cells => by
    obtain ⟨h1, h2⟩ := fold_set off vs (s + 1) (cells.setIfInBounds (off + s) v)
    refine ⟨by simpa [List.zipIdx_cons] using h1, fun k => ?_⟩
    rw [List.zipIdx_cons, List.foldl_cons, h2 k, Array.getElem?_setIfInBounds, Array.size_setIfInBounds]
    by_cases e : off + s = k
    · subst e
      rw [if_neg (by omega), if_pos rfl]
      by_cases hlt : off + s < cells.size
      · rw [if_pos hlt, if_pos ⟨by omega, by simp, hlt⟩]; simp
      · rw [if_neg hlt, if_neg (by omega)]
        simp [hlt]
    · rw [if_neg e]
      by_cases hc : off + (s + 1) ≤ k ∧ k < off + (s + 1) + vs.length ∧ k < cells.size
      · rw [if_pos hc, if_pos ⟨by omega, by simp; omega, hc.2.2⟩, show k - (off + s) = (k - (off + (s + 1))) + 1 by omega, List.getElem?_cons_succ]
      · rw [if_neg hc, if_neg (by simp; omega)]

theorem fill_step (size i : Nat) (v : Value) (rest : List (Nat × Value)) (cells : Array Value) (hv : v.cells.size = size) (hfit : i * size + size ≤ cells.size) :
    ∃ c1 : Array Value, Instr.fill (fun i => some (i * size, size)) cells ((i, v) :: rest) = Instr.fill (fun i => some (i * size, size)) c1 rest ∧ c1.size = cells.size ∧
      ∀ k : Nat, c1[k]? = if i * size ≤ k ∧ k < i * size + size then v.cells[k - i * size]? else cells[k]? := by
  have hf := fold_set (i * size) v.cells.toList 0 cells
  refine ⟨_, ?_, hf.1, fun k => ?_⟩
  · simp only [Instr.fill]
    rw [if_neg (by simp [hv]; omega)]
    congr 1
    rw [← Array.foldl_toList, Array.toList_zipIdx]
  · rw [hf.2 k]
    by_cases hc : i * size ≤ k ∧ k < i * size + size
    · rw [if_pos hc, if_pos ⟨by omega, by simp [hv]; omega, by omega⟩]; simp
    · rw [if_neg hc, if_neg (by simp [hv]; omega)]

theorem partsV_spec {e : Operand → AV} {e' : Operand → Value} {ρ : Ren} {N : Nat} (he : ∀ x, VRel ρ N (e x) (e' x)) (size : Nat) :
    ∀ (ps : List (Nat × Operand)) (i : Nat) (l : List (List AV)) (cells : Array Value), partsV e i ps = some l → (∀ vs ∈ l, vs.length = size ∧ vs.all AV.one = true) → (i + ps.length) * size ≤ cells.size →
      ∃ c1 : Array Value, Instr.fill (fun i => some (i * size, size)) cells (ps.map fun p => (p.1, e' p.2)) = some c1 ∧ c1.size = cells.size ∧ l.length = ps.length ∧ (∀ k, k < i * size → c1[k]? = cells[k]?) ∧
        ∀ (j q : Nat) (vs : List AV) (c : AV), l[j]? = some vs → vs[q]? = some c → ∃ v, c1[(i + j) * size + q]? = some v ∧ VRel ρ N c v ∧ v.oneCell' = true
  | [], i, l, cells, h, _, _ => by simp [partsV] at h; subst h; exact ⟨cells, rfl, rfl, rfl, fun _ _ => rfl, fun j q vs c h => by simp at h⟩
  | (j0, x) :: ps, i, l, cells, h, hl, hfit => by
    simp only [partsV] at h
    split at h
    · rename_i l' hb hl'
      have hb := Nat.eq_of_beq_eq_true hb
      subst hb
      have main : ∀ vs : List AV, l = vs :: l' → (∀ k c, vs[k]? = some c → ∃ v, (e' x).cells[k]? = some v ∧ VRel ρ N c v ∧ v.oneCell' = true) → (e' x).cells.size = vs.length → ∃ c1 : Array Value, Instr.fill (fun i => some (i * size, size)) cells (((i, x) :: ps).map fun p => (p.1, e' p.2)) = some c1 ∧ c1.size = cells.size ∧ l.length = ((i, x) :: ps).length ∧ (∀ k, k < i * size → c1[k]? = cells[k]?) ∧
        ∀ (j q : Nat) (vs : List AV) (c : AV), l[j]? = some vs → vs[q]? = some c → ∃ v, c1[(i + j) * size + q]? = some v ∧ VRel ρ N c v ∧ v.oneCell' = true := fun vs hvs hrel hsz => by
        subst hvs
        have hvl := (hl vs (by simp)).1
        rw [List.length_cons] at hfit
        have hfit1 : i * size + size ≤ cells.size := by
          have : (i + 1) * size ≤ (i + (ps.length + 1)) * size := Nat.mul_le_mul_right _ (by omega)
          rw [Nat.add_mul, Nat.one_mul] at this; omega
        obtain ⟨c0, hc0, hs0, hg0⟩ := fill_step size i (e' x) (ps.map fun p => (p.1, e' p.2)) cells (by omega) hfit1
        obtain ⟨c1, h1, h2, h3, h4, h5⟩ := partsV_spec he size ps (i + 1) l' c0 hl' (fun vs hv => hl vs (by simp [hv])) (by rw [hs0, show i + 1 + ps.length = i + (ps.length + 1) by omega]; exact hfit)
        refine ⟨c1, by rw [List.map_cons, hc0, h1], by omega, by simp [h3], fun k hk => ?_, fun j q ws c hj hq => ?_⟩
        · rw [h4 k (by rw [Nat.add_mul]; omega), hg0 k, if_neg (by omega)]
        · cases j with
          | zero =>
            simp at hj; subst hj
            obtain ⟨v, hv, hr⟩ := hrel q c hq
            have hq' := (List.getElem?_eq_some_iff.1 hq).1
            refine ⟨v, ?_, hr⟩
            rw [Nat.add_zero, h4 _ (by rw [Nat.add_mul]; omega), hg0, if_pos (by omega), show i * size + q - i * size = q by omega]; exact hv
          | succ j =>
            obtain ⟨v, hv, hr⟩ := h5 j q ws c (by simpa using hj) hq
            exact ⟨v, by rw [show i + (j + 1) = i + 1 + j by omega]; exact hv, hr⟩
      have hx := he x
      split at h
      · rename_i vs hvs
        cases h
        rw [hvs] at hx
        cases hu : e' x <;> rw [hu] at hx <;> cases hx
        rename_i ws hlw hr
        exact main vs rfl (fun k c hk => by rw [hu]; exact rel_cells (.agg _ _ hlw hr) (hl vs (by simp)).2 k c hk) (by rw [hu]; exact hlw.symm)
      · cases h
      · cases h
      · cases h
        have h1 := (hl [e x] (by simp)).2
        simp at h1
        have ho := one_of_rel hx h1
        refine main [e x] rfl (fun k c hk => ?_) (by rw [cells_of_one ho]; rfl)
        cases k with
        | zero => simp at hk; subst hk; exact ⟨_, by rw [cells_of_one ho]; rfl, hx, ho⟩
        | succ k => simp at hk
    · cases h

theorem eff_build (T : Tab P) (h : Sim cx ρ st a w) (hd : ∀ k, o.dst = some k → k < cx.n) {t : TypeId} {n : Nat} {ps : Array (Nat × Operand)} (hop : o.op = .buildSlice t n ps) (hK : effP T st o K) : Fin P cx o a w K := by
  obtain ⟨dst, op, ty, pos, after, guard⟩ := o
  simp only at hop; subst hop
  simp only [effP] at hK
  split at hK
  · rename_i e _ _ _ ht
    split at hK
    · rename_i te τ l hte her hl
      obtain ⟨⟨hn, hbig, hsz, hall⟩, hK⟩ := hK
      obtain ⟨d, hdd, rfl⟩ := (T.ok t _ ht).und
      obtain ⟨i, zz, hi, hzz, hs, hbb, hcz, hzl, hrel⟩ := zero_rel T hte
      have hwf : ∀ x ∈ l.map τ.dec, (τ.enc x).length = τ.n := fun x hx => by
        obtain ⟨vs, hv, rfl⟩ := List.mem_map.1 hx
        obtain ⟨h1, h2, _⟩ := hall vs hv
        rw [h2]; exact h1
      have hfl := flat_length τ.enc _ hwf
      rw [List.length_map, hn] at hfl
      have hs1 : i.size = τ.n := by rw [hs, hsz]
      have hlp : l.length = ps.toList.length := by
        obtain ⟨_, _, _, h3, _⟩ := partsV_spec (fun x => ev_rel h x) τ.n ps.toList 0 l (Array.replicate ((0 + ps.toList.length) * τ.n) (.bool false)) hl (fun vs hv => ⟨(hall vs hv).1, (hall vs hv).2.2⟩) (by simp)
        exact h3
      obtain ⟨c1, hf, hc1, _, _, hget⟩ := partsV_spec (fun x => ev_rel h x) τ.n ps.toList 0 l ((Array.range (n * τ.n)).map (zz.cells[· % zz.cells.size]!)) hl (fun vs hv => ⟨(hall vs hv).1, (hall vs hv).2.2⟩) (by simp [← hlp, hn])
      have hparts : (ps.map fun p => (p.1, a.eval p.2)).toList = ps.toList.map fun p => (p.1, a.eval p.2) := by simp
      have hrun : (Instr.buildSlice t n (ps.map fun p => (p.1, a.eval p.2))).run P w = .ok (.slice (some ⟨w.heap.size, 0, none⟩) n n) (w.alloc (.cells c1 e)) := by
        by_cases h0 : n * i.size = 0
        · have hc : c1 = #[] := by
            apply Array.eq_empty_of_size_eq_zero; rw [hc1]; simp [← hs1, h0]
          have hr0 : Array.range 0 = #[] := rfl
          have hf' : Instr.fill (fun k => some (k * i.size, i.size)) #[] (ps.toList.map fun p => (p.1, a.eval p.2)) = some #[] := by
            rw [hc, ← hs1, h0, hr0] at hf
            simpa using hf
          simp [Instr.buildSlice, run_underlying hdd, Go.sizeOf, typeInfo, hi, h0, hr0, hf', newRow, hc]
        · refine run_buildSlice w t e n _ c1 i zz hdd hi hzz (by rw [hs]; omega) h0 ?_
          rw [hparts, hs1]; exact hf
      refine fin_new (v := fun N => .slice ⟨N, 0, 0, τ.n, 0⟩ n) h hd (.arr false τ (l.map τ.dec)) ((l.map τ.dec).flatMap τ.enc) c1 e hwf (arr_rows _ _ _ _).1 (arr_rows _ _ _ _).2 (by rw [hfl, hc1]; simp) (fun k c hk => ?_)
        (by show (do pure (Next.value (← Instr.buildSlice t n (ps.map fun (i, x) => (i, a.eval x)))) : Sem Next).run P w = _; simp [hrun]) (slice_new (Nat.le_refl _) (by rw [hc1]; simp) ρ) hK
      have hlt := (List.getElem?_eq_some_iff.1 hk).1
      rw [hfl] at hlt
      have hp : 0 < τ.n := Nat.pos_of_ne_zero fun e => by rw [e] at hlt; simp at hlt
      rw [flat_get τ.enc hp _ hwf, List.getElem?_map] at hk
      cases hq : l[k / τ.n]? with
      | none => rw [hq] at hk; cases hk
      | some vs =>
        rw [hq] at hk
        simp only [Option.map_some, Option.bind_some, (hall vs (List.mem_of_getElem? hq)).2.1] at hk
        obtain ⟨v, h1, h2⟩ := hget _ _ _ _ hq hk
        refine ⟨v, ?_, h2⟩
        rw [Nat.zero_add, Nat.mul_comm, Nat.div_add_mod] at h1; exact h1
    · exact hK.elim
  · exact hK.elim

/-! ### Stores -/
theorem Sim.reheap {H' : List AObj} {w' : World} (h : Sim cx ρ st a w) (hl : H'.length = st.h.length) (hs : HSim ρ H' w') (hf : Frame cx.w0 cx.B w') (hwr : Wr cx ρ H') : Sim cx ρ ⟨st.t, H'⟩ a w' :=
  ⟨fun k => by show VRel ρ H'.length _ _; rw [hl]; exact h.tm k, h.sz, h.df, hs, hf, h.ag, by show cx.n0 ≤ H'.length; rw [hl]; exact h.nn, hwr⟩

theorem run_storeVar_at (T : Tab P) {t : TypeId} {ti : TI} (ht : T.ty t = some ti) (v : Value) (hsz : v.cells.size = ti.size) (w : World) (p : Place) (k : Nat) (hth : ∀ j, j < v.cells.size → (w.cell? (p.addr (k + j))).isSome = true ∧ w.frozen? (p.addr (k + j)) = false)
    (h1 : ∀ u ∈ v.cells.toList, u.oneCell' = true) : (storeVar t (p.addr k) v).run P w = .ok () (w.setCells p.block (p.off + k) v.cells.toList) := by
  have := run_storeCells_cells (P := P) p.block (p.off + k) v.cells.toList 0 w (fun j hj => by
      have := (hth j (by simpa using hj)).1; simpa [Place.addr, Nat.add_assoc] using this) (fun j hj => by
      have := (hth j (by simpa using hj)).2; simpa [Place.addr, Nat.add_assoc] using this) h1
  simp only [Nat.add_zero] at this
  have he : ({ block := p.block, off := p.off + k } : Addr) = p.addr k := rfl
  rw [he] at this
  simp [storeVar, T.size ht, hsz, this]

theorem wr_set {cx : Cx} {ρ : Ren} {H : List AObj} {id : Nat} {o o' : AObj} (h : Wr cx ρ H) (ho : H[id]? = some o) (hro : o.ro = false) (hrow : ∀ r, (o'.row id r).isSome = (o.row id r).isSome) : Wr cx ρ (H.set id o') := by
  intro j x r hx hxr hr h0
  rw [List.getElem?_set] at hx
  by_cases e : id = j
  · subst e
    rw [if_pos rfl] at hx
    split at hx
    · cases hx; exact h _ o r ho hro (by rw [← hrow]; exact hr) h0
    · cases hx
  · rw [if_neg e] at hx; exact h j x r hx hxr hr h0

/-- The elements' list with one element turned, as cells. -/
theorem flat_set {τ : Ty} {l : List τ.El} (hwf : ∀ x ∈ l, (τ.enc x).length = τ.n) {i : Nat} (hi : i < l.length) {x' : τ.El} (hx' : (τ.enc x').length = τ.n) (j : Nat) :
    ((l.set i x').flatMap τ.enc)[j]? = if i * τ.n ≤ j ∧ j < i * τ.n + τ.n then (τ.enc x')[j - i * τ.n]? else (l.flatMap τ.enc)[j]? := by
  have hwf' : ∀ x ∈ l.set i x', (τ.enc x).length = τ.n := fun x hx => by
    rcases List.mem_or_eq_of_mem_set hx with h | rfl
    · exact hwf x h
    · exact hx'
  rcases Nat.eq_zero_or_pos τ.n with h0 | hp
  · have e1 : ((l.set i x').flatMap τ.enc) = [] := List.eq_nil_of_length_eq_zero (by rw [flat_length τ.enc _ hwf', h0, Nat.mul_zero])
    have e2 : (l.flatMap τ.enc) = [] := List.eq_nil_of_length_eq_zero (by rw [flat_length τ.enc _ hwf, h0, Nat.mul_zero])
    rw [e1, e2, h0, if_neg (by omega)]
  · rw [flat_get τ.enc hp _ hwf', flat_get τ.enc hp _ hwf, List.getElem?_set]
    by_cases e : i = j / τ.n
    · have h1 : i * τ.n ≤ j := by rw [e]; exact Nat.div_mul_le_self j τ.n
      have h2 : j < i * τ.n + τ.n := by
        have := Nat.lt_div_mul_add (a := j) hp
        rw [← e] at this; exact this
      rw [if_pos e, if_pos hi, if_pos ⟨h1, h2⟩]
      simp only [Option.bind_some]
      congr 1
      have := Nat.div_add_mod j τ.n
      rw [← e, Nat.mul_comm] at this; omega
    · rw [if_neg e, if_neg]
      rintro ⟨h1, h2⟩
      apply e
      rw [show j = τ.n * i + (j - i * τ.n) by rw [Nat.mul_comm]; omega, Nat.mul_add_div hp, Nat.div_eq_of_lt (by omega)]; omega

theorem eff_store (T : Tab P) (h : Sim cx ρ st a w) (hd : ∀ k, o.dst = some k → k < cx.n) {t : TypeId} {p x : Operand} (hop : o.op = .store t p x) (hK : effP T st o K) : Fin P cx o a w K := by
  obtain ⟨dst, op, ty, pos, after, guard⟩ := o
  simp only at hop; subst hop
  simp only [effP] at hK
  have hp := ev_rel h p
  have hx := ev_rel h x
  split at hK
  · rename_i ti q ht hq
    rw [hq] at hp
    cases hu : a.eval p <;> rw [hu] at hp <;> cases hp
    rename_i hid
    have hrun : ∀ w', (storeVar t (q.at ρ) (a.eval x)).run P w = .ok () w' → (execOp a.eval ⟨dst, .store t p x, ty, pos, after, guard⟩).run P w = .ok .skip w' := fun w' hr => by
      show (do (Instr.storeAt t (a.eval p) (a.eval x)); pure Next.skip : Sem Next).run P w = _
      rw [hu]; simp [Instr.storeAt, Instr.sureAddr, hr]
    unfold storeK at hK
    split at hK
    · rename_i τ l ho
      rw [getL_eq] at ho
      have hrow := arr_row h.hs ho
      have hwf := arr_wf h.hs ho
      have hown := hrow.own rfl
      have hlen := flat_length τ.enc l hwf
      split at hK
      · rename_i hr0 hesz
        have hesz := Nat.eq_of_beq_eq_true hesz
        have hat : q.at ρ = (ρ q.id 0).addr (q.idx * τ.n + q.fld) := by simp only [AAddr.at, AAddr.cell, hr0, hesz]
        -- the common end
        have fin : ∀ (x' : τ.El) (fld : Nat) (u : Value), q.fld = fld → u = a.eval x → q.idx < l.length → (τ.enc x').length = τ.n → fld + u.cells.size ≤ τ.n → u.cells.size = ti.size → (∀ v ∈ u.cells.toList, v.oneCell' = true) →
            (∀ j, j < τ.n → (j < fld ∨ fld + u.cells.size ≤ j) → (τ.enc x')[j]? = (τ.enc (l.getD q.idx τ.d))[j]?) →
            (∀ (j : Nat) (c : AV), j < u.cells.size → (τ.enc x')[fld + j]? = some c → ∃ v, u.cells[j]? = some v ∧ VRel ρ st.h.length c v) →
            K (St.put ⟨st.t, setL st.h q.id (.arr false τ (l.set q.idx x'))⟩ dst .undef) → Fin P cx ⟨dst, .store t p x, ty, pos, after, guard⟩ a w K := fun x' fld u hfld huu hi hx' hfit hsz hone hsame hnew hK => by
          subst hfld
          have hix := getD_some (d := τ.d) hi
          have hle : q.idx * τ.n + τ.n ≤ (l.flatMap τ.enc).length := by rw [hlen, ← Nat.succ_mul]; exact Nat.mul_le_mul_right _ hi
          have hroom := hrow.fits
          have hst := run_storeVar_at T ht u hsz w (ρ q.id 0) (q.idx * τ.n + q.fld) (fun j hj => hown _ (by omega)) hone
          rw [setL_eq] at hK
          have hfx := flat_set hwf hi hx'
          have hS := h.hs.store (o' := .arr false τ (l.set q.idx x')) (cs' := (l.set q.idx x').flatMap τ.enc) ho (arr_rows q.id false τ l).1 rfl
            (fun y hy => by
              rcases List.mem_or_eq_of_mem_set hy with hy | rfl
              · exact hwf y hy
              · exact hx') rfl (arr_rows _ _ _ _).1 (fun r' hr' => by rw [(arr_rows q.id false τ _).2 r' hr', (arr_rows q.id false τ l).2 r' hr'])
            (by rw [flat_length τ.enc _ (fun y hy => by
              rcases List.mem_or_eq_of_mem_set hy with hy | rfl
              · exact hwf y hy
              · exact hx'), hlen, List.length_set])
            (q.idx * τ.n + q.fld) u.cells.toList (by rw [Array.length_toList]; omega) (fun j hj => by
              rw [hfx j]
              split
              · rename_i hc
                rw [hsame (j - q.idx * τ.n) (by omega) (by simp at hj; omega)]
                rw [show j = q.idx * τ.n + (j - q.idx * τ.n) by omega, flat_at τ.enc hwf hix (by omega)]
                congr 1; omega
              · rfl) (fun j c hj hc => by
              rw [hfx, if_pos (by simp at hj; omega)] at hc
              rw [show q.idx * τ.n + q.fld + j - q.idx * τ.n = q.fld + j by omega] at hc
              obtain ⟨v, hv, hr⟩ := hnew j c (by simpa using hj) hc
              exact ⟨v, by simpa using hv, hr, hone v (List.mem_of_getElem? (by simpa using hv))⟩)
          refine fin_skip (w' := w.setCells (ρ q.id 0).block ((ρ q.id 0).off + (q.idx * τ.n + q.fld)) u.cells.toList) (hrun _ (by rw [hat, ← huu]; exact hst)) hd (h.reheap (by simp) hS ?_ (wr_set h.wr ho rfl fun r => by
            by_cases e : r = 0
            · subst e; rfl
            · rw [(arr_rows q.id false τ _).2 r e, (arr_rows q.id false τ l).2 r e])) hK
          by_cases h0 : 0 < (ρ q.id 0).room
          · exact h.fr.setCells _ _ _ (h.wr q.id _ 0 ho rfl rfl h0)
          · have : u.cells.toList = [] := List.eq_nil_of_length_eq_zero (by rw [Array.length_toList]; omega)
            rw [this]; exact h.fr
        split at hK
        · rename_i hagg
          split at hK
          · rename_i vs hvs hf0
            obtain ⟨⟨hi, hvl, hns, hdec, hall⟩, hK⟩ := hK
            rw [hvs] at hx
            cases hux : a.eval x <;> rw [hux] at hx <;> cases hx
            rename_i ws hlw hr
            refine fin _ 0 (.agg ws) hf0 hux.symm hi (by rw [hdec]; exact hvl) (by show 0 + ws.size ≤ _; omega) (by show ws.size = _; omega) (fun v hv => ?_)
              (fun j hj hjo => absurd hjo (by show ¬ (j < 0 ∨ 0 + ws.size ≤ j); omega)) (fun j c hj hc => ?_) hK
            · obtain ⟨k, hk⟩ := List.mem_iff_getElem?.1 hv
              have hkl := (List.getElem?_eq_some_iff.1 hk).1
              have hkl' : k < ws.size := by simpa [Value.cells] using hkl
              have hvk : vs[k]? = some (vs[k]'(by omega)) := List.getElem?_eq_getElem (by omega)
              exact one_of_rel (hr k _ v hvk (by simpa [Value.cells] using hk)) (List.all_eq_true.1 hall _ (List.mem_of_getElem? hvk))
            · rw [hdec, Nat.zero_add] at hc
              have hj' : j < ws.size := hj
              exact ⟨ws[j], by simp [Value.cells, hj'], hr j c _ hc (by simp [hj'])⟩
          · rename_i xv hvs hf0
            split at hK
            · rename_i l' hi0 hl'
              obtain ⟨⟨hll, hsz⟩, hK⟩ := hK
              rw [hvs] at hx
              cases hx with
              | vec _ u hx =>
              rw [vecTo_cells hl'] at hx
              cases hux : a.eval x <;> rw [hux] at hx <;> cases hx
              rename_i ws hlw hr
              rw [setL_eq] at hK
              have hwf' := vecTo_wf hl'
              have hlen' := flat_length τ.enc l' hwf'
              rw [hll] at hlen'
              have hone : ∀ v ∈ ws.toList, v.oneCell' = true := fun v hv => by
                obtain ⟨k, hk⟩ := List.mem_iff_getElem?.1 hv
                have hkl := (List.getElem?_eq_some_iff.1 hk).1
                have hkl' : k < ws.size := by simpa using hkl
                have hvk : (l'.flatMap τ.enc)[k]? = some ((l'.flatMap τ.enc)[k]'(by omega)) := List.getElem?_eq_getElem (by omega)
                have hsc := Vec.scalar (x := xv) (by rw [vecTo_cells hl']; exact List.mem_of_getElem? hvk)
                refine one_of_rel (hr k _ v hvk (by simpa using hk)) ?_
                generalize (l'.flatMap τ.enc)[k]'(by omega) = c at hsc hvk
                have hrc := hr k _ v hvk (by simpa using hk)
                cases c <;> first | rfl | (simp [AV.scalar] at hsc; done) | skip
                exact absurd (List.mem_of_getElem? hvk) (vecTo_def hl')
              have hst := run_storeVar_at T ht (.agg ws) (by show ws.size = _; omega) w (ρ q.id 0) 0 (fun j hj => hown _ (by have := hrow.fits; have : j < ws.size := hj; omega)) hone
              have hS := h.hs.store (o' := .arr false τ l') (cs' := l'.flatMap τ.enc) ho (arr_rows q.id false τ l).1 rfl hwf' rfl (arr_rows _ _ _ _).1 (fun r' hr' => by rw [(arr_rows q.id false τ _).2 r' hr', (arr_rows q.id false τ l).2 r' hr'])
                (by rw [hlen', hlen]) 0 ws.toList (by rw [Array.length_toList]; omega) (fun j hj => by
                  rw [Array.length_toList] at hj
                  rw [List.getElem?_eq_none (by omega), List.getElem?_eq_none (by omega)]) (fun j c hj hc => by
                  rw [Nat.zero_add] at hc
                  have hj' : j < ws.size := by simpa using hj
                  exact ⟨ws[j], by simp [hj'], hr j c _ hc (by simp [hj']), hone _ (by simp)⟩)
              refine fin_skip (w' := w.setCells (ρ q.id 0).block ((ρ q.id 0).off + 0) ws.toList) (hrun _ (by rw [hat, hf0, hi0, hux]; simp only [Nat.zero_mul]; exact hst)) hd (h.reheap (by simp) hS ?_ (wr_set h.wr ho rfl fun r => by
                by_cases e : r = 0
                · subst e; rfl
                · rw [(arr_rows q.id false τ _).2 r e, (arr_rows q.id false τ l).2 r e])) hK
              by_cases h0 : 0 < (ρ q.id 0).room
              · exact h.fr.setCells _ _ _ (h.wr q.id _ 0 ho rfl rfl h0)
              · have : ws.toList = [] := List.eq_nil_of_length_eq_zero (by rw [Array.length_toList]; have := hrow.fits; omega)
                rw [this]; exact h.fr
            · exact hK.elim
          · exact hK.elim
        · split at hK
          · rename_i hone hsz
            have hsz := Nat.eq_of_beq_eq_true hsz
            obtain ⟨⟨hi, hfn, hdec⟩, hK⟩ := hK
            have ho1 := one_of_rel hx hone
            have hc1 := cells_of_one ho1
            have hel := hwf _ (List.mem_of_getElem? (getD_some (d := τ.d) hi))
            rw [setL_eq] at hdec
            refine fin _ q.fld (a.eval x) rfl rfl hi (by rw [setL_eq, hdec]; simpa using hel) (by rw [hc1]; simp; omega) (by rw [hc1, hsz]; rfl) (fun v hv => by rw [hc1] at hv; simp at hv; subst hv; exact ho1)
              (fun j hj hjo => by rw [setL_eq, hdec, List.getElem?_set, if_neg (by rw [hc1] at hjo; simp at hjo; omega)]) (fun j c hj hc => ?_) hK
            rw [hc1] at hj ⊢
            simp at hj; subst hj
            rw [setL_eq, hdec, Nat.add_zero, List.getElem?_set, if_pos rfl, if_pos (by rw [hel]; exact hfn)] at hc
            cases hc
            exact ⟨_, rfl, hx⟩
          · exact hK.elim
      · exact hK.elim
    · rename_i ll ho
      rw [getL_eq] at ho
      split at hK
      · rename_i r n hr0 hagg hesz hfld hv
        obtain ⟨⟨hr, hi, hsz⟩, hK⟩ := hK
        rw [hv] at hx
        have hux : a.eval x = .int .i64 n := by cases hux : a.eval x <;> rw [hux] at hx <;> cases hx; rfl
        rw [setL_eq] at hK
        have hrr : (AObj.rows false ll).row q.id (r + 1) = some (ints .i64 (ll.getD r [])) := by rw [rows_row, getD_some (d := []) hr]; rfl
        have hrow := h.hs.row q.id _ (r + 1) _ ho hrr
        have hown := hrow.own rfl
        have hat : q.at ρ = (ρ q.id (r + 1)).addr q.idx := by simp only [AAddr.at, AAddr.cell, hr0, hesz, hfld]; congr 1; omega
        have hil : q.idx < (ints .i64 (ll.getD r [])).length := by unfold ints; rw [List.length_map]; exact hi
        have hfits := hrow.fits
        have hst := run_storeVar_at T ht (.int .i64 n) (by rw [hsz]; rfl) w (ρ q.id (r + 1)) q.idx (fun j hj => hown _ (by simp [Value.cells] at hj; omega)) (fun u hu => by simp [Value.cells] at hu; subst hu; rfl)
        have hdr : ∀ (k : Nat), hdrs q.id k (ll.set r ((ll.getD r []).set q.idx n)) = hdrs q.id k ll := fun k => by
          have key : ∀ (l : List (List Int)) (k r : Nat) (z : List Int), (∀ y, l[r]? = some y → z.length = y.length) → hdrs q.id k (l.set r z) = hdrs q.id k l := by
            intro l
            induction l with
            | nil => intro k r z _; rfl
            | cons y ys ih =>
              intro k r z hz
              cases r with
              | zero => simp [hdrs, hz y rfl]
              | succ r => simp only [List.set_cons_succ, hdrs]; rw [ih (k + 1) r z (fun y' hy' => hz y' (by simpa using hy'))]
          exact key ll k r _ (fun y hy => by rw [List.length_set, getD_some (d := []) hr] at *; cases hy; rfl)
        have hS := h.hs.store (o' := .rows false (ll.set r ((ll.getD r []).set q.idx n))) (cs' := ints .i64 ((ll.getD r []).set q.idx n)) ho hrr rfl trivial rfl
          (by rw [rows_row, List.getElem?_set, if_pos rfl, if_pos hr]; rfl)
          (fun r' hr' => by
            by_cases e : r' = 0
            · subst e; simp only [AObj.row, if_true, hdr]
            · obtain ⟨m, rfl⟩ : ∃ m, r' = m + 1 := ⟨r' - 1, by omega⟩
              rw [rows_row, rows_row, List.getElem?_set, if_neg (by omega)])
          (by simp [ints]) q.idx [.int .i64 n] (by rw [List.length_singleton]; omega) (fun j hj => by
            simp only [ints, List.getElem?_map, List.getElem?_set]
            rw [if_neg (by simp at hj; omega)]) (fun j c hj hc => by
            simp at hj; subst hj
            simp only [ints, List.getElem?_map, Nat.add_zero, List.getElem?_set, if_true] at hc
            rw [if_pos hi] at hc
            cases hc
            exact ⟨_, rfl, .int _ _, rfl⟩)
        refine fin_skip (w' := w.setCells (ρ q.id (r + 1)).block ((ρ q.id (r + 1)).off + q.idx) [.int .i64 n]) (hrun _ (by rw [hat, hux]; exact hst)) hd (h.reheap (by simp) hS (h.fr.setCells _ _ _ (h.wr q.id _ (r + 1) ho rfl (by rw [hrr]; rfl) (by omega))) (wr_set h.wr ho rfl fun r' => ?_)) hK
        by_cases e : r' = 0
        · subst e; rfl
        · obtain ⟨m, rfl⟩ : ∃ m, r' = m + 1 := ⟨r' - 1, by omega⟩
          rw [rows_row, rows_row, List.getElem?_set]
          by_cases e2 : r = m
          · subst e2; rw [if_pos rfl, if_pos hr, getD_some (d := []) hr]; rfl
          · rw [if_neg e2]
      · exact hK.elim
    · exact hK.elim
  · exact hK.elim

/-! ### Appends -/
/-- Cells of some blocks may turn, if no row that lives lies there. -/
theorem HSim.besides {ρ : Ren} {H : List AObj} {w w' : World} (h : HSim ρ H w) (b : Nat) (hsz : w'.heap.size = w.heap.size) (hcell : ∀ x : Addr, x.block ≠ b → w'.cell? x = w.cell? x) (hfz : ∀ x : Addr, w'.frozen? x = w.frozen? x)
    (hb : ∀ (id : Nat) (o : AObj) (r : Nat), H[id]? = some o → (o.row id r).isSome = true → 0 < (ρ id r).room → (ρ id r).block ≠ b) : HSim ρ H w' := by
  refine ⟨h.wf, fun id o r cs ho hr => ?_, h.apart⟩
  have hX := h.row id o r cs ho hr
  have hne : 0 < (ρ id r).room → (ρ id r).block ≠ b := hb id o r ho (by rw [hr]; rfl)
  refine ⟨hX.fits, fun e => by rw [hsz]; exact hX.there e, fun e k hk => ?_, fun k c hc => ?_⟩
  · rw [hcell _ (by rw [Place.addr_block]; exact hne (by omega)), hfz]; exact hX.own e k hk
  · obtain ⟨v, hv, h1, h2⟩ := hX.cell k c hc
    refine ⟨v, ?_, h1, h2⟩
    have := (List.getElem?_eq_some_iff.1 hc).1
    have := hX.fits
    rw [hcell _ (by rw [Place.addr_block]; exact hne (by omega))]; exact hv

theorem kill_get {H : List AObj} {id j : Nat} {x : AObj} (hx : (H.set id .dead)[j]? = some x) : (j = id ∧ x = .dead) ∨ (j ≠ id ∧ H[j]? = some x) := by
  rw [List.getElem?_set] at hx
  by_cases e : id = j
  · rw [if_pos e] at hx
    split at hx
    · exact .inl ⟨e.symm, (Option.some.inj hx).symm⟩
    · cases hx
  · rw [if_neg e] at hx; exact .inr ⟨fun h => e h.symm, hx⟩

theorem HSim.kill {ρ : Ren} {H : List AObj} {w : World} (h : HSim ρ H w) (id : Nat) : HSim ρ (H.set id .dead) w := by
  refine ⟨fun j x hx => ?_, fun j x r cs hx hr => ?_, fun j x r j' x' r' hx hx' hr hr' => ?_⟩
  · rcases kill_get hx with ⟨_, rfl⟩ | ⟨_, hx⟩
    · trivial
    · exact h.wf j x hx
  · rcases kill_get hx with ⟨_, rfl⟩ | ⟨_, hx⟩
    · cases hr
    · rw [List.length_set]; exact h.row j x r cs hx hr
  · rcases kill_get hx with ⟨_, rfl⟩ | ⟨_, hx⟩
    · cases hr
    · rcases kill_get hx' with ⟨_, rfl⟩ | ⟨_, hx'⟩
      · cases hr'
      · exact h.apart j x r j' x' r' hx hx' hr hr'

theorem Sim.kill (h : Sim cx ρ st a w) (id : Nat) : Sim cx ρ ⟨st.t, st.h.set id .dead⟩ a w :=
  h.reheap (by simp) (h.hs.kill id) h.fr (fun j x r hx hro hr h0 => by
    rcases kill_get hx with ⟨_, rfl⟩ | ⟨_, hx⟩
    · cases hr
    · exact h.wr j x r hx hro hr h0)

theorem srcV_len {H : List AObj} {τ : Ty} {b : AAddr} {m' : Nat} {p : Prop} {l : List τ.El} {m : Nat} (hs : srcV H τ (.slice b m') = some (p, l, m)) : m = m' := by
  simp only [srcV] at hs
  split at hs
  · split at hs
    · cases hs; rfl
    · cases hs
  · split at hs
    · cases hs; rfl
    · cases hs
  · cases hs
theorem srcV_clen {H : List AObj} {τ : Ty} {b : AAddr} {m' c : Nat} {p : Prop} {l : List τ.El} {m : Nat} (hs : srcV H τ (.cslice b m' c) = some (p, l, m)) : m = m' :=
  srcV_len (b := b) hs

/-- What a source reads as, in the machine. -/
theorem srcV_sound (T : Tab P) (h : Sim cx ρ st a w) {τ : Ty} {v : AV} {u : Value} (hv : VRel ρ st.h.length v u) {p : Prop} {l : List τ.El} {m : Nat} (hs : srcV st.h τ v = some (p, l, m)) (hp : p) {tx e' : TypeId} (htx : P.underlying tx = some (.slice e')) :
    l.length = m ∧ (∀ x ∈ l, (τ.enc x).length = τ.n) ∧ ∃ ws : List Value, Src P τ.n tx u m ws w ∧ (∀ n, n ≤ m → (Builtin.firstCells τ.n n u).run P w = .ok (ws.take (n * τ.n)).toArray w) ∧ ∀ (k : Nat) (c : AV), (l.flatMap τ.enc)[k]? = some c → ∃ z, ws[k]? = some z ∧ VRel ρ st.h.length c z ∧ z.oneCell' = true := by
  -- a slice of a row that reads as cells
  have key : ∀ (b : AAddr) (m cap : Nat) (q : Option Addr) (cs : List AV) (ro : Bool) (L : List τ.El), (m = 0 ∨ q = some (b.at ρ)) → RowH ρ st.h.length w (ρ b.id b.row) ro cs → (L.flatMap τ.enc).length = m * τ.n →
      (∀ k, k < m * τ.n → (L.flatMap τ.enc)[k]? = cs[b.cell + k]?) → b.cell + m * τ.n ≤ cs.length → ∃ ws : List Value, Src P τ.n tx (.slice q m cap) m ws w ∧ (∀ n, n ≤ m → (Builtin.firstCells τ.n n (.slice q m cap)).run P w = .ok (ws.take (n * τ.n)).toArray w) ∧ ∀ (k : Nat) (c : AV), (L.flatMap τ.enc)[k]? = some c → ∃ z, ws[k]? = some z ∧ VRel ρ st.h.length c z ∧ z.oneCell' = true := fun b m cap q cs ro L hq hrow hlen hget hfit => by
    obtain ⟨ws, hl, h1, h2⟩ := hrow.read b.cell (m * τ.n) hfit
    have hone : ∀ u ∈ ws, u.oneCell' = true := fun u hu => by
      obtain ⟨k, hk⟩ := List.mem_iff_getElem?.1 hu
      exact (h1 k u hk).2
    have hrel : ∀ (k : Nat) (c : AV), (L.flatMap τ.enc)[k]? = some c → ∃ z, ws[k]? = some z ∧ VRel ρ st.h.length c z ∧ z.oneCell' = true := fun k c hk => by
      have hlt := (List.getElem?_eq_some_iff.1 hk).1
      rw [hlen] at hlt
      have hw : ws[k]? = some (ws[k]'(by omega)) := List.getElem?_eq_getElem (by omega)
      exact ⟨_, hw, h2 k c _ hlt (by rw [← hget k hlt]; exact hk) hw, (h1 k _ hw).2⟩
    cases q with
    | none =>
      obtain rfl : m = 0 := hq.resolve_right (by simp)
      obtain rfl : ws = [] := List.eq_nil_of_length_eq_zero (by omega)
      exact ⟨[], Src.ofNil w htx cap, (fun n hn => by rw [List.take_nil]; exact run_firstCells_none w τ.n n 0 cap), hrel⟩
    | some ad =>
      have hc : ∀ (j : Nat) (z : Value), ws[j]? = some z → w.cell? (ad.add j) = some z := fun j z hz => by
        rcases hq with rfl | hq
        · have := (List.getElem?_eq_some_iff.1 hz).1; omega
        · cases hq
          rw [show (b.at ρ).add j = (ρ b.id b.row).addr (b.cell + j) from Place.addr_add _ _ _]
          exact (h1 j z hz).1
      refine ⟨ws, Src.ofSlice w htx ad m cap ws hl hc hone, fun n hn => ?_, hrel⟩
      have hnm : n * τ.n ≤ m * τ.n := Nat.mul_le_mul_right _ hn
      exact run_firstCells_some w τ.n n ad m cap _ (by rw [List.length_take, hl]; omega) (fun j z hz => by
        rw [List.getElem?_take] at hz
        split at hz
        · exact hc j z hz
        · cases hz)
  -- a part of an object's elements
  have part : ∀ (L : List τ.El) (i m : Nat), (∀ x ∈ L, (τ.enc x).length = τ.n) → i + m ≤ L.length → (sliceOf L i m).length = m ∧ (∀ x ∈ sliceOf L i m, (τ.enc x).length = τ.n) ∧ ((sliceOf L i m).flatMap τ.enc).length = m * τ.n ∧
      ∀ k, k < m * τ.n → ((sliceOf L i m).flatMap τ.enc)[k]? = (L.flatMap τ.enc)[i * τ.n + k]? := fun L i m hwf hi => by
    rw [sliceOf_eq]
    have hwf' : ∀ x ∈ (L.drop i).take m, (τ.enc x).length = τ.n := fun x hx => hwf x (List.mem_of_mem_drop (List.mem_of_mem_take hx))
    have hl : ((L.drop i).take m).length = m := by rw [List.length_take, List.length_drop]; omega
    refine ⟨hl, hwf', by rw [flat_length τ.enc _ hwf', hl], fun k hk => ?_⟩
    have hp : 0 < τ.n := Nat.pos_of_ne_zero fun e => by rw [e] at hk; simp at hk
    rw [flat_get τ.enc hp _ hwf', flat_get τ.enc hp _ hwf, List.getElem?_take, if_pos (Nat.div_lt_of_lt_mul (by rw [Nat.mul_comm]; exact hk)), List.getElem?_drop,
      show (i * τ.n + k) / τ.n = i + k / τ.n by rw [Nat.mul_comm, Nat.mul_add_div hp], show (i * τ.n + k) % τ.n = k % τ.n by rw [Nat.mul_comm, Nat.mul_add_mod]]
  have main : ∀ (b : AAddr) (m cap : Nat) (q : Option Addr), (m = 0 ∨ q = some (b.at ρ)) → (srcV st.h τ (.slice b m) = some (p, l, m)) → l.length = m ∧ (∀ x ∈ l, (τ.enc x).length = τ.n) ∧ ∃ ws : List Value, Src P τ.n tx (.slice q m cap) m ws w ∧ (∀ n, n ≤ m → (Builtin.firstCells τ.n n (.slice q m cap)).run P w = .ok (ws.take (n * τ.n)).toArray w) ∧ ∀ (k : Nat) (c : AV), (l.flatMap τ.enc)[k]? = some c → ∃ z, ws[k]? = some z ∧ VRel ρ st.h.length c z ∧ z.oneCell' = true := fun b m cap q hq hs => by
    simp only [srcV] at hs
    split at hs
    · rename_i ro τ' L hg hf0
      rw [getL_eq] at hg
      split at hs
      · rename_i e hr0 hesz hτ
        have hesz := Nat.eq_of_beq_eq_true hesz
        clear hτ; subst e
        cases hs
        have hrow := arr_row h.hs hg
        have hwf := arr_wf h.hs hg
        obtain ⟨h1, h2, h3, h4⟩ := part L b.idx m hwf hp
        have hbc : b.cell = b.idx * τ'.n := by simp only [AAddr.cell, hf0, hesz]; omega
        refine ⟨h1, h2, key b m cap q _ ro _ hq (by rw [hr0]; exact hrow) h3 (fun k hk => by rw [hbc]; exact h4 k hk) ?_⟩
        rw [hbc, flat_length τ'.enc _ hwf, ← Nat.add_mul]; exact Nat.mul_le_mul_right _ hp
      · cases hs
    · rename_i ro ll hg hf0
      rw [getL_eq] at hg
      split at hs
      · rename_i r e hr0 hesz hτ
        have hesz := Nat.eq_of_beq_eq_true hesz
        clear hτ; subst e
        cases hs
        obtain ⟨hr, hi⟩ := hp
        have hrow := h.hs.row b.id _ (r + 1) (ints .i64 (ll.getD r [])) hg (by rw [rows_row, getD_some (d := []) hr]; rfl)
        have hwf : ∀ x ∈ ll.getD r [], (Ty.int.enc x).length = Ty.int.n := fun x _ => rfl
        obtain ⟨h1, h2, h3, h4⟩ := part (ll.getD r []) b.idx m hwf hi
        have hbc : b.cell = b.idx * 1 := by simp only [AAddr.cell, hf0, ← hesz]; omega
        have hfi : (ll.getD r []).flatMap Ty.int.enc = ints .i64 (ll.getD r []) := by
          show (ll.getD r []).flatMap (fun x => [AV.int .i64 x]) = (ll.getD r []).map _
          induction (ll.getD r []) with
          | nil => rfl
          | cons x xs ih => simp [ih]
        refine ⟨h1, h2, key b m cap q _ ro _ hq (by rw [hr0]; exact hrow) h3 (fun k hk => by rw [hbc, ← hfi]; exact h4 k hk) ?_⟩
        rw [hbc]; simp only [ints, List.length_map]; show b.idx * 1 + m * 1 ≤ _; omega
      · cases hs
    · cases hs
  cases hv <;> try (simp [srcV] at hs; done)
  case slice b m' q cap hid hl hc =>
    obtain rfl : m' = m := (srcV_len hs).symm
    exact main b m' cap q (by
      rcases hc with rfl | ⟨hq, _⟩
      · left; omega
      · exact .inr hq) hs
  case cslice b m' q cap hid hl hc =>
    obtain rfl : m' = m := (srcV_clen hs).symm
    exact main b m' cap q hc hs
  case nilS =>
    simp only [srcV, Option.some.injEq, Prod.mk.injEq] at hs
    obtain ⟨_, rfl, rfl⟩ := hs
    exact ⟨rfl, (fun x hx => nomatch hx), [], Src.ofNil w htx 0, (fun n hn => by rw [List.take_nil]; exact run_firstCells_none w τ.n n 0 0), (fun k c hk => by simp at hk)⟩

/-- The part of a new row's cells that an append fills. -/
theorem grow_cells {N : Nat} {A B : List AV} {olds news : List Value} {z : Array Value} (hA : olds.length = A.length) (hrA : ∀ (k : Nat) (c : AV), A[k]? = some c → ∃ v, olds[k]? = some v ∧ VRel ρ N c v ∧ v.oneCell' = true)
    (hrB : ∀ (k : Nat) (c : AV), B[k]? = some c → ∃ v, news[k]? = some v ∧ VRel ρ N c v ∧ v.oneCell' = true) (k : Nat) (c : AV) (hk : (A ++ B)[k]? = some c) : ∃ v, ((olds ++ news).toArray ++ z)[k]? = some v ∧ VRel ρ N c v ∧ v.oneCell' = true := by
  have lift : ∀ v, (olds ++ news)[k]? = some v → ((olds ++ news).toArray ++ z)[k]? = some v := fun v hv => by
    have hlt := (List.getElem?_eq_some_iff.1 hv).1
    rw [Array.getElem?_append_left (by simpa using hlt)]; simpa using hv
  rcases Nat.lt_or_ge k A.length with hl | hl
  · rw [List.getElem?_append_left hl] at hk
    obtain ⟨v, hv, hr⟩ := hrA k c hk
    exact ⟨v, lift v (by rw [List.getElem?_append_left (by omega)]; exact hv), hr⟩
  · rw [List.getElem?_append_right hl] at hk
    obtain ⟨v, hv, hr⟩ := hrB _ c hk
    exact ⟨v, lift v (by rw [List.getElem?_append_right (by omega), hA]; exact hv), hr⟩

theorem size_zeroCells (z : Array Value) (n : Nat) : (Builtin.zeroCells z n).size = n * z.size := by simp [Builtin.zeroCells]

theorem grownCap_ge (w : World) (need old : Nat) (e : TypeId) : need ≤ grownCap w need old e := by
  unfold grownCap Question.cut; exact Nat.le_add_right _ _

/-- An append onto what has no room: a new object. -/
theorem append_new (T : Tab P) (h : Sim cx ρ st a w) (hd : ∀ k, o.dst = some k → k < cx.n) {t tx e : TypeId} {te : TI} {τ : Ty} (ht : P.underlying t = some (.slice e)) (hte : T.ty e = some te) (hsz : te.size = τ.n)
    {base : Option Addr} {len cap : Nat} {A : List τ.El} {olds : List Value} (hA : A.length = len) (hwA : ∀ x ∈ A, (τ.enc x).length = τ.n) (hol : olds.length = len * τ.n)
    (hold : (Builtin.firstCells τ.n len (.slice base len cap)).run P w.drew = .ok olds.toArray w.drew)
    (hrA : ∀ (k : Nat) (c : AV), (A.flatMap τ.enc)[k]? = some c → ∃ v, olds[k]? = some v ∧ VRel ρ st.h.length c v ∧ v.oneCell' = true)
    {x : Value} {m : Nat} {B : List τ.El} {news : List Value} (hB : B.length = m) (hwB : ∀ x ∈ B, (τ.enc x).length = τ.n) (hs : Src P τ.n tx x m news w)
    (hrB : ∀ (k : Nat) (c : AV), (B.flatMap τ.enc)[k]? = some c → ∃ v, news[k]? = some v ∧ VRel ρ st.h.length c v ∧ v.oneCell' = true)
    (hg : cap < len + m) (hb : (len + m) * te.bytes ≤ 140737488355328) {ty : TypeId} (hop : execOp a.eval o = (do pure (.value (← Builtin.append_ #[t, tx] ty #[.slice base len cap, x]))))
    (hK : newK st o.dst K (.arr false τ (A ++ B)) fun N => .slice ⟨N, 0, 0, τ.n, 0⟩ (len + m)) : Fin P cx o a w K := by
  obtain ⟨i, zz, hi, hzz, hs', hbb, hcz, hzl, _⟩ := zero_rel T hte
  have hin : i.size = τ.n := by rw [hs', hsz]
  have hpos := (T.ok e te hte).pos
  have h63 : len + m ≤ (len + m) * te.bytes := Nat.le_mul_of_pos_right _ hpos
  have hrun := run_append_grow_src (P := P) w t tx ty e i zz ht hi hzz base len cap olds (by rw [hin]; exact hold) x m news (by rw [hin]; exact hs) hg (by omega) (by rw [hbb]; exact growslice_fits hg hb)
  have hge := grownCap_ge w (len + m) cap e
  have hnl := hs.newsLen
  have hwf : ∀ x ∈ A ++ B, (τ.enc x).length = τ.n := fun x hx => by
    rcases List.mem_append.1 hx with hx | hx
    · exact hwA x hx
    · exact hwB x hx
  have hszc : ((olds ++ news).toArray ++ Builtin.zeroCells zz.cells (grownCap w (len + m) cap e - (len + m))).size = grownCap w (len + m) cap e * τ.n := by
    rw [Array.size_append, List.size_toArray, List.length_append, size_zeroCells, hol, hnl, hcz, hsz, ← Nat.add_mul, ← Nat.add_mul]
    congr 1; omega
  unfold newK at hK
  rw [snocL_eq] at hK
  have hS := h.drew.alloc (.arr false τ (A ++ B)) ((A ++ B).flatMap τ.enc) ((olds ++ news).toArray ++ Builtin.zeroCells zz.cells (grownCap w (len + m) cap e - (len + m))) e hwf (arr_rows _ _ _ _).1 (arr_rows _ _ _ _).2
    (by rw [flat_length τ.enc _ hwf, List.length_append, hA, hB, hszc]; exact Nat.mul_le_mul_right _ hge) (fun k c hk => by
      rw [List.flatMap_append] at hk
      exact grow_cells (by rw [hol, flat_length τ.enc _ hwA, hA]) hrA hrB k c hk)
  refine fin_value (u := .slice (some ⟨w.heap.size, 0, none⟩) (len + m) (grownCap w (len + m) cap e)) (v := .slice ⟨st.h.length, 0, 0, τ.n, 0⟩ (len + m)) (by rw [hop]; simp [hrun]) hd hS ?_ hK
  show VRel _ (st.h ++ [_]).length _ _
  rw [List.length_append, List.length_singleton]
  exact slice_new (cap := grownCap w (len + m) cap e) hge (by rw [hszc]; exact Nat.le_refl _) ρ

/-- An append onto a slice of an object that may be written: a new object in the old one's stead. -/
theorem append_on (T : Tab P) (h : Sim cx ρ st a w) (hd : ∀ k, o.dst = some k → k < cx.n) {t tx e : TypeId} {te : TI} {τ : Ty} (ht : P.underlying t = some (.slice e)) (hte : T.ty e = some te) (hsz : te.size = τ.n)
    {q : AAddr} {len cap : Nat} {base : Option Addr} {l : List τ.El} (ho : st.h[q.id]? = some (.arr false τ l)) (hr0 : q.row = 0) (hf0 : q.fld = 0) (hesz : τ.n = q.esz) (hi : q.idx + len ≤ l.length)
    (hl : len ≤ cap) (hc : cap = 0 ∨ (base = some (q.at ρ) ∧ q.cell + cap * q.esz ≤ (ρ q.id q.row).room))
    {x : Value} {m : Nat} {B : List τ.El} {news : List Value} (hB : B.length = m) (hwB : ∀ x ∈ B, (τ.enc x).length = τ.n) (hs : Src P τ.n tx x m news w)
    (hrB : ∀ (k : Nat) (c : AV), (B.flatMap τ.enc)[k]? = some c → ∃ v, news[k]? = some v ∧ VRel ρ st.h.length c v ∧ v.oneCell' = true)
    (hb : (len + m) * te.bytes ≤ 140737488355328) {ty : TypeId} (hop : execOp a.eval o = (do pure (.value (← Builtin.append_ #[t, tx] ty #[.slice base len cap, x]))))
    (hK : newK ⟨st.t, st.h.set q.id .dead⟩ o.dst K (.arr false τ (sliceOf l q.idx len ++ B)) fun N => .slice ⟨N, 0, 0, τ.n, 0⟩ (len + m)) : Fin P cx o a w K := by
  have hrow := arr_row h.hs ho
  have hwf := arr_wf h.hs ho
  have hown := hrow.own rfl
  have hbc : q.cell = q.idx * τ.n := by simp only [AAddr.cell, hf0, hesz]; omega
  rw [sliceOf_eq] at hK
  have hwA : ∀ x ∈ (l.drop q.idx).take len, (τ.enc x).length = τ.n := fun x hx => hwf x (List.mem_of_mem_drop (List.mem_of_mem_take hx))
  have hA : ((l.drop q.idx).take len).length = len := by rw [List.length_take, List.length_drop]; omega
  have hfA : (((l.drop q.idx).take len).flatMap τ.enc).length = len * τ.n := by rw [flat_length τ.enc _ hwA, hA]
  have hgA : ∀ k, k < len * τ.n → (((l.drop q.idx).take len).flatMap τ.enc)[k]? = (l.flatMap τ.enc)[q.cell + k]? := fun k hk => by
    have hp : 0 < τ.n := Nat.pos_of_ne_zero fun e => by rw [e] at hk; simp at hk
    rw [flat_get τ.enc hp _ hwA, flat_get τ.enc hp _ hwf, List.getElem?_take, if_pos (Nat.div_lt_of_lt_mul (by rw [Nat.mul_comm]; exact hk)), List.getElem?_drop, hbc,
      show (q.idx * τ.n + k) / τ.n = q.idx + k / τ.n by rw [Nat.mul_comm, Nat.mul_add_div hp], show (q.idx * τ.n + k) % τ.n = k % τ.n by rw [Nat.mul_comm, Nat.mul_add_mod]]
  have hfit : q.cell + len * τ.n ≤ (l.flatMap τ.enc).length := by rw [hbc, flat_length τ.enc _ hwf, ← Nat.add_mul]; exact Nat.mul_le_mul_right _ hi
  have hlenH : (st.h.set q.id .dead).length = st.h.length := by simp
  have hk := h.kill q.id
  -- the old elements
  obtain ⟨ws, hwl, hw1, hw2⟩ := hrow.read q.cell (len * τ.n) hfit
  have hrA : ∀ (k : Nat) (c : AV), (((l.drop q.idx).take len).flatMap τ.enc)[k]? = some c → ∃ v, ws[k]? = some v ∧ VRel ρ st.h.length c v ∧ v.oneCell' = true := fun k c hkc => by
    have hlt := (List.getElem?_eq_some_iff.1 hkc).1
    rw [hfA] at hlt
    have hw : ws[k]? = some (ws[k]'(by omega)) := List.getElem?_eq_getElem (by omega)
    exact ⟨_, hw, hw2 k c _ hlt (by rw [← hgA k hlt]; exact hkc) hw, (hw1 k _ hw).2⟩
  by_cases hg : cap < len + m
  · -- no room
    have hold : (Builtin.firstCells τ.n len (.slice base len cap)).run P w.drew = .ok ws.toArray w.drew := by
      rcases hc with rfl | ⟨rfl, hroom⟩
      · obtain rfl : len = 0 := by omega
        obtain rfl : ws = [] := List.eq_nil_of_length_eq_zero (by omega)
        cases base with
        | none => exact run_firstCells_none w.drew τ.n 0 0 0
        | some ad => exact run_firstCells_some w.drew τ.n 0 ad 0 0 [] (by simp) (fun j v hv => by simp at hv)
      · refine run_firstCells_some w.drew τ.n len (q.at ρ) len cap ws hwl (fun j v hv => ?_)
        rw [show (q.at ρ).add j = (ρ q.id q.row).addr (q.cell + j) from Place.addr_add _ _ _, hr0]
        exact (hw1 j v hv).1
    refine append_new T hk hd ht hte hsz hA hwA hwl hold (fun k c hkc => ?_) hB hwB hs (fun k c hkc => ?_) hg hb hop hK
    · show ∃ v, _ ∧ VRel ρ (st.h.set q.id .dead).length c v ∧ _; rw [hlenH]; exact hrA k c hkc
    · show ∃ v, _ ∧ VRel ρ (st.h.set q.id .dead).length c v ∧ _; rw [hlenH]; exact hrB k c hkc
  · -- there is room
    obtain ⟨i, zz, hii, hzz, hs', hbb, hcz, hzl, _⟩ := zero_rel T hte
    have hin : i.size = τ.n := by rw [hs', hsz]
    have hnl := hs.newsLen
    unfold newK at hK
    rw [snocL_eq] at hK
    simp only [hlenH] at hK
    have hwf' : ∀ x ∈ (l.drop q.idx).take len ++ B, (τ.enc x).length = τ.n := fun x hx => by
      rcases List.mem_append.1 hx with hx | hx
      · exact hwA x hx
      · exact hwB x hx
    by_cases hcap : cap = 0
    · -- nothing is appended onto nothing
      obtain rfl : len = 0 := by omega
      obtain rfl : m = 0 := by omega
      obtain rfl : B = [] := List.eq_nil_of_length_eq_zero hB
      subst hcap
      have hrun : (Builtin.append_ #[t, tx] ty #[.slice base 0 0, x]).run P w = .ok (.slice base 0 0) w := by
        cases base with
        | none =>
          rcases hs.kind with ⟨e', hk'⟩ | hk' <;> simp [Builtin.append_, run_underlying ht, run_underlying hk', Go.sizeOf, typeInfo, hii, hs.len, hin, hs.cells]
        | some ad =>
          obtain rfl : news = [] := List.eq_nil_of_length_eq_zero (by omega)
          rcases hs.kind with ⟨e', hk'⟩ | hk' <;> simp [Builtin.append_, run_underlying ht, run_underlying hk', Go.sizeOf, typeInfo, hii, hs.len, hin, hs.cells, storeCells]
      have hS := hk.ghost (.arr false τ []) (by intro x hx; cases hx) (fun r cs hr => by
        simp only [AObj.row] at hr
        split at hr
        · simpa using hr.symm
        · cases hr)
      simp only [hlenH] at hS
      refine fin_value (u := .slice base 0 0) (by rw [hop]; simp [hrun]) hd hS ?_ (by simpa using hK)
      exact .slice _ _ _ _ (by simp) (Nat.le_refl _) (.inl rfl)
    · obtain ⟨hbase, hroom⟩ := hc.resolve_left hcap
      subst hbase
      rw [hr0, ← hesz] at hroom
      have h1m : (len + m) * τ.n ≤ cap * τ.n := Nat.mul_le_mul_right _ (by omega)
      have h2m : (len + m) * τ.n = len * τ.n + m * τ.n := Nat.add_mul _ _ _
      have hth : ∀ j, j < news.length → (w.cell? ((ρ q.id 0).addr (q.cell + len * τ.n + j))).isSome = true ∧ w.frozen? ((ρ q.id 0).addr (q.cell + len * τ.n + j)) = false := fun j hj => hown _ (by omega)
      have hat : q.at ρ = ⟨(ρ q.id 0).block, (ρ q.id 0).off + q.cell, none⟩ := by simp only [AAddr.at, hr0, Place.addr]
      have hrun := run_append_room_src (P := P) w t tx ty e i ht hii (ρ q.id 0).block ((ρ q.id 0).off + q.cell) len cap x m news (by rw [hin]; exact hs) (by omega)
        (fun j hj => by have := (hth j hj).1; rw [hin]; simpa [Place.addr, Nat.add_assoc] using this) (fun j hj => by have := (hth j hj).2; rw [hin]; simpa [Place.addr, Nat.add_assoc] using this)
      rw [← hat, hin] at hrun
      have hrp : 0 < cap * τ.n → 0 < (ρ q.id 0).room := fun h => by omega
      generalize hw' : w.setCells (ρ q.id 0).block ((ρ q.id 0).off + q.cell + len * τ.n) news = w' at hrun
      have hfr : Frame cx.w0 cx.B w' := by
        rw [← hw']
        by_cases h0 : 0 < (ρ q.id 0).room
        · exact h.fr.setCells _ _ _ (h.wr q.id _ 0 ho rfl rfl h0)
        · have : news = [] := List.eq_nil_of_length_eq_zero (by omega)
          rw [this]; exact h.fr
      have hH1 : HSim ρ (st.h.set q.id .dead) w' := by
        by_cases h0 : 0 < (ρ q.id 0).room
        · rw [← hw']
          refine hk.hs.besides (ρ q.id 0).block (size_setCells ..) (fun y hy => World.cell?_setCells_out _ _ _ _ _ (fun e _ => absurd e hy)) (fun y => World.frozen?_setCells ..) (fun id ob r hob hr hr1 => ?_)
          rcases kill_get hob with ⟨_, rfl⟩ | ⟨hne, hob⟩
          · cases hr
          · exact (h.hs.apart q.id _ 0 id ob r ho hob rfl hr rfl (fun e => hne (congrArg Prod.fst e).symm) h0 hr1).symm
        · have : news = [] := List.eq_nil_of_length_eq_zero (by omega)
          rw [← hw', this]; exact hk.hs
      let f : Nat → Place := fun _ => ⟨(ρ q.id 0).block, (ρ q.id 0).off + q.cell, cap * τ.n⟩
      have haddr : ∀ k, (f 0).addr k = (ρ q.id 0).addr (q.cell + k) := fun k => by simp only [f, Place.addr]; congr 1; omega
      have hH2 : HSim (ρ.put (st.h.set q.id .dead).length f) (st.h.set q.id .dead ++ [.arr false τ ((l.drop q.idx).take len ++ B)]) w' := by
        refine hH1.snoc (Keeps.refl w') _ f hwf' (fun r cs hr => ?_) (fun r r' hr hr' _ hne _ _ => ?_) (fun id ob r r' hob hr' hr _ h0 h0' => ?_)
        · obtain rfl : r = 0 := by
            by_cases e : r = 0
            · exact e
            · rw [(arr_rows _ _ _ _).2 r e] at hr; cases hr
          rw [(arr_rows _ _ _ _).1] at hr
          cases hr
          have hsize : w'.heap.size = w.heap.size := by rw [← hw']; exact size_setCells ..
          refine ⟨?_, fun h0 => by rw [hsize]; exact hrow.there (hrp h0), fun _ k hk' => ?_, fun k c hkc => ?_⟩
          · show _ ≤ cap * τ.n
            rw [flat_length τ.enc _ hwf', List.length_append, hA, hB]; exact h1m
          · have hk'' : k < cap * τ.n := hk'
            have := hown (q.cell + k) (by omega)
            show (w'.cell? ((f 0).addr k)).isSome = true ∧ w'.frozen? ((f 0).addr k) = false
            rw [haddr, ← hw']
            exact ⟨World.isSome_setCells _ _ _ _ _ this.1, by rw [World.frozen?_setCells]; exact this.2⟩
          · show ∃ v, w'.cell? ((f 0).addr k) = some v ∧ _
            rw [haddr]
            rw [List.flatMap_append] at hkc
            rcases Nat.lt_or_ge k (len * τ.n) with hlt | hge
            · rw [List.getElem?_append_left (by omega)] at hkc
              obtain ⟨v, hv, hr1, hr2⟩ := hrA k c hkc
              refine ⟨v, ?_, hr1.mono (by rw [hlenH]; exact Ren.put_agree ρ _ f) (by rw [hlenH]; omega), hr2⟩
              rw [← hw', World.cell?_setCells_out _ _ _ _ _ (fun _ _ => by simp only [Place.addr]; omega)]
              exact (hw1 k v hv).1
            · rw [List.getElem?_append_right (by omega), hfA] at hkc
              obtain ⟨v, hv, hr1, hr2⟩ := hrB _ c hkc
              refine ⟨v, ?_, hr1.mono (by rw [hlenH]; exact Ren.put_agree ρ _ f) (by rw [hlenH]; omega), hr2⟩
              have hlt := (List.getElem?_eq_some_iff.1 hv).1
              have := World.cell?_setCells_in (ρ q.id 0).block news ((ρ q.id 0).off + q.cell + len * τ.n) w (fun j hj => by
                have := (hth j hj).1; simpa [Place.addr, Nat.add_assoc] using this) (k - len * τ.n) hlt
              rw [List.getElem?_eq_getElem hlt] at hv
              rw [show (ρ q.id 0).addr (q.cell + k) = ⟨(ρ q.id 0).block, (ρ q.id 0).off + q.cell + len * τ.n + (k - len * τ.n), none⟩ by simp only [Place.addr]; congr 1; omega, ← hw', this]
              exact hv
        · have z : ∀ r, (AObj.row (st.h.set q.id .dead).length (.arr false τ ((l.drop q.idx).take len ++ B)) r).isSome = true → r = 0 := fun r hr => by
            by_cases e : r = 0
            · exact e
            · rw [(arr_rows _ _ _ _).2 r e] at hr; cases hr
          exact absurd ((z r hr).trans (z r' hr').symm) hne
        · rcases kill_get hob with ⟨_, rfl⟩ | ⟨hne, hob⟩
          · cases hr'
          · exact h.hs.apart q.id _ 0 id ob r' ho hob rfl hr' rfl (fun e => hne (congrArg Prod.fst e).symm) (hrp h0) h0'
      have hS := (hk.reheap (H' := st.h.set q.id .dead) rfl hH1 hfr hk.wr).grow _ f hH2 hfr (fun r _ hr h0 => h.wr q.id _ 0 ho rfl rfl (hrp h0))
      refine fin_value (u := .slice (some (q.at ρ)) (len + m) cap) (by rw [hop]; simp [hrun]) hd hS ?_ (by simpa [hlenH] using hK)
      simp only [hlenH]
      refine .slice _ _ _ _ (by simp) (by omega) (.inr ⟨?_, ?_⟩)
      · simp [AAddr.at, Ren.put_same, Place.addr, AAddr.cell, f, hr0]
      · simp [Ren.put_same, AAddr.cell, f]

theorem eff_append (T : Tab P) (h : Sim cx ρ st a w) (hd : ∀ k, o.dst = some k → k < cx.n) {t t' e : TypeId} {s x : Operand} (ht : P.underlying t = some (.slice e)) {e' : TypeId} (ht' : P.underlying t' = some (.slice e')) {ty : TypeId}
    (hop : execOp a.eval o = (do pure (.value (← Builtin.append_ #[t, t'] ty #[a.eval s, a.eval x])))) (hK : appendK T st o.dst K e (ev st.t s) (ev st.t x)) : Fin P cx o a w K := by
  have hs := ev_rel h s
  have hx := ev_rel h x
  unfold appendK at hK
  split at hK
  · rename_i te τ hte her
    split at hK
    · rename_i p l' m hsrc
      have fresh : ∀ (base : Option Addr), VC (p ∧ m * te.bytes ≤ 140737488355328 ∧ te.size = τ.n) (newK st o.dst K (.arr false τ l') fun N => .slice ⟨N, 0, 0, τ.n, 0⟩ m) → a.eval s = .slice base 0 0 → Fin P cx o a w K := fun base hK hu => by
        obtain ⟨⟨hp, hb, hsz⟩, hK⟩ := hK
        obtain ⟨hlm, hwB, ws, hS, _, hrB⟩ := srcV_sound T h hx hsrc hp ht'
        rw [hu] at hop
        rcases Nat.eq_zero_or_pos m with rfl | hm
        · obtain rfl : l' = [] := List.eq_nil_of_length_eq_zero hlm
          obtain ⟨i, zz, hii, hzz, hs', hbb, hcz, hzl, _⟩ := zero_rel T hte
          have hin : i.size = τ.n := by rw [hs', hsz]
          have hnl := hS.newsLen
          obtain rfl : ws = [] := List.eq_nil_of_length_eq_zero (by omega)
          have hrun : (Builtin.append_ #[t, t'] ty #[.slice base 0 0, a.eval x]).run P w = .ok (.slice base 0 0) w := by
            cases base with
            | none => simp [Builtin.append_, run_underlying ht, run_underlying ht', Go.sizeOf, typeInfo, hii, hS.len, hin, hS.cells]
            | some ad => simp [Builtin.append_, run_underlying ht, run_underlying ht', Go.sizeOf, typeInfo, hii, hS.len, hin, hS.cells, storeCells]
          unfold newK at hK
          rw [snocL_eq] at hK
          refine fin_value (u := .slice base 0 0) (by rw [hop]; simp [hrun]) hd (h.ghost (.arr false τ []) (by intro x hx; cases hx) (fun r cs hr => by
            simp only [AObj.row] at hr
            split at hr
            · simpa using hr.symm
            · cases hr)) ?_ hK
          exact .slice _ _ _ _ (by simp) (Nat.le_refl _) (.inl rfl)
        · refine append_new (cap := 0) (len := 0) (A := []) (olds := []) T h hd ht hte hsz rfl (by intro x hx; cases hx) (by simp) ?_ (by intro k c hk; simp at hk) hlm hwB hS hrB (by omega) (by simpa using hb) hop (by simpa using hK)
          cases base with
          | none => exact run_firstCells_none w.drew τ.n 0 0 0
          | some ad => exact run_firstCells_some w.drew τ.n 0 ad 0 0 [] (by simp) (fun j v hv => by simp at hv)
      split at hK
      · rename_i hv
        rw [hv] at hs
        refine fresh none hK ?_
        cases hu : a.eval s <;> rw [hu] at hs <;> cases hs
        rfl
      · rename_i q hv
        rw [hv] at hs
        cases hu : a.eval s <;> rw [hu] at hs <;> cases hs
        rename_i base hid hl hc
        exact fresh base hK hu
      · rename_i q len hv
        rw [hv] at hs
        cases hu : a.eval s <;> rw [hu] at hs <;> cases hs
        rename_i base cap hid hl hc
        rw [hu] at hop
        split at hK
        · rename_i τ' l hg hr0 hf0
          rw [getL_eq] at hg
          split at hK
          · rename_i eq hesz hτ
            have hesz := Nat.eq_of_beq_eq_true hesz
            clear hτ; subst eq
            obtain ⟨⟨hp, hi, hb, hsz⟩, hK⟩ := hK
            obtain ⟨hlm, hwB, ws, hS, _, hrB⟩ := srcV_sound T h hx hsrc hp ht'
            rw [setL_eq] at hK
            exact append_on T h hd ht hte hsz hg hr0 hf0 hesz hi hl hc hlm hwB hS hrB hb hop hK
          · exact hK.elim
        · exact hK.elim
      · exact hK.elim
    · exact hK.elim
  · exact hK.elim

/-! ### Calls -/
theorem callFunc_run {f : FuncId} {fn : Func} (hf : P.funcs[f]? = some fn) (hb : fn.body.isSome = true) (hn : (fn.name == "runtime.NumGoroutine") = false) (args : Array Value) (w : World) : (callFunc f args).run P w = .ok (.enter f args) w := by
  have hb' : fn.body.isNone = false := by cases h : fn.body <;> simp_all
  simp only [callFunc, Sem.run_bind, run_program, Result.andThen_ok, hf, hn, hb']
  rfl

theorem eff_call (T : Tab P) (h : Sim cx ρ st a w) (hd : ∀ k, o.dst = some k → k < cx.n) {f : Operand} {args : Array Operand} {ats : Array TypeId} (hop : o.op = .call { callee := .value f, args, argTypes := ats }) {g : FuncId} {cap : List AV} (hf : ev st.t f = .func g cap)
    (hK : ACall P g (args.toList.map (ev st.t) ++ cap) st.h fun r H => K (St.put ⟨st.t, H⟩ o.dst r)) : Fin P cx o a w K := fun Q => by
  obtain ⟨dst, op, ty, pos, after, guard⟩ := o
  simp only at hop; subst hop
  have hu := ev_rel h f
  rw [hf] at hu
  cases hq : a.eval f <;> rw [hq] at hu <;> cases hu
  rename_i ws hl hr
  obtain ⟨fn, hfn, hbody, hname⟩ := hK.text
  have hex : (execOp a.eval ⟨dst, .call { callee := .value f, args, argTypes := ats }, ty, pos, after, guard⟩).run P w = .ok (.enter g (args.map a.eval ++ ws)) w := by
    show (do let d ← resolve a.eval { callee := .value f, args, argTypes := ats } ty; invoke d.target d.args : Sem Next).run P w = _
    simp only [resolve, hq, Deferred.ofValue, Sem.run_bind, Sem.run_pure, Result.andThen_ok, invoke]
    rw [show (#[] : Array Value) ++ args.map a.eval = args.map a.eval by simp]
    exact callFunc_run hfn hbody hname _ w
  unfold Oper.wp
  rw [hex, Oper.upon_enter]
  refine (hK.run ρ w _ h.hs (by simp [hl]) (fun i x v hx hv => ?_)).mono fun e w' hc => ?_
  · rcases Nat.lt_or_ge i args.size with hi | hi
    · rw [List.getElem?_append_left (by simpa using hi)] at hx
      rw [Array.getElem?_append_left (by simpa using hi)] at hv
      exact map_rel (fun x => ev_rel h x) args i x v hx hv
    · rw [List.getElem?_append_right (by simpa using hi)] at hx
      rw [Array.getElem?_append_right (by simpa using hi)] at hv
      simp only [List.length_map, Array.length_toList, Array.size_map] at hx hv
      exact hr _ x v hx hv
  · obtain ⟨v, r, H', ρ', rfl, hk, hv, hs, hfr, hag, hlen, hwr, _⟩ := hc
    refine ⟨_, ρ', hk, Sim.put (st := ⟨st.t, H'⟩) ⟨fun k => (h.tm k).mono hag hlen, h.sz, h.df, hs, h.fr.trans hfr (fun b ⟨id, ob, r, h1, h2, h3, h4, h5⟩ => by rw [← h5]; exact h.wr id ob r h1 h2 h3 h4),
      h.ag.trans (hag.mono h.nn), Nat.le_trans h.nn hlen, fun id ob r h1 h2 h3 h4 => ?_⟩ dst hd hv⟩
    rcases hwr id ob r h1 h2 h3 h4 with ⟨id', ob', r', g1, g2, g3, g4, g5⟩ | hge
    · rw [← g5]; exact h.wr id' ob' r' g1 g2 g3 g4
    · exact .inr (Nat.le_trans h.fr.size hge)

theorem copyL_get (l : List Int) (i : Nat) (x : List Int) (h : i + x.length ≤ l.length) (j : Nat) : (copyL l i x)[j]? = if i ≤ j ∧ j < i + x.length then x[j - i]? else l[j]? := by
  unfold copyL
  rcases Nat.lt_or_ge j i with hj | hj
  · rw [if_neg (by omega), List.append_assoc, List.getElem?_append_left (by simp; omega), List.getElem?_take, if_pos hj]
  · rw [List.append_assoc, List.getElem?_append_right (by simp; omega)]
    have h1 : (l.take i).length = i := by simp; omega
    rw [h1]
    rcases Nat.lt_or_ge j (i + x.length) with hk | hk
    · rw [if_pos ⟨hj, hk⟩, List.getElem?_append_left (by omega)]
    · rw [if_neg (by omega), List.getElem?_append_right (by omega), List.getElem?_drop]
      congr 1; omega
theorem copyL_length (l : List Int) (i : Nat) (x : List Int) (h : i + x.length ≤ l.length) : (copyL l i x).length = l.length := by
  simp [copyL]; omega
theorem eff_copy (T : Tab P) (h : Sim cx ρ st a w) (hd : ∀ k, o.dst = some k → k < cx.n) {t tx e e' : TypeId} {s x : Operand} (ht : P.underlying t = some (.slice e)) (htx : P.underlying tx = some (.slice e'))
    (hop : execOp a.eval o = (do pure (.value (← Builtin.copy_ #[t, tx] o.type #[a.eval s, a.eval x])))) (hK : copyK T st o.dst K e (ev st.t s) (ev st.t x)) : Fin P cx o a w K := by
  unfold copyK at hK
  split at hK
  · rename_i te hte her
    split at hK
    · rename_i p l' m hsrc
      split at hK
      · rename_i q len hq
        split at hK
        · rename_i l hg hr0 hf0
          rw [getL_eq] at hg
          split at hK
          · rename_i hesz
            have hesz := Nat.eq_of_beq_eq_true hesz
            obtain ⟨⟨hp, hfit, hsz⟩, hK⟩ := hK
            have hx := ev_rel h x
            obtain ⟨hl', hwf', ws, hS, hF, hrel⟩ := srcV_sound T h hx hsrc hp htx
            have hds := ev_rel h s
            rw [hq] at hds
            cases hu : a.eval s <;> rw [hu] at hds <;> cases hds
            rename_i base cap hid hlc hc
            obtain ⟨i, zz, hii, hisz, _⟩ := (T.ok e _ hte).info
            have hi1 : i.size = 1 := by rw [hisz, hsz]
            have hrow := arr_row h.hs hg
            have hown := hrow.own rfl
            have hfits := hrow.fits
            rw [flat_int, List.length_map] at hfits
            have hws : ws.length = m := by have := hS.newsLen; simpa using this
            generalize hn : Nat.min m len = n at hK
            have hnm : n ≤ m := by rw [← hn]; exact Nat.min_le_left _ _
            have hnl : n ≤ len := by rw [← hn]; exact Nat.min_le_right _ _
            have hcell : ∀ (k : Nat) (z : Int), (l'.take n)[k]? = some z → ∃ u, (ws.take n)[k]? = some u ∧ VRel ρ st.h.length (.int .i64 z) u ∧ u.oneCell' = true := fun k z hz => by
              rw [List.getElem?_take] at hz
              split at hz
              · rename_i hkn
                obtain ⟨u, h1, h2, h3⟩ := hrel k (.int .i64 z) (by rw [flat_int, List.getElem?_map, hz]; rfl)
                exact ⟨u, by rw [List.getElem?_take, if_pos hkn]; exact h1, h2, h3⟩
              · cases hz
            have hlen' : (l'.take n).length = n := by rw [List.length_take, hl']; omega
            have hlenw : (ws.take n).length = n := by rw [List.length_take, hws]; omega
            have hF' := hF n hnm
            simp only [Nat.mul_one] at hF'
            have hq1 : q.cell = q.idx := by simp only [AAddr.cell, hf0, ← hesz]; omega
            have hone : ∀ v ∈ ws.take n, v.oneCell' = true := fun v hv => hS.one v (List.mem_of_mem_take hv)
            have hrun : ∀ (b : Option Addr) (w' : World), (∀ ad, b = some ad → (storeCells ad (ws.take n)).run P w = .ok () w') → (b = none → w' = w) → (Builtin.copy_ #[t, tx] o.type #[.slice b len cap, a.eval x]).run P w = .ok (.int .i64 (n : Nat)) w' := fun b w' hb hb' => by
              cases b with
              | none => rw [hb' rfl]; simp [Builtin.copy_, run_underlying ht, hS.len, Go.sizeOf, typeInfo, hii, hi1, hn, hF', goInt]
              | some ad => simp [Builtin.copy_, run_underlying ht, hS.len, Go.sizeOf, typeInfo, hii, hi1, hn, hF', hb ad rfl, goInt]
            rcases Nat.eq_zero_or_pos n with n0 | npos
            · subst n0
              have e1 : copyL l q.idx (l'.take 0) = l := by simp [copyL]
              have e2 : setL st.h q.id (.arr false .int l) = st.h := by
                rw [setL_eq]
                apply List.ext_getElem?
                intro j
                rw [List.getElem?_set]
                split
                · rename_i e; subst e
                  exact hg.symm
                · rfl
              rw [e1, e2] at hK
              exact fin_value (u := .int .i64 ((0 : Nat) : Int)) (by rw [hop, hu]; simp [hrun base w (fun ad _ => by simp [storeCells]) (fun _ => rfl)]) hd (show Sim cx ρ ⟨st.t, st.h⟩ a w from h) (.int _ _) hK
            · obtain ⟨hb, hroom⟩ := hc.resolve_left (by omega)
              have hat : q.at ρ = ⟨(ρ q.id 0).block, (ρ q.id 0).off + q.idx, none⟩ := by simp only [AAddr.at, hr0, Place.addr, hq1]
              rw [hr0, ← hesz, hq1] at hroom
              have hcs : ∀ j, j < n → (w.cell? ((ρ q.id 0).addr (q.idx + j))).isSome = true ∧ w.frozen? ((ρ q.id 0).addr (q.idx + j)) = false := fun j hj => hown _ (by omega)
              have hst : (storeCells (q.at ρ) (ws.take n)).run P w = .ok () (w.setCells (ρ q.id 0).block ((ρ q.id 0).off + q.idx) (ws.take n)) := by
                have := run_storeCells_cells (P := P) (ρ q.id 0).block ((ρ q.id 0).off + q.idx) (ws.take n) 0 w (fun j hj => by
                  have := (hcs j (by omega)).1; simpa [Place.addr, Nat.add_assoc] using this) (fun j hj => by
                  have := (hcs j (by omega)).2; simpa [Place.addr, Nat.add_assoc] using this) hone
                rw [hat]; simpa using this
              have hli : q.idx + (l'.take n).length ≤ l.length := by omega
              have hS2 := h.hs.store hg (r := 0) (cs := l.map (.int .i64)) (cs' := (copyL l q.idx (l'.take n)).map (.int .i64)) (o' := .arr false .int (copyL l q.idx (l'.take n))) (by show some _ = _; rw [flat_int]) rfl (fun _ _ => rfl) rfl (by show some _ = _; rw [flat_int]) (fun r' hr' => by simp [AObj.row, hr']) (by simp [copyL_length _ _ _ hli])
                q.idx (ws.take n) (by rw [List.length_map]; omega) (fun j hj => by rw [List.getElem?_map, List.getElem?_map, copyL_get _ _ _ hli, if_neg (by omega)]) (fun j c hj hc' => by
                  rw [List.getElem?_map, copyL_get _ _ _ hli, if_pos (by omega), show q.idx + j - q.idx = j by omega] at hc'
                  obtain ⟨z, hz, rfl⟩ := Option.map_eq_some_iff.1 hc'
                  exact hcell j z hz)
              rw [setL_eq] at hK
              refine fin_value (u := .int .i64 (n : Nat)) (w' := w.setCells (ρ q.id 0).block ((ρ q.id 0).off + q.idx) (ws.take n)) (by rw [hop, hu]; simp [hrun base _ (fun ad e => by rw [hb] at e; cases e; exact hst) (fun e => by rw [hb] at e; cases e)]) hd (h.reheap (by simp) hS2 ?_ (wr_set h.wr hg rfl fun r => by
                by_cases e : r = 0
                · subst e; rfl
                · simp [AObj.row, e])) (.int _ _) hK
              exact h.fr.setCells _ _ _ (h.wr q.id _ 0 hg rfl rfl (by omega))
          · exact hK.elim
        · exact hK.elim
      · exact hK.elim
    · exact hK.elim
  · exact hK.elim

theorem arr2 {α : Type} {a : Array α} {x y : α} (h : a.toList = [x, y]) : a = #[x, y] := by cases a; simp_all

theorem eff_isnil (T : Tab P) (h : Sim cx ρ st a w) (hd : ∀ k, o.dst = some k → k < cx.n) {op : BinOp} {t : TypeId} {x y : Operand} {yt : TypeId} (hop : o.op = .binOp op t x y yt) (hn : isNil y = true) (ht : isSliceT (T.ty t) = true)
    (hK : nilK st o.dst K op (ev st.t x)) : Fin P cx o a w K := by
  obtain ⟨dst, op', ty, pos, after, guard⟩ := o
  simp only at hop; subst hop
  have hev : a.eval y = .slice none 0 0 := by
    unfold isNil at hn
    split at hn
    · rfl
    · cases hn
  obtain ⟨e, hu⟩ : ∃ e, P.underlying t = some (.slice e) := by
    cases hq : T.ty t with
    | none => rw [hq] at ht; cases ht
    | some ti =>
      rw [hq] at ht
      obtain ⟨k, s, b, z⟩ := ti
      cases k <;> simp [isSliceT] at ht
      obtain ⟨d, hd, rfl⟩ := (T.ok t _ hq).und
      exact ⟨_, hd⟩
  have hx := ev_rel h x
  have key : ∀ (p : Option Addr) (n c : Nat), a.eval x = .slice p n c → op = .eql → (execOp a.eval ⟨dst, .binOp op t x y yt, ty, pos, after, guard⟩).run P w = .ok (.value (.bool p.isNone)) w := fun p n c hux ho => by
    subst ho
    show (do pure (Next.value (← (do eqGuard _ t x y (a.eval x) (a.eval y); binOp _ t (a.eval x) (a.eval y) : Sem Value))) : Sem Next).run P w = _
    rw [hux, hev]
    simp only [Sem.run_bind, eqGuard_slice, Result.andThen_ok, Lib.run_eql_slice_nil w t e p n c 0 0 hu]
    rfl
  unfold nilK at hK
  split at hK
  · rename_i q len hq
    rw [hq] at hx
    cases hux : a.eval x <;> rw [hux] at hx <;> cases hx
    rename_i p c hid hl hc
    have hr := key p len c hux rfl
    cases p with
    | none =>
      have : len = 0 := by rcases hc with hc | ⟨hc, _⟩; omega; cases hc
      exact fin_value hr hd h (.bool _) (hK.yes this)
    | some p => exact fin_value hr hd h (.bool _) hK.no
  · rename_i hq
    rw [hq] at hx
    cases hux : a.eval x <;> rw [hux] at hx <;> cases hx
    exact fin_value (key none 0 0 hux rfl) hd h (.bool _) hK
  · exact hK.elim

theorem effP_sound (T : Tab P) (h : Sim cx ρ st a w) (hd : ∀ k, o.dst = some k → k < cx.n) (hK : effP T st o K) : Fin P cx o a w K := by
  have hop : ∀ op, o.op = op → o = ⟨o.dst, op, o.type, o.pos, o.after, o.guard⟩ := fun op e => by cases o; simp_all
  have hK0 := hK
  unfold effP at hK
  split at hK
  · rename_i x hx
    split at hK
    · rename_i ob n h1 h2
      exact eff_nil T h hd (by rw [hop _ hx]; rfl) h1 h2 hK
    · exact hK.elim
  · rename_i x hx
    split at hK
    · rename_i ob n h1 h2
      exact eff_nil T h hd (by rw [hop _ hx]; rfl) h1 h2 hK
    · exact hK.elim
  · exact eff_alloc T h hd ‹_› hK0
  · exact eff_box T h hd ‹_› hK0
  · exact eff_build T h hd ‹_› hK0
  · exact eff_make T h hd ‹_› hK0
  · exact eff_store T h hd ‹_› hK0
  · rename_i c hc
    obtain ⟨callee, args, ats⟩ := c
    split at hK
    · rename_i f hcal
      simp only at hcal; subst hcal
      split at hK
      · rename_i g cap hg
        exact eff_call T h hd hc hg hK
      · exact hK.elim
    · rename_i hcal
      simp only at hcal; subst hcal
      split at hK
      · rename_i s x t t' hargs hats
        simp only at hargs hats
        split at hK
        · rename_i e _ _ _ e' _ _ _ h1 h2
          obtain ⟨d, hd1, rfl⟩ := (T.ok t _ h1).und
          obtain ⟨d', hd2, rfl⟩ := (T.ok t' _ h2).und
          obtain rfl := arr2 hargs
          obtain rfl := arr2 hats
          exact eff_append T h hd hd1 hd2 (by rw [hop _ hc, execOp_bi]; simp only [List.map_toArray, List.map_cons, List.map_nil]; rfl) hK
        · exact hK.elim
      · exact hK.elim
    · rename_i hcal
      simp only at hcal; subst hcal
      split at hK
      · rename_i s x t t' hargs hats
        simp only at hargs hats
        split at hK
        · rename_i e _ _ _ e' _ _ _ h1 h2
          obtain ⟨d, hd1, rfl⟩ := (T.ok t _ h1).und
          obtain ⟨d', hd2, rfl⟩ := (T.ok t' _ h2).und
          obtain rfl := arr2 hargs
          obtain rfl := arr2 hats
          exact eff_copy T h hd hd1 hd2 (by rw [hop _ hc, execOp_bi]; simp only [List.map_toArray, List.map_cons, List.map_nil]; rfl) hK
        · exact hK.elim
      · exact hK.elim
    · exact hK.elim
  · unfold nilP at hK
    split at hK
    · rename_i op t x y yt ho
      split at hK
      · rename_i hn ht
        exact eff_isnil T h hd ho hn ht hK
      · exact hK.elim
    · exact hK.elim

theorem stepP_sound (T : Tab P) (h : Sim cx ρ st a w) (hd : ∀ k, o.dst = some k → k < cx.n) (hK : stepP T st o K) : Fin P cx o a w K := by
  have hp := pureV_sound T h o
  have hr := readV_sound T h o
  unfold stepP at hK
  split at hK
  · rename_i v hv
    rw [hv] at hp
    obtain ⟨u, hu, hrel⟩ := hp
    exact fin_value hu hd h hrel hK
  · rename_i p v hv
    rw [hv] at hp
    obtain ⟨hpp, hK⟩ := hK
    obtain ⟨u, hu, hrel⟩ := hp hpp
    exact fin_value hu hd h hrel hK
  · split at hK
    · rename_i v hv
      rw [hv] at hr
      obtain ⟨u, hu, hrel⟩ := hr
      exact fin_value hu hd h hrel hK
    · rename_i p v hv
      rw [hv] at hr
      obtain ⟨hpp, hK⟩ := hK
      obtain ⟨u, hu, hrel⟩ := hr hpp
      exact fin_value hu hd h hrel hK
    · exact effP_sound T h hd hK
end
end YtofjbgpaofcpjaaAM
