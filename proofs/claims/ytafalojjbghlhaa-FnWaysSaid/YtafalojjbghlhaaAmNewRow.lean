import Derived.Test.YtafalojjbghlhaaAmRowSt
import Derived.Test.YtafalojjbghlhaaAmPlain
import Derived.Sort.Grow
section
/- 'clear' of a slice of whole numbers, in a walk. -/
set_option linter.unusedVariables false
set_option linter.unusedSimpArgs false
namespace YtafalojjbghlhaaAM
open Go
variable {P : Program}

def clrN (T : Tab P) (o : Oper) (tl : List (Nat × AV)) (H : List AObj) (k : List (Nat × AV) → List AObj → Prop) : Prop :=
  match o.op, o.guard, o.dst with
  | .call c, none, none => match c.callee, c.args.toList, c.argTypes.toList with
    | .builtin .clear, [x], [t] => match T.ty t, ev (lkp tl) x with
      | some ⟨.slice e, _, _, _⟩, .slice ⟨id, 0, idx, 1, 0⟩ n => match getL H id, T.ty e with
        | some (.arr false .int l), some te => VC (idx + n ≤ l.length ∧ te.size = 1 ∧ te.zero = [.int .i64 0]) (k tl (setL H id (.arr false .int (copyL l idx (List.replicate n 0)))))
        | _, _ => False
      | _, _ => False
    | _, _, _ => False
  | _, _, _ => False

theorem clear_run {w : World} {t e ty : TypeId} {z : Value} (ht : P.underlying t = some (.slice e)) (hv : (zeroValue e).run P w = .ok z w) (hz : z.cells = #[.int .i64 0]) (b o n c : Nat) (hn : 0 < n)
    (hc : ∀ j, j < n → (w.cell? ⟨b, o + j, none⟩).isSome = true) (hf : ∀ j, j < n → w.frozen? ⟨b, o + j, none⟩ = false) :
    (Builtin.clear_ #[t] ty #[.slice (some ⟨b, o, none⟩) n c]).run P w = .ok (.tuple #[]) (w.setCells b o (List.replicate n (.int .i64 0))) := by
  have hzc : (Builtin.zeroCells z.cells n).toList = List.replicate n (.int .i64 0) := by
    rw [hz]
    simp [Builtin.zeroCells]
    apply List.ext_getElem
    · simp
    · intro i h1 h2
      simp [Nat.mod_one]
  have hst := run_storeCells_cells (P := P) b o (List.replicate n (.int .i64 0)) 0 w (by simpa using hc) (by simpa using hf) (by intro v hv'; rw [List.eq_of_mem_replicate hv']; rfl)
  simp only [Nat.add_zero] at hst
  obtain ⟨m, rfl⟩ : ∃ m, n = m + 1 := ⟨n - 1, by omega⟩
  simp [Builtin.clear_, run_underlying ht, hv, hzc, hst]

theorem XGoal.clr {T : Tab P} {n : Nat} {ops : List Oper} {o : Oper} {rest : List Oper} {K : St → Prop} {tl : List (Nat × AV)} {H : List AObj} (hd : (o :: rest).all (dstOk n) = true) (h : clrN T o tl H fun tl H => listN T none ops rest K tl H) :
    XGoal P T n ops (o :: rest) K (St.of tl H) :=
  ⟨fun cx ρ a w opsA Q h1 h2 hs hn => by
    obtain ⟨dst, op, ty, pos, after, guard⟩ := o
    unfold clrN at h
    simp only at h
    split at h
    · rename_i cl
      split at h
      · rename_i x t hcal hargs hats
        split at h
        · rename_i e _ _ _ id idx m hty hx
          split at h
          · rename_i l te ho hte
            obtain ⟨⟨hfit, hsz, hzr⟩, hk⟩ := h
            rw [getL_eq] at ho
            have ho : H[id]? = some (.arr false .int l) := ho
            have hrx := ev_rel hs x
            have e1 : ev (St.of tl H).t x = ev (lkp tl) x := rfl
            rw [e1, hx] at hrx
            cases hux : a.eval x <;> rw [hux] at hrx <;> cases hrx
            rename_i base cap hid hlc hc
            obtain ⟨dd, hdd, rfl⟩ := (T.ok t _ hty).und
            obtain ⟨i, z, hi, hz, _, _, hzs, _, hzc⟩ := zero_rel T hte
            have hz0 : z.cells = #[.int .i64 0] := by
              obtain ⟨v, h1, h2, _⟩ := hzc ρ 0 0 (.int .i64 0) (by rw [hzr]; rfl)
              cases h2
              rw [hsz] at hzs
              apply Array.ext
              · rw [hzs]; rfl
              · intro j h3 h4
                have : j = 0 := by have : j < 1 := h4; omega
                subst this
                rw [Array.getElem?_eq_getElem h3] at h1
                simpa using h1
            have hv : (zeroValue e).run P w = .ok z w := by simp [zeroValue, typeInfo, hi, hz]
            have hrow := arr_row hs.hs ho
            have hown := hrow.own rfl
            have hfits := hrow.fits
            rw [flat_int, List.length_map] at hfits
            obtain ⟨cal, args, ats⟩ := cl
            simp only at hcal hargs hats
            subst hcal
            have ea : args = #[x] := by cases args; simp_all
            have et : ats = #[t] := by cases ats; simp_all
            subst ea et
            have hgo : ∀ w', (Builtin.clear_ #[t] ty #[a.eval x]).run P w = .ok (.tuple #[]) w' → (execOp a.eval ⟨none, .call { callee := .builtin .clear, args := #[x], argTypes := #[t] }, ty, pos, after, none⟩).run P w = .ok (.value (.tuple #[])) w' := fun w' hw => by
              have e2 : execOp a.eval ⟨none, .call { callee := .builtin .clear, args := #[x], argTypes := #[t] }, ty, pos, after, none⟩ = (do pure (Next.value (← Builtin.clear_ #[t] ty #[a.eval x]))) := by
                rw [execOp_bi]; simp only [List.map_toArray, List.map_cons, List.map_nil]; rfl
              rw [e2]
              simp [hw]
            have fin : ∀ w', (execOp a.eval ⟨none, .call { callee := .builtin .clear, args := #[x], argTypes := #[t] }, ty, pos, after, none⟩).run P w = .ok (.value (.tuple #[])) w' → Sim cx ρ (St.of tl (setL H id (.arr false .int (copyL l idx (List.replicate m 0))))) a w' →
                wpList P opsA Q (⟨none, .call { callee := .builtin .clear, args := #[x], argTypes := #[t] }, ty, pos, after, none⟩ :: rest) a w := fun w' hrun hS' => by
              have := listP_sound (T := T) (ops := opsA) hn rest _ ρ _ w' (fun o' ho' => by rw [h1]; exact List.all_eq_true.1 hd o' (by simp [ho'])) (by rw [h2]; exact listS_none _ _ (listN_sound _ _ _ hk)) hS'
              unfold wpList
              rw [if_pos (by simp [Region.wanted])]
              refine .inl ?_
              unfold Oper.wp
              rw [hrun]
              exact this
            rcases Nat.eq_zero_or_pos m with n0 | npos
            · subst n0
              have e2 : setL H id (.arr false .int (copyL l idx (List.replicate 0 0))) = H := by
                rw [setL_eq]
                apply List.ext_getElem?
                intro j
                rw [List.getElem?_set]
                split
                · rename_i e; subst e
                  have : copyL l idx (List.replicate 0 0) = l := by simp [copyL]
                  rw [this]
                  split
                  · exact ho.symm
                  · rename_i hlt; rw [List.getElem?_eq_none (by omega)] at ho; cases ho
                · rfl
              refine fin w (hgo w ?_) (by rw [e2]; exact hs)
              rw [hux]
              cases base <;> simp [Builtin.clear_, run_underlying hdd]
            · obtain ⟨hb, hroom⟩ := hc.resolve_left (by omega)
              have hat : (⟨id, 0, idx, 1, 0⟩ : AAddr).at ρ = ⟨(ρ id 0).block, (ρ id 0).off + idx, none⟩ := by simp [AAddr.at, AAddr.cell, Place.addr]
              have hroom : idx * 1 + 0 + cap * 1 ≤ (ρ id 0).room := hroom
              have hcs : ∀ j, j < m → (w.cell? ((ρ id 0).addr (idx + j))).isSome = true ∧ w.frozen? ((ρ id 0).addr (idx + j)) = false := fun j hj => hown _ (by omega)
              have hli : idx + (List.replicate m (0 : Int)).length ≤ l.length := by simpa using hfit
              have hS2 := hs.hs.store ho (r := 0) (cs := l.map (.int .i64)) (cs' := (copyL l idx (List.replicate m 0)).map (.int .i64)) (o' := .arr false .int (copyL l idx (List.replicate m 0))) (by show some _ = _; rw [flat_int]) rfl (fun _ _ => rfl) rfl (by show some _ = _; rw [flat_int]) (fun r' hr' => by simp [AObj.row, hr']) (by simp [copyL_length _ _ _ hli])
                idx (List.replicate m (.int .i64 0)) (by rw [List.length_map, List.length_replicate]; omega) (fun j hj => by rw [List.getElem?_map, List.getElem?_map, copyL_get _ _ _ hli, if_neg (by simp at hj ⊢; omega)]) (fun j c hj hc' => by
                  rw [List.length_replicate] at hj
                  rw [List.getElem?_map, copyL_get _ _ _ hli, if_pos (by simp; omega), show idx + j - idx = j by omega] at hc'
                  obtain ⟨y, hy, rfl⟩ := Option.map_eq_some_iff.1 hc'
                  rw [List.getElem?_replicate, if_pos hj] at hy
                  cases hy
                  exact ⟨.int .i64 0, by rw [List.getElem?_replicate, if_pos hj], .int _ _, rfl⟩)
              refine fin (w.setCells (ρ id 0).block ((ρ id 0).off + idx) (List.replicate m (.int .i64 0))) (hgo _ ?_) ?_
              · rw [hux, hb, hat]
                exact clear_run hdd hv hz0 _ _ _ _ npos (fun j hj => by have := (hcs j hj).1; simpa [Place.addr, Nat.add_assoc] using this) (fun j hj => by have := (hcs j hj).2; simpa [Place.addr, Nat.add_assoc] using this)
              · rw [setL_eq]
                refine hs.reheap (by simp [St.of]) hS2 ?_ (wr_set hs.wr ho rfl fun r => by
                  by_cases e : r = 0
                  · subst e; rfl
                  · simp [AObj.row, e])
                exact hs.fr.setCells _ _ _ (hs.wr id _ 0 ho rfl rfl (by omega))
          · exact h.elim
        · exact h.elim
      · exact h.elim
    · exact h.elim⟩
/-! ### Less of a list -/
theorem flat_ints2 (l : List Int) : l.flatMap Ty.int.enc = ints .i64 l := by
  induction l with
  | nil => rfl
  | cons a r ih => rw [List.flatMap_cons, ih]; rfl
theorem HSim.cut {ρ : Ren} {H : List AObj} {w : World} (hs : HSim ρ H w) {id : Nat} {ro : Bool} {l : List Int} (hg : H[id]? = some (.arr ro .int l)) (n : Nat) : HSim ρ (H.set id (.arr ro .int (l.take n))) w := by
  have hset : ∀ (j : Nat) (o : AObj), (H.set id (.arr ro .int (l.take n)))[j]? = some o → (j = id ∧ o = .arr ro .int (l.take n)) ∨ (j ≠ id ∧ H[j]? = some o) := fun j o h => by
    rw [List.getElem?_set] at h
    split at h
    · rename_i e
      split at h
      · exact .inl ⟨e.symm, (Option.some.inj h).symm⟩
      · cases h
    · rename_i e
      exact .inr ⟨fun e2 => e e2.symm, h⟩
  have hlive : ∀ (j : Nat) (o : AObj) (r : Nat), (H.set id (.arr ro .int (l.take n)))[j]? = some o → (o.row j r).isSome = true → ∃ o0, H[j]? = some o0 ∧ o0.ro = o.ro ∧ (o0.row j r).isSome = true := fun j o r h hr => by
    rcases hset j o h with ⟨rfl, rfl⟩ | ⟨hj, h1⟩
    · refine ⟨_, hg, rfl, ?_⟩
      simp only [AObj.row] at hr ⊢
      split at hr
      · rename_i e; rw [if_pos e]; rfl
      · cases hr
    · exact ⟨o, h1, rfl, hr⟩
  refine ⟨fun j o h => ?_, fun j o r cs h hr => ?_, fun j o r j' o' r' h h' hr hr' hro hne h0 h0' => ?_⟩
  · rcases hset j o h with ⟨rfl, rfl⟩ | ⟨hj, h1⟩
    · intro x hx; rfl
    · exact hs.wf j o h1
  · rw [List.length_set]
    rcases hset j o h with ⟨rfl, rfl⟩ | ⟨hj, h1⟩
    · have e : r = 0 ∧ cs = ints .i64 (l.take n) := by
        simp only [AObj.row] at hr
        split at hr
        · rename_i e
          rw [flat_ints2] at hr
          exact ⟨e, (Option.some.inj hr).symm⟩
        · cases hr
      obtain ⟨rfl, rfl⟩ := e
      have hR := hs.row j _ 0 (ints .i64 l) hg (by simp only [AObj.row, if_true]; rw [flat_ints2])
      refine ⟨?_, hR.there, hR.own, fun k c hk => ?_⟩
      · have := hR.fits
        simp only [ints, List.length_map, List.length_take] at this ⊢
        omega
      · have e2 : ints .i64 (l.take n) = (ints .i64 l).take n := by simp [ints]
        rw [e2, List.getElem?_take] at hk
        split at hk
        · exact hR.cell k c hk
        · cases hk
    · exact hs.row j o r cs h1 hr
  · obtain ⟨p, g1, g2, g3⟩ := hlive j o r h hr
    obtain ⟨p', g1', g2', g3'⟩ := hlive j' o' r' h' hr'
    exact hs.apart j p r j' p' r' g1 g1' g3 g3' (by rw [g2]; exact hro) hne h0 h0'
theorem AWP.cut {m n0 : Nat} {c : Code} {Q : Exit → St → Prop} {tl : List (Nat × AV)} {H : List AObj} (id k : Nat) {l : List Int} (hg : getL H id = some (.arr false .int l)) (h : AWP P m n0 c Q (St.of tl (setL H id (.arr false .int (l.take k))))) : AWP P m n0 c Q (St.of tl H) :=
  ⟨fun cx ρ a w h1 h2 hs => h.run cx ρ a w h1 h2 (by
    rw [getL_eq] at hg
    rw [setL_eq]
    refine hs.reheap (by simp [St.of]) (hs.hs.cut hg k) hs.fr (wr_set hs.wr hg rfl fun r => ?_)
    by_cases e : r = 0
    · subst e; rfl
    · simp [AObj.row, e])⟩
/-- The end, with less of a list. -/
theorem AWP.retCut {m n0 : Nat} {Q : Exit → St → Prop} {tl : List (Nat × AV)} {H : List AObj} (id k : Nat) {l : List Int} (hg : getL H id = some (.arr false .int l)) (h : Q .ret (St.of tl (setL H id (.arr false .int (l.take k))))) : AWP P m n0 .ret Q (St.of tl H) :=
  AWP.cut id k hg (AWP.ret h)

theorem sub_all' {l : List Int} {n : Nat} (h : n = l.length) : sub l 0 n = l := by subst h; exact sub_all _
/-! ### What is kept -/
def keepN (p : Int → Bool) (l : List Int) (j : Nat) : List Int := (l.take j).filter fun x => !p x
def midD (p : Int → Bool) (l : List Int) (j : Nat) : List Int := keepN p l j ++ l.drop (keepN p l j).length
section
variable {p : Int → Bool} {l : List Int} {j : Nat}
theorem keepN_le : (keepN p l j).length ≤ j := by
  have h1 := List.length_filter_le (fun x => !p x) (l.take j)
  have h2 := List.length_take_le j l
  unfold keepN; omega
theorem keepN_le2 : (keepN p l j).length ≤ l.length := by
  have h1 := List.length_filter_le (fun x => !p x) (l.take j)
  have h2 : (l.take j).length ≤ l.length := by rw [List.length_take]; omega
  unfold keepN; omega
theorem midD_length : (midD p l j).length = l.length := by
  have := keepN_le2 (p := p) (l := l) (j := j)
  simp [midD]; omega
theorem midD_at (hj : j < l.length) : (midD p l j).getD j 0 = l.getD j 0 := by
  have := keepN_le (p := p) (l := l) (j := j)
  simp only [midD, List.getD_eq_getElem?_getD]
  rw [List.getElem?_append_right this, List.getElem?_drop, show (keepN p l j).length + (j - (keepN p l j).length) = j by omega]
theorem keepN_yes (hj : j < l.length) (h : p (l.getD j 0) = true) : keepN p l (j + 1) = keepN p l j := by
  rw [getD_get hj] at h
  rw [keepN, List.take_add_one, List.getElem?_eq_getElem hj, Option.toList_some, List.filter_append, List.filter_cons, h]
  simp [keepN]
theorem keepN_no (hj : j < l.length) (h : p (l.getD j 0) = false) : keepN p l (j + 1) = keepN p l j ++ [l.getD j 0] := by
  rw [getD_get hj] at h ⊢
  rw [keepN, List.take_add_one, List.getElem?_eq_getElem hj, Option.toList_some, List.filter_append, List.filter_cons, h]
  simp [keepN]
theorem midD_yes (hj : j < l.length) (h : p (l.getD j 0) = true) : midD p l (j + 1) = midD p l j := by
  rw [midD, keepN_yes hj h, midD]
theorem midD_no (hj : j < l.length) (h : p (l.getD j 0) = false) : midD p l (j + 1) = (midD p l j).set (keepN p l j).length (l.getD j 0) := by
  have hk := keepN_le (p := p) (l := l) (j := j)
  rw [midD, keepN_no hj h, midD, List.set_append_right _ _ (Nat.le_refl _), Nat.sub_self, List.length_append, List.append_assoc]
  congr 1
  rw [show l.drop (keepN p l j).length = l[(keepN p l j).length] :: l.drop ((keepN p l j).length + 1) from List.drop_eq_getElem_cons (by omega), List.set_cons_zero]
  rfl
theorem keepN_start (hj : j < l.length) (hb : ∀ i, i < j → p (l.getD i 0) = false) : keepN p l j = l.take j := by
  unfold keepN
  rw [List.filter_eq_self]
  intro x hx
  obtain ⟨i, hi, rfl⟩ := List.getElem_of_mem hx
  rw [List.length_take] at hi
  have := hb i (by omega)
  rw [getD_get (by omega)] at this
  rw [List.getElem_take, this]; rfl
theorem midD_start (hj : j < l.length) (hb : ∀ i, i < j → p (l.getD i 0) = false) (h : p (l.getD j 0) = true) : (keepN p l (j + 1)).length = j ∧ midD p l (j + 1) = l := by
  have e := keepN_start hj hb
  rw [midD_yes hj h, keepN_yes hj h, midD, e]
  have : (l.take j).length = j := by rw [List.length_take]; omega
  rw [this]
  exact ⟨rfl, List.take_append_drop _ _⟩
theorem keepN_all (hj : l.length ≤ j) : keepN p l j = l.filter fun x => !p x := by rw [keepN, List.take_of_length_le hj]
theorem midD_cut {x : List Int} (hx : (keepN p l j).length + x.length ≤ l.length) : (copyL (midD p l j) (keepN p l j).length x).take (keepN p l j).length = keepN p l j := by
  apply List.ext_getElem?
  intro i
  rw [List.getElem?_take]
  split
  · rename_i hi
    rw [copyL_get _ _ _ (by rw [midD_length]; exact hx), if_neg (by omega), midD, List.getElem?_append_left hi]
  · rename_i hi
    rw [List.getElem?_eq_none (by omega)]
end
theorem idxF_at {p : Int → Bool} {l : List Int} (h : ¬ idxF p l = -1) : ∃ k : Nat, idxF p l = k ∧ k < l.length ∧ (∀ i, i < k → p (l.getD i 0) = false) ∧ p (l.getD k 0) = true := by
  unfold idxF at *
  cases e : l.findIdx? p with
  | none => rw [e] at h; exact absurd rfl h
  | some k =>
    obtain ⟨hk, hp, hb⟩ := List.findIdx?_eq_some_iff_getElem.1 e
    exact ⟨k, rfl, hk, fun i hi => by rw [getD_get (by omega)]; simpa using hb i hi, by rw [getD_get hk]; exact hp⟩
theorem idxF_no {p : Int → Bool} {l : List Int} (h : idxF p l = -1) : (l.filter fun x => !p x) = l := by
  rw [List.filter_eq_self]
  intro x hx
  unfold idxF at h
  cases e : l.findIdx? p with
  | none =>
    rw [List.findIdx?_eq_none_iff] at e
    rw [e x hx]; rfl
  | some k => rw [e] at h; simp only [] at h; omega
theorem sub_snoc' {s : List Int} {x : Int} {n : Nat} (h : n = s.length) : sub s 0 n ++ sub [x] 0 1 = s ++ [x] := by
  rw [sub_all' h]; rfl
theorem Ret.ssb (l : List Nat) {n0 : Nat} {H H1 : List AObj} {a a' : AAddr} {w : AV} {v v1 v' v1' : Nat} {b b1 : Bool} (hw : w = .tuple [.slice (a.ren (nameOf l)) v, .slice (a'.ren (nameOf l)) v', .bool b]) (hv : v = v1) (hv' : v' = v1') (hb : b = b1) (hh : FitsL (nameOf l) H1.length H l H1)
    (hn : (Nat.ble n0 H1.length && idB n0 0 l && Nat.beq l.length H1.length && injB l H1 && allWr (dropL n0 H1) && (AV.tuple [.slice a v1, .slice a' v1', .bool b1]).bd H1.length) = true) : Ret n0 H w (Is (.tuple [.slice a v1, .slice a' v1', .bool b1]) H1) :=
  Ret.is l (by rw [hw, hv, hv', hb]; rfl) hh hn
theorem Ret.ss (l : List Nat) {n0 : Nat} {H H1 : List AObj} {a a' : AAddr} {w : AV} {v v1 v' v1' : Nat} (hw : w = .tuple [.slice (a.ren (nameOf l)) v, .slice (a'.ren (nameOf l)) v']) (hv : v = v1) (hv' : v' = v1') (hh : FitsL (nameOf l) H1.length H l H1)
    (hn : (Nat.ble n0 H1.length && idB n0 0 l && Nat.beq l.length H1.length && injB l H1 && allWr (dropL n0 H1) && (AV.tuple [.slice a v1, .slice a' v1']).bd H1.length) = true) : Ret n0 H w (Is (.tuple [.slice a v1, .slice a' v1']) H1) :=
  Ret.is l (by rw [hw, hv, hv']; rfl) hh hn
end YtafalojjbghlhaaAM
end
section
/- Contracts of the library that write over one list of numbers, as contracts of this framework. -/
set_option linter.unusedVariables false
set_option linter.unusedSimpArgs false
namespace YtafalojjbghlhaaAM
open Go Go.Sort
variable {P : Program}

def putV (m : Option Nat) (a : Option Addr) (cap : Nat) : Value := match m with | none => .tuple #[] | some m => .slice a m cap
def putR (m : Option Nat) : AV := match m with | none => .tuple [] | some m => .slice ⟨0, 0, 0, 1, 0⟩ m

theorem ACall.ofPut {f : FuncId} {l l' xs : List Int} {m : Option Nat} (ht : IsText P f) (hlen : l'.length = l.length) (hm : ∀ k, m = some k → k ≤ l.length)
    (h0 : l ≠ [] → ∀ (blk off cap : Nat) (w : World), Holds (Value.int .i64) w blk off l.toArray → blk < w.heap.size → l.length ≤ cap →
      Calls P f (#[.slice (some ⟨blk, off, none⟩) l.length cap] ++ (xs.map (Value.int .i64)).toArray) w fun e w' => e = .returned (putV m (some ⟨blk, off, none⟩) cap) ∧ ∃ q os, w' = grow (putRow (Value.int .i64) (Sort.ahead w q) blk off l'.toArray) os)
    (h1 : l = [] → ∀ (p : Option Addr) (cap : Nat) (w : World), Calls P f (#[.slice p 0 cap] ++ (xs.map (Value.int .i64)).toArray) w fun e w' => e = .returned (putV m p cap) ∧ w' = w) :
    ACall P f (.slice ⟨0, 0, 0, 1, 0⟩ l.length :: xs.map (.int .i64)) [.arr false .int l] (Is (putR m) [.arr false .int l']) where
  text := ht
  nv := Is.nv _ _
  run ρ w vals hs hsz hr := by
    have hR := hs.row 0 (.arr false .int l) 0 (ints .i64 l) rfl (by simp only [AObj.row, if_true]; rw [flat_ints2])
    have hfits := hR.fits
    simp only [ints, List.length_map] at hfits
    have hv0 : 0 < vals.size := by rw [hsz]; simp
    have hrel0 := hr 0 _ (vals[0]) rfl (Array.getElem?_eq_getElem hv0)
    have hxs : ∀ k, k < xs.length → vals[k + 1]? = some (.int .i64 (xs.getD k 0)) := fun k hk => by
      have hlt : k + 1 < vals.size := by rw [hsz]; simp; omega
      have := hr (k + 1) (.int .i64 (xs.getD k 0)) (vals[k + 1]) (by rw [List.getElem?_cons_succ, List.getElem?_map, List.getElem?_eq_getElem hk, getD_get hk]; rfl) (Array.getElem?_eq_getElem hlt)
      rw [Array.getElem?_eq_getElem hlt]
      generalize vals[k + 1] = u at this
      cases this
      rfl
    have hvals : vals = #[vals[0]] ++ (xs.map (Value.int .i64)).toArray := by
      apply Array.ext_getElem?
      intro k
      cases k with
      | zero => rw [Array.getElem?_eq_getElem hv0]; simp
      | succ k =>
        rcases Nat.lt_or_ge k xs.length with hk | hk
        · rw [hxs k hk, Array.getElem?_append_right (by simp)]
          simp [List.getElem?_map, List.getElem?_eq_getElem hk]
        · rw [Array.getElem?_eq_none (by rw [hsz]; simp; omega), Array.getElem?_eq_none (by simp; omega)]
    generalize vals[0] = v0 at hrel0 hvals
    subst hvals
    have hrelm : ∀ (p : Option Addr) (cap : Nat), l.length ≤ cap → (cap = 0 ∨ (p = some ((⟨0, 0, 0, 1, 0⟩ : AAddr).at ρ) ∧ (⟨0, 0, 0, 1, 0⟩ : AAddr).cell + cap * 1 ≤ (ρ 0 0).room)) → VRel ρ 1 (putR m) (putV m p cap) := fun p cap hlc hc => by
      cases m with
      | none => exact .tuple [] #[] rfl fun i a v h => by simp at h
      | some k => exact .slice _ k p cap (by simp) (by have := hm k rfl; omega) hc
    cases hrel0 with
    | slice _ _ p cap _ hlc hc =>
    by_cases hl : l = []
    · subst hl
      obtain rfl : l' = [] := List.eq_nil_of_length_eq_zero hlen
      refine (h1 rfl p cap w).mono ?_
      rintro e w' ⟨rfl, rfl⟩
      exact ⟨_, _, _, ρ, rfl, ⟨rfl, rfl⟩, hrelm p cap hlc hc, hs, Frame.refl _ _, .refl _ _, Nat.le_refl _, fun id o q h1 h2 h3 h4 => .inl ⟨id, o, q, h1, h2, h3, h4, rfl⟩, fun id o h1 h2 => by rw [List.getElem?_eq_none h1] at h2; cases h2⟩
    · have hpos : 0 < l.length := List.length_pos_iff.2 hl
      have hroom : 0 < (ρ 0 0).room := by omega
      obtain ⟨hp, hcr⟩ := hc.resolve_left (by omega)
      have hat : (⟨0, 0, 0, 1, 0⟩ : AAddr).at ρ = ⟨(ρ 0 0).block, (ρ 0 0).off, none⟩ := by simp [AAddr.at, AAddr.cell, Place.addr]
      rw [hat] at hp
      subst hp
      have hblk := hR.there hroom
      have hown := hR.own rfl
      have hH : Holds (Value.int .i64) w (ρ 0 0).block (ρ 0 0).off l.toArray := fun j hj => by
        have hj' : j < l.length := by simpa using hj
        obtain ⟨v, hv, hrv, _⟩ := hR.cell j (.int .i64 l[j]) (by simp [ints, hj'])
        cases hrv
        refine ⟨?_, (hown j (by omega)).2⟩
        rw [show (⟨(ρ 0 0).block, (ρ 0 0).off + j, none⟩ : Addr) = (ρ 0 0).addr j from rfl, hv, getElem!_pos l.toArray j hj]
        simp
      refine (h0 hl _ _ cap w hH hblk hlc).mono ?_
      rintro e w' ⟨rfl, q, os, rfl⟩
      -- the new world
      have hcellT : ∀ k, k < l'.length → (grow (putRow (Value.int .i64) (Sort.ahead w q) (ρ 0 0).block (ρ 0 0).off l'.toArray) os).cell? ((ρ 0 0).addr k) = some (.int .i64 (l'.getD k 0)) := fun k hk => by
        rw [cell?_grow _ _ _ (by show (ρ 0 0).block < _; simpa using hblk)]
        have := cell?_putRow (Value.int .i64) (Sort.ahead w q) (ρ 0 0).block (ρ 0 0).off l.toArray l'.toArray (holds_ahead _ _ _ _ _ _ hH) (by simpa using hlen) k (by simpa using hk)
        rw [show (ρ 0 0).addr k = ⟨(ρ 0 0).block, (ρ 0 0).off + k, none⟩ from rfl, this, getElem!_pos l'.toArray k (by simpa using hk), getD_get hk]
        simp
      have hcellO : ∀ a : Addr, a.block < w.heap.size → (a.block ≠ (ρ 0 0).block ∨ (ρ 0 0).off + l'.length ≤ a.off) → (grow (putRow (Value.int .i64) (Sort.ahead w q) (ρ 0 0).block (ρ 0 0).off l'.toArray) os).cell? a = w.cell? a := fun a ha hne => by
        rw [cell?_grow _ _ _ (by simpa using ha), cell?_putRow_other _ _ _ _ _ _ (by rcases hne with h | h; exact .inl h; exact .inr (.inr (by simpa using h)))]
        rfl
      have hfz : ∀ a : Addr, a.block < w.heap.size → (grow (putRow (Value.int .i64) (Sort.ahead w q) (ρ 0 0).block (ρ 0 0).off l'.toArray) os).frozen? a = w.frozen? a := fun a ha => by
        rw [frozen?_grow _ _ _ (by simpa using ha), frozen?_putRow]; rfl
      refine ⟨_, _, _, ρ, rfl, ⟨rfl, rfl⟩, hrelm _ cap hlc (.inr ⟨by rw [hat], hcr⟩), ⟨fun id o h => ?_, fun id o r cs h hr => ?_, fun id o r id' o' r' h h' hr hr' hro hne h0 h0' => ?_⟩, ⟨rfl, rfl, rfl, by simp, fun b hb hB => ?_⟩, .refl _ _, Nat.le_refl _, fun id o r h1 h2 h3 h4 => ?_, fun id o h1 h2 => by
        rw [List.getElem?_eq_none (show [AObj.arr false .int l'].length ≤ id from h1)] at h2; cases h2⟩
      · cases id with
        | zero => cases h; intro y hy; rfl
        | succ id => simp at h
      · cases id with
        | succ id => simp at h
        | zero =>
          cases h
          have e : r = 0 ∧ cs = ints .i64 l' := by
            simp only [AObj.row] at hr
            split at hr
            · rename_i e
              rw [flat_ints2] at hr
              exact ⟨e, (Option.some.inj hr).symm⟩
            · cases hr
          obtain ⟨rfl, rfl⟩ := e
          refine ⟨by simp only [ints, List.length_map]; omega, fun _ => by simp; omega, fun _ k hk => ?_, fun k c hk => ?_⟩
          · rw [hfz _ hblk]
            refine ⟨?_, (hown k hk).2⟩
            rcases Nat.lt_or_ge k l'.length with c | c
            · rw [hcellT k c]; rfl
            · rw [hcellO _ hblk (.inr (by show _ ≤ (ρ 0 0).off + k; omega))]; exact (hown k hk).1
          · simp only [ints, List.getElem?_map] at hk
            obtain ⟨y, hy, rfl⟩ := Option.map_eq_some_iff.1 hk
            obtain ⟨hk2, rfl⟩ := List.getElem?_eq_some_iff.1 hy
            exact ⟨_, hcellT k hk2, by rw [getD_get hk2]; exact .int _ _, rfl⟩
      · have e1 : id = 0 := by
          cases id with
          | zero => rfl
          | succ id => simp at h
        have e2 : id' = 0 := by
          cases id' with
          | zero => rfl
          | succ id' => simp at h'
        subst e1 e2
        cases h
        cases h'
        have f1 : r = 0 := by
          simp only [AObj.row] at hr
          split at hr
          · assumption
          · cases hr
        have f2 : r' = 0 := by
          simp only [AObj.row] at hr'
          split at hr'
          · assumption
          · cases hr'
        subst f1 f2
        exact absurd rfl hne
      · have hne : b ≠ (ρ 0 0).block := fun e => hB ⟨0, _, 0, rfl, rfl, rfl, hroom, e.symm⟩
        rw [heap_grow_old _ _ (by simpa using hb)]
        simp [putRow, mapBlock, Sort.ahead, Array.getElem?_modify, Ne.symm hne]
      · cases id with
        | succ id => simp at h1
        | zero =>
          cases h1
          have f1 : r = 0 := by
            simp only [AObj.row] at h3
            split at h3
            · assumption
            · cases h3
          subst f1
          exact .inl ⟨0, _, 0, rfl, rfl, rfl, hroom, rfl⟩
/-- Less of the list that is left. -/
theorem ACall.cut0 {f : FuncId} {args : List AV} {l l' : List Int} {r : AV} (h : ACall P f args [.arr false .int l] (Is r [.arr false .int l'])) (k : Nat) : ACall P f args [.arr false .int l] (Is r [.arr false .int (l'.take k)]) where
  text := h.text
  nv := Is.nv _ _
  run ρ w vals h1 h2 h3 := (h.run ρ w vals h1 h2 h3).mono fun e w' ⟨v, r', H', ρ', he, ⟨hk1, hk2⟩, hv, hs, hf, hag, hle, hwr, hnew⟩ => by
    subst hk1 hk2
    refine ⟨v, _, _, ρ', he, ⟨rfl, rfl⟩, hv, hs.cut (id := 0) rfl k, hf, hag, hle, fun id o q h1 h2 h3 h4 => ?_, fun id o h1 h2 => by
      rw [List.getElem?_eq_none (by simpa using h1)] at h2; cases h2⟩
    cases id with
    | succ id => simp at h1
    | zero =>
      cases h1
      refine hwr 0 _ q rfl rfl ?_ h4
      simp only [AObj.row] at h3 ⊢
      split at h3
      · rename_i e; rw [if_pos e]; rfl
      · cases h3
end YtafalojjbghlhaaAM
end
section
/- A contract of the library that hands back a new list of numbers, as a contract of this framework. -/
set_option linter.unusedVariables false
set_option linter.unusedSimpArgs false
namespace YtafalojjbghlhaaAM
open Go Go.RowKit
variable {P : Program}

theorem ACall.ofNew {f : FuncId} {args : List AV} {H H' : List AObj} {l : List Int} {t : TypeId} {N : Nat} (ht : IsText P f) (hH : H' = H ++ [.arr false .int l]) (hN : N = H.length)
    (hc : ∀ (ρ : Ren) (w : World) (vals : Array Value), HSim ρ H w → vals.size = args.length → (∀ (i : Nat) (a : AV) (v : Value), args[i]? = some a → vals[i]? = some v → VRel ρ H.length a v) →
      Calls P f vals w fun e w' => ∃ v, e = .returned v ∧ w'.ownsRow w.heap.size t 1 v l.length (l.map (Value.int .i64)) ∧ Below w.heap.size w w') :
    ACall P f args H (Is (.slice ⟨N, 0, 0, 1, 0⟩ l.length) H') where
  text := ht
  nv := Is.nv _ _
  run ρ w vals h1 h2 h3 := by
    subst hH hN
    refine (hc ρ w vals h1 h2 h3).mono ?_
    rintro e w' ⟨v, rfl, ⟨hlen, hv⟩, hb⟩
    have hk : Keeps w w' := ⟨hb.size, fun a ha => hb.cell ha, fun a ha => hb.frozen ha⟩
    have hwf : (AObj.arr false .int l).wf := fun x _ => rfl
    have hrow0 : ∀ r cs, (AObj.arr false .int l).row H.length r = some cs → r = 0 ∧ cs = ints .i64 l := fun r cs hr => by
      simp only [AObj.row] at hr
      split at hr
      · rename_i e
        rw [flat_ints2] at hr
        exact ⟨e, (Option.some.inj hr).symm⟩
      · cases hr
    rcases hv with ⟨rfl, h0⟩ | ⟨g, cap, cur, rfl, hg, hgb, hnc, hcm, hcs, htk⟩
    · have hl : l = [] := List.eq_nil_of_length_eq_zero h0
      subst hl
      have hS := (h1.keeps hk).ghost (.arr false .int ([] : List Int)) hwf (fun r cs hr => (hrow0 r cs hr).2)
      refine ⟨_, _, _, ρ.put H.length fun _ => ⟨0, 0, 0⟩, rfl, ⟨rfl, rfl⟩, .slice _ 0 none 0 (by simp) (Nat.le_refl _) (.inl rfl), hS, ⟨hb.os, hb.tape, hb.output, hb.size, fun b hb' _ => hb.block b hb'⟩, Ren.put_agree _ _ _, by simp, fun id o q ho hro hq hr => ?_, fun id o hle ho => ?_⟩
      · rcases snoc_get ho with ⟨hl, hx⟩ | ⟨rfl, rfl⟩
        · rw [Ren.put_lt _ hl] at hr ⊢
          exact .inl ⟨id, o, q, hx, hro, hq, hr, rfl⟩
        · rw [Ren.put_same] at hr; exact absurd hr (by simp)
      · rcases snoc_get ho with ⟨hl, hx⟩ | ⟨rfl, rfl⟩
        · omega
        · exact .inr rfl
    · have hcell : ∀ k, w'.cell? (Place.addr ⟨g, 0, cap⟩ k) = cur[k]? := fun k => by
        simp only [World.cell?, Place.addr, hgb]
        simp
      have hS : HSim (ρ.put H.length fun _ => ⟨g, 0, cap⟩) (H ++ [.arr false .int l]) w' := by
        refine h1.snoc hk _ _ hwf (fun r cs hr => ?_) (fun r r' hr hr' _ hne => ?_) (fun id o' r r' ho' hr' hr _ _ h0' => ?_)
        · obtain ⟨rfl, rfl⟩ := hrow0 r cs hr
          refine ⟨by simpa [ints] using hnc, fun _ => ?_, fun _ k hk' => ?_, fun k c hc => ?_⟩
          · exact (Array.getElem?_eq_some_iff.1 hgb).1
          · have hk2 : k < cap := hk'
            refine ⟨?_, ?_⟩
            · show (w'.cell? (Place.addr ⟨g, 0, cap⟩ k)).isSome = true
              rw [hcell, Array.getElem?_eq_getElem (by omega)]; rfl
            · simp [World.frozen?, Place.addr, hgb]
          · simp only [ints, List.getElem?_map] at hc
            obtain ⟨y, hy, rfl⟩ := Option.map_eq_some_iff.1 hc
            have hkl : k < l.length := (List.getElem?_eq_some_iff.1 hy).1
            refine ⟨.int .i64 y, ?_, .int _ _, rfl⟩
            rw [hcell]
            have h5 : (cur.toList.take (l.length * 1))[k]? = some (.int .i64 y) := by rw [htk, List.getElem?_map, hy]; rfl
            rw [List.getElem?_take_of_lt (by omega)] at h5
            simpa using h5
        · cases h : (AObj.arr false .int l).row H.length r with
          | none => rw [h] at hr; cases hr
          | some cs =>
            cases h' : (AObj.arr false .int l).row H.length r' with
            | none => rw [h'] at hr'; cases hr'
            | some cs' => exact absurd ((hrow0 r cs h).1.trans (hrow0 r' cs' h').1.symm) hne
        · have := h1.block_lt ho' hr' h0'
          show g ≠ _
          omega
      refine ⟨_, _, _, _, rfl, ⟨rfl, rfl⟩, .slice _ l.length (some ⟨g, 0, none⟩) cap (by simp) hnc (.inr ⟨?_, ?_⟩), hS, ⟨hb.os, hb.tape, hb.output, hb.size, fun b hb' _ => hb.block b hb'⟩, Ren.put_agree _ _ _, by simp, fun id o q ho hro hq hr => ?_, fun id o hle ho => ?_⟩
      · simp [AAddr.at, AAddr.cell, Ren.put_same, Place.addr]
      · simp [AAddr.cell, Ren.put_same]
      · rcases snoc_get ho with ⟨hl, hx⟩ | ⟨rfl, rfl⟩
        · rw [Ren.put_lt _ hl] at hr ⊢
          exact .inl ⟨id, o, q, hx, hro, hq, hr, rfl⟩
        · rw [Ren.put_same]; exact .inr hg
      · rcases snoc_get ho with ⟨hl, hx⟩ | ⟨rfl, rfl⟩
        · omega
        · exact .inr rfl
end YtafalojjbghlhaaAM
end
