/- 'clear' of a slice of whole numbers, in a walk. -/
import Derived.Test.YtofjbgpaofcpjaaAmRowSt
import Derived.Test.YtofjbgpaofcpjaaAmPlain
set_option linter.unusedVariables false
set_option linter.unusedSimpArgs false
namespace YtofjbgpaofcpjaaAM
open Go
variable {P : Program}

def clrN (T : Tab P) (o : Oper) (tl : List (Nat × AV)) (H : List AObj) (k : List (Nat × AV) → List AObj → Prop) : Prop :=
  match o.op, o.guard, o.dst with
  | .call c, none, none => match c.callee, c.args.toList, c.argTypes.toList with
    | .builtin .clear, [x], [t] => match T.ty t, ev (lkp tl) x with
      | some ⟨.slice e, _, _, _⟩, .slice ⟨id, 0, idx, 1, 0⟩ n => match getL H id, T.ty e with
        | some (.arr false .int l), some te => VC (idx + n ≤ l.length ∧ te.size = 1 ∧ te.zero = [.int .i64 0]) (k tl (setL H id (.arr false .int (copyL l idx (List.replicate n 0)))))
        | _, _ => False
      | _, _ => False
    | _, _, _ => False
  | _, _, _ => False

theorem clear_run {w : World} {t e ty : TypeId} {z : Value} (ht : P.underlying t = some (.slice e)) (hv : (zeroValue e).run P w = .ok z w) (hz : z.cells = #[.int .i64 0]) (b o n c : Nat) (hn : 0 < n)
    (hc : ∀ j, j < n → (w.cell? ⟨b, o + j, none⟩).isSome = true) (hf : ∀ j, j < n → w.frozen? ⟨b, o + j, none⟩ = false) :
    (Builtin.clear_ #[t] ty #[.slice (some ⟨b, o, none⟩) n c]).run P w = .ok (.tuple #[]) (w.setCells b o (List.replicate n (.int .i64 0))) := by
  have hzc : (Builtin.zeroCells z.cells n).toList = List.replicate n (.int .i64 0) := by
    rw [hz]
    simp [Builtin.zeroCells]
    apply List.ext_getElem
    · simp
    · intro i h1 h2
      simp [Nat.mod_one]
  have hst := run_storeCells_cells (P := P) b o (List.replicate n (.int .i64 0)) 0 w (by simpa using hc) (by simpa using hf) (by intro v hv'; rw [List.eq_of_mem_replicate hv']; rfl)
  simp only [Nat.add_zero] at hst
  obtain ⟨m, rfl⟩ : ∃ m, n = m + 1 := ⟨n - 1, by omega⟩
  simp [Builtin.clear_, run_underlying ht, hv, hzc, hst]

theorem XGoal.clr {T : Tab P} {n : Nat} {ops : List Oper} {o : Oper} {rest : List Oper} {K : St → Prop} {tl : List (Nat × AV)} {H : List AObj} (hd : (o :: rest).all (dstOk n) = true) (h : clrN T o tl H fun tl H => listN T none ops rest K tl H) :
    XGoal P T n ops (o :: rest) K (St.of tl H) :=
  ⟨fun cx ρ a w opsA Q h1 h2 hs hn => by
    obtain ⟨dst, op, ty, pos, after, guard⟩ := o
    unfold clrN at h
    simp only at h
    split at h
    · rename_i cl
      split at h
      · rename_i x t hcal hargs hats
        split at h
        · rename_i e _ _ _ id idx m hty hx
          split at h
          · rename_i l te ho hte
            obtain ⟨⟨hfit, hsz, hzr⟩, hk⟩ := h
            rw [getL_eq] at ho
            have ho : H[id]? = some (.arr false .int l) := ho
            have hrx := ev_rel hs x
            have e1 : ev (St.of tl H).t x = ev (lkp tl) x := rfl
            rw [e1, hx] at hrx
            cases hux : a.eval x <;> rw [hux] at hrx <;> cases hrx
            rename_i base cap hid hlc hc
            obtain ⟨dd, hdd, rfl⟩ := (T.ok t _ hty).und
            obtain ⟨i, z, hi, hz, _, _, hzs, _, hzc⟩ := zero_rel T hte
            have hz0 : z.cells = #[.int .i64 0] := by
              obtain ⟨v, h1, h2, _⟩ := hzc ρ 0 0 (.int .i64 0) (by rw [hzr]; rfl)
              cases h2
              rw [hsz] at hzs
              apply Array.ext
              · rw [hzs]; rfl
              · intro j h3 h4
                have : j = 0 := by have : j < 1 := h4; omega
                subst this
                rw [Array.getElem?_eq_getElem h3] at h1
                simpa using h1
            have hv : (zeroValue e).run P w = .ok z w := by simp [zeroValue, typeInfo, hi, hz]
            have hrow := arr_row hs.hs ho
            have hown := hrow.own rfl
            have hfits := hrow.fits
            rw [flat_int, List.length_map] at hfits
            obtain ⟨cal, args, ats⟩ := cl
            simp only at hcal hargs hats
            subst hcal
            have ea : args = #[x] := by cases args; simp_all
            have et : ats = #[t] := by cases ats; simp_all
            subst ea et
            have hgo : ∀ w', (Builtin.clear_ #[t] ty #[a.eval x]).run P w = .ok (.tuple #[]) w' → (execOp a.eval ⟨none, .call { callee := .builtin .clear, args := #[x], argTypes := #[t] }, ty, pos, after, none⟩).run P w = .ok (.value (.tuple #[])) w' := fun w' hw => by
              have e2 : execOp a.eval ⟨none, .call { callee := .builtin .clear, args := #[x], argTypes := #[t] }, ty, pos, after, none⟩ = (do pure (Next.value (← Builtin.clear_ #[t] ty #[a.eval x]))) := by
                rw [execOp_bi]; simp only [List.map_toArray, List.map_cons, List.map_nil]; rfl
              rw [e2]
              simp [hw]
            have fin : ∀ w', (execOp a.eval ⟨none, .call { callee := .builtin .clear, args := #[x], argTypes := #[t] }, ty, pos, after, none⟩).run P w = .ok (.value (.tuple #[])) w' → Sim cx ρ (St.of tl (setL H id (.arr false .int (copyL l idx (List.replicate m 0))))) a w' →
                wpList P opsA Q (⟨none, .call { callee := .builtin .clear, args := #[x], argTypes := #[t] }, ty, pos, after, none⟩ :: rest) a w := fun w' hrun hS' => by
              have := listP_sound (T := T) (ops := opsA) hn rest _ ρ _ w' (fun o' ho' => by rw [h1]; exact List.all_eq_true.1 hd o' (by simp [ho'])) (by rw [h2]; exact listS_none _ _ (listN_sound _ _ _ hk)) hS'
              unfold wpList
              rw [if_pos (by simp [Region.wanted])]
              refine .inl ?_
              unfold Oper.wp
              rw [hrun]
              exact this
            rcases Nat.eq_zero_or_pos m with n0 | npos
            · subst n0
              have e2 : setL H id (.arr false .int (copyL l idx (List.replicate 0 0))) = H := by
                rw [setL_eq]
                apply List.ext_getElem?
                intro j
                rw [List.getElem?_set]
                split
                · rename_i e; subst e
                  have : copyL l idx (List.replicate 0 0) = l := by simp [copyL]
                  rw [this]
                  split
                  · exact ho.symm
                  · rename_i hlt; rw [List.getElem?_eq_none (by omega)] at ho; cases ho
                · rfl
              refine fin w (hgo w ?_) (by rw [e2]; exact hs)
              rw [hux]
              cases base <;> simp [Builtin.clear_, run_underlying hdd]
            · obtain ⟨hb, hroom⟩ := hc.resolve_left (by omega)
              have hat : (⟨id, 0, idx, 1, 0⟩ : AAddr).at ρ = ⟨(ρ id 0).block, (ρ id 0).off + idx, none⟩ := by simp [AAddr.at, AAddr.cell, Place.addr]
              have hroom : idx * 1 + 0 + cap * 1 ≤ (ρ id 0).room := hroom
              have hcs : ∀ j, j < m → (w.cell? ((ρ id 0).addr (idx + j))).isSome = true ∧ w.frozen? ((ρ id 0).addr (idx + j)) = false := fun j hj => hown _ (by omega)
              have hli : idx + (List.replicate m (0 : Int)).length ≤ l.length := by simpa using hfit
              have hS2 := hs.hs.store ho (r := 0) (cs := l.map (.int .i64)) (cs' := (copyL l idx (List.replicate m 0)).map (.int .i64)) (o' := .arr false .int (copyL l idx (List.replicate m 0))) (by show some _ = _; rw [flat_int]) rfl (fun _ _ => rfl) rfl (by show some _ = _; rw [flat_int]) (fun r' hr' => by simp [AObj.row, hr']) (by simp [copyL_length _ _ _ hli])
                idx (List.replicate m (.int .i64 0)) (by rw [List.length_map, List.length_replicate]; omega) (fun j hj => by rw [List.getElem?_map, List.getElem?_map, copyL_get _ _ _ hli, if_neg (by simp at hj ⊢; omega)]) (fun j c hj hc' => by
                  rw [List.length_replicate] at hj
                  rw [List.getElem?_map, copyL_get _ _ _ hli, if_pos (by simp; omega), show idx + j - idx = j by omega] at hc'
                  obtain ⟨y, hy, rfl⟩ := Option.map_eq_some_iff.1 hc'
                  rw [List.getElem?_replicate, if_pos hj] at hy
                  cases hy
                  exact ⟨.int .i64 0, by rw [List.getElem?_replicate, if_pos hj], .int _ _, rfl⟩)
              refine fin (w.setCells (ρ id 0).block ((ρ id 0).off + idx) (List.replicate m (.int .i64 0))) (hgo _ ?_) ?_
              · rw [hux, hb, hat]
                exact clear_run hdd hv hz0 _ _ _ _ npos (fun j hj => by have := (hcs j hj).1; simpa [Place.addr, Nat.add_assoc] using this) (fun j hj => by have := (hcs j hj).2; simpa [Place.addr, Nat.add_assoc] using this)
              · rw [setL_eq]
                refine hs.reheap (by simp [St.of]) hS2 ?_ (wr_set hs.wr ho rfl fun r => by
                  by_cases e : r = 0
                  · subst e; rfl
                  · simp [AObj.row, e])
                exact hs.fr.setCells _ _ _ (hs.wr id _ 0 ho rfl rfl (by omega))
          · exact h.elim
        · exact h.elim
      · exact h.elim
    · exact h.elim⟩
/-! ### Less of a list -/
theorem flat_ints2 (l : List Int) : l.flatMap Ty.int.enc = ints .i64 l := by
  induction l with
  | nil => rfl
  | cons a r ih => rw [List.flatMap_cons, ih]; rfl
theorem HSim.cut {ρ : Ren} {H : List AObj} {w : World} (hs : HSim ρ H w) {id : Nat} {ro : Bool} {l : List Int} (hg : H[id]? = some (.arr ro .int l)) (n : Nat) : HSim ρ (H.set id (.arr ro .int (l.take n))) w := by
  have hset : ∀ (j : Nat) (o : AObj), (H.set id (.arr ro .int (l.take n)))[j]? = some o → (j = id ∧ o = .arr ro .int (l.take n)) ∨ (j ≠ id ∧ H[j]? = some o) := fun j o h => by
    rw [List.getElem?_set] at h
    split at h
    · rename_i e
      split at h
      · exact .inl ⟨e.symm, (Option.some.inj h).symm⟩
      · cases h
    · rename_i e
      exact .inr ⟨fun e2 => e e2.symm, h⟩
  have hlive : ∀ (j : Nat) (o : AObj) (r : Nat), (H.set id (.arr ro .int (l.take n)))[j]? = some o → (o.row j r).isSome = true → ∃ o0, H[j]? = some o0 ∧ o0.ro = o.ro ∧ (o0.row j r).isSome = true := fun j o r h hr => by
    rcases hset j o h with ⟨rfl, rfl⟩ | ⟨hj, h1⟩
    · refine ⟨_, hg, rfl, ?_⟩
      simp only [AObj.row] at hr ⊢
      split at hr
      · rename_i e; rw [if_pos e]; rfl
      · cases hr
    · exact ⟨o, h1, rfl, hr⟩
  refine ⟨fun j o h => ?_, fun j o r cs h hr => ?_, fun j o r j' o' r' h h' hr hr' hro hne h0 h0' => ?_⟩
  · rcases hset j o h with ⟨rfl, rfl⟩ | ⟨hj, h1⟩
    · intro x hx; rfl
    · exact hs.wf j o h1
  · rw [List.length_set]
    rcases hset j o h with ⟨rfl, rfl⟩ | ⟨hj, h1⟩
    · have e : r = 0 ∧ cs = ints .i64 (l.take n) := by
        simp only [AObj.row] at hr
        split at hr
        · rename_i e
          rw [flat_ints2] at hr
          exact ⟨e, (Option.some.inj hr).symm⟩
        · cases hr
      obtain ⟨rfl, rfl⟩ := e
      have hR := hs.row j _ 0 (ints .i64 l) hg (by simp only [AObj.row, if_true]; rw [flat_ints2])
      refine ⟨?_, hR.there, hR.own, fun k c hk => ?_⟩
      · have := hR.fits
        simp only [ints, List.length_map, List.length_take] at this ⊢
        omega
      · have e2 : ints .i64 (l.take n) = (ints .i64 l).take n := by simp [ints]
        rw [e2, List.getElem?_take] at hk
        split at hk
        · exact hR.cell k c hk
        · cases hk
    · exact hs.row j o r cs h1 hr
  · obtain ⟨p, g1, g2, g3⟩ := hlive j o r h hr
    obtain ⟨p', g1', g2', g3'⟩ := hlive j' o' r' h' hr'
    exact hs.apart j p r j' p' r' g1 g1' g3 g3' (by rw [g2]; exact hro) hne h0 h0'
theorem AWP.cut {m n0 : Nat} {c : Code} {Q : Exit → St → Prop} {tl : List (Nat × AV)} {H : List AObj} (id k : Nat) {l : List Int} (hg : getL H id = some (.arr false .int l)) (h : AWP P m n0 c Q (St.of tl (setL H id (.arr false .int (l.take k))))) : AWP P m n0 c Q (St.of tl H) :=
  ⟨fun cx ρ a w h1 h2 hs => h.run cx ρ a w h1 h2 (by
    rw [getL_eq] at hg
    rw [setL_eq]
    refine hs.reheap (by simp [St.of]) (hs.hs.cut hg k) hs.fr (wr_set hs.wr hg rfl fun r => ?_)
    by_cases e : r = 0
    · subst e; rfl
    · simp [AObj.row, e])⟩
/-- The end, with less of a list. -/
theorem AWP.retCut {m n0 : Nat} {Q : Exit → St → Prop} {tl : List (Nat × AV)} {H : List AObj} (id k : Nat) {l : List Int} (hg : getL H id = some (.arr false .int l)) (h : Q .ret (St.of tl (setL H id (.arr false .int (l.take k))))) : AWP P m n0 .ret Q (St.of tl H) :=
  AWP.cut id k hg (AWP.ret h)

theorem sub_all' {l : List Int} {n : Nat} (h : n = l.length) : sub l 0 n = l := by subst h; exact sub_all _
/-! ### What is kept -/
def keepN (p : Int → Bool) (l : List Int) (j : Nat) : List Int := (l.take j).filter fun x => !p x
def midD (p : Int → Bool) (l : List Int) (j : Nat) : List Int := keepN p l j ++ l.drop (keepN p l j).length
section
variable {p : Int → Bool} {l : List Int} {j : Nat}
theorem keepN_le : (keepN p l j).length ≤ j := by
  have h1 := List.length_filter_le (fun x => !p x) (l.take j)
  have h2 := List.length_take_le j l
  unfold keepN; omega
theorem keepN_le2 : (keepN p l j).length ≤ l.length := by
  have h1 := List.length_filter_le (fun x => !p x) (l.take j)
  have h2 : (l.take j).length ≤ l.length := by rw [List.length_take]; omega
  unfold keepN; omega
theorem midD_length : (midD p l j).length = l.length := by
  have := keepN_le2 (p := p) (l := l) (j := j)
  simp [midD]; omega
theorem midD_at (hj : j < l.length) : (midD p l j).getD j 0 = l.getD j 0 := by
  have := keepN_le (p := p) (l := l) (j := j)
  simp only [midD, List.getD_eq_getElem?_getD]
  rw [List.getElem?_append_right this, List.getElem?_drop, show (keepN p l j).length + (j - (keepN p l j).length) = j by omega]
theorem keepN_yes (hj : j < l.length) (h : p (l.getD j 0) = true) : keepN p l (j + 1) = keepN p l j := by
  rw [getD_get hj] at h
  rw [keepN, List.take_add_one, List.getElem?_eq_getElem hj, Option.toList_some, List.filter_append, List.filter_cons, h]
  simp [keepN]
theorem keepN_no (hj : j < l.length) (h : p (l.getD j 0) = false) : keepN p l (j + 1) = keepN p l j ++ [l.getD j 0] := by
  rw [getD_get hj] at h ⊢
  rw [keepN, List.take_add_one, List.getElem?_eq_getElem hj, Option.toList_some, List.filter_append, List.filter_cons, h]
  simp [keepN]
theorem midD_yes (hj : j < l.length) (h : p (l.getD j 0) = true) : midD p l (j + 1) = midD p l j := by
  rw [midD, keepN_yes hj h, midD]
theorem midD_no (hj : j < l.length) (h : p (l.getD j 0) = false) : midD p l (j + 1) = (midD p l j).set (keepN p l j).length (l.getD j 0) := by
  have hk := keepN_le (p := p) (l := l) (j := j)
  rw [midD, keepN_no hj h, midD, List.set_append_right _ _ (Nat.le_refl _), Nat.sub_self, List.length_append, List.append_assoc]
  congr 1
  rw [show l.drop (keepN p l j).length = l[(keepN p l j).length] :: l.drop ((keepN p l j).length + 1) from List.drop_eq_getElem_cons (by omega), List.set_cons_zero]
  rfl
theorem keepN_start (hj : j < l.length) (hb : ∀ i, i < j → p (l.getD i 0) = false) : keepN p l j = l.take j := by
  unfold keepN
  rw [List.filter_eq_self]
  intro x hx
  obtain ⟨i, hi, rfl⟩ := List.getElem_of_mem hx
  rw [List.length_take] at hi
  have := hb i (by omega)
  rw [getD_get (by omega)] at this
  rw [List.getElem_take, this]; rfl
theorem midD_start (hj : j < l.length) (hb : ∀ i, i < j → p (l.getD i 0) = false) (h : p (l.getD j 0) = true) : (keepN p l (j + 1)).length = j ∧ midD p l (j + 1) = l := by
  have e := keepN_start hj hb
  rw [midD_yes hj h, keepN_yes hj h, midD, e]
  have : (l.take j).length = j := by rw [List.length_take]; omega
  rw [this]
  exact ⟨rfl, List.take_append_drop _ _⟩
theorem keepN_all (hj : l.length ≤ j) : keepN p l j = l.filter fun x => !p x := by rw [keepN, List.take_of_length_le hj]
theorem midD_cut {x : List Int} (hx : (keepN p l j).length + x.length ≤ l.length) : (copyL (midD p l j) (keepN p l j).length x).take (keepN p l j).length = keepN p l j := by
  apply List.ext_getElem?
  intro i
  rw [List.getElem?_take]
  split
  · rename_i hi
    rw [copyL_get _ _ _ (by rw [midD_length]; exact hx), if_neg (by omega), midD, List.getElem?_append_left hi]
  · rename_i hi
    rw [List.getElem?_eq_none (by omega)]
end
theorem idxF_at {p : Int → Bool} {l : List Int} (h : ¬ idxF p l = -1) : ∃ k : Nat, idxF p l = k ∧ k < l.length ∧ (∀ i, i < k → p (l.getD i 0) = false) ∧ p (l.getD k 0) = true := by
  unfold idxF at *
  cases e : l.findIdx? p with
  | none => rw [e] at h; exact absurd rfl h
  | some k =>
    obtain ⟨hk, hp, hb⟩ := List.findIdx?_eq_some_iff_getElem.1 e
    exact ⟨k, rfl, hk, fun i hi => by rw [getD_get (by omega)]; simpa using hb i hi, by rw [getD_get hk]; exact hp⟩
theorem idxF_no {p : Int → Bool} {l : List Int} (h : idxF p l = -1) : (l.filter fun x => !p x) = l := by
  rw [List.filter_eq_self]
  intro x hx
  unfold idxF at h
  cases e : l.findIdx? p with
  | none =>
    rw [List.findIdx?_eq_none_iff] at e
    rw [e x hx]; rfl
  | some k => rw [e] at h; simp only [] at h; omega
theorem sub_snoc' {s : List Int} {x : Int} {n : Nat} (h : n = s.length) : sub s 0 n ++ sub [x] 0 1 = s ++ [x] := by
  rw [sub_all' h]; rfl
theorem Ret.ssb (l : List Nat) {n0 : Nat} {H H1 : List AObj} {a a' : AAddr} {w : AV} {v v1 v' v1' : Nat} {b b1 : Bool} (hw : w = .tuple [.slice (a.ren (nameOf l)) v, .slice (a'.ren (nameOf l)) v', .bool b]) (hv : v = v1) (hv' : v' = v1') (hb : b = b1) (hh : FitsL (nameOf l) H1.length H l H1)
    (hn : (Nat.ble n0 H1.length && idB n0 0 l && Nat.beq l.length H1.length && injB l H1 && allWr (dropL n0 H1) && (AV.tuple [.slice a v1, .slice a' v1', .bool b1]).bd H1.length) = true) : Ret n0 H w (Is (.tuple [.slice a v1, .slice a' v1', .bool b1]) H1) :=
  Ret.is l (by rw [hw, hv, hv', hb]; rfl) hh hn
theorem Ret.ss (l : List Nat) {n0 : Nat} {H H1 : List AObj} {a a' : AAddr} {w : AV} {v v1 v' v1' : Nat} (hw : w = .tuple [.slice (a.ren (nameOf l)) v, .slice (a'.ren (nameOf l)) v']) (hv : v = v1) (hv' : v' = v1') (hh : FitsL (nameOf l) H1.length H l H1)
    (hn : (Nat.ble n0 H1.length && idB n0 0 l && Nat.beq l.length H1.length && injB l H1 && allWr (dropL n0 H1) && (AV.tuple [.slice a v1, .slice a' v1']).bd H1.length) = true) : Ret n0 H w (Is (.tuple [.slice a v1, .slice a' v1']) H1) :=
  Ret.is l (by rw [hw, hv, hv']; rfl) hh hn
end YtofjbgpaofcpjaaAM
