/- A region whose orders are open, but for its last operations. -/
import Derived.Test.YtofjbgpaofcpjaaAmDrawsY
set_option linter.unusedVariables false
set_option linter.unusedSimpArgs false
namespace YtofjbgpaofcpjaaAM
open Go
variable {P : Program}
/-- From number c on each operation stands behind all that stand before it. -/
def ordOkL (c : Nat) (free : Bool) (ops : List Oper) (masks : List Nat) : Bool :=
  (List.range ops.length).all fun j => (List.range j).all fun i =>
    match ops[i]?, ops[j]? with
    | some x, some y => (Nat.blt j c && noConf free ops x y) || (masks.getD j 0).testBit i
    | _, _ => true
def drawOkL (c : Nat) (free : Bool) (n : Nat) (ops : List Oper) : Bool := ops.all (dstOk n) && edgesOk ops && ordOkL c free ops (befs ops [])

section
variable {T : Tab P} {cx : Cx} {Q : Exit → Act → World → Prop} {K : St → Prop} {ops : Array Oper} {ids : Option (List Nat)}
def lo (c : Nat) (l : List Nat) : List Nat := l.filter fun i => decide (i < c)
def hi (c : Nat) (l : List Nat) : List Nat := l.filter fun i => !decide (i < c)
theorem any_soundL {md : Region.Mode} (c : Nat) (hsome : ∀ listed : Array Bool, listed.size = ops.size → Region.ready md ops listed = [] → unl ops listed = []) (hchk : drawOkL c ids.isSome cx.n ops.toList = true) (hn : ∀ st' ρ' a' w', K st' → Sim cx ρ' st' a' w' → Q .normal a' w') :
    ∀ (fuel : Nat) (listed : Array Bool) (st : St) (ρ : Ren) (a : Act) (w : World), listed.size = ops.size → (unl ops listed).length ≤ fuel →
      (∀ (k : Nat) (o : Oper) (e : Edge), listed.getD k false = true → ops[k]? = some o → e ∈ o.after.toList → Region.binds .any e = true → listed.getD e.on false = true) →
      listS T ids ops.toList ((lo c (unl ops listed)).filterMap (ops[·]?)) (listS T none ops.toList ((hi c (unl ops listed)).filterMap (ops[·]?)) K) st → Sim cx ρ st a w → wpAny P md ops Q fuel listed a w := by
  simp only [drawOkL, Bool.and_eq_true] at hchk
  obtain ⟨⟨hd, he⟩, ho⟩ := hchk
  have hedge : ∀ (j : Nat) (o : Oper) (e : Edge), ops[j]? = some o → e ∈ o.after.toList → Region.binds .any e = true → e.on < j := fun j o e hj hm hb => by
    have hlt : j < ops.size := by have := (Array.getElem?_eq_some_iff.1 hj).1; exact this
    have := List.all_eq_true.1 he j (by simpa using hlt)
    rw [Array.getElem?_toList, hj] at this
    have := List.all_eq_true.1 this e hm
    rw [hb] at this
    simpa [Nat.blt_eq] using this
  have hord : ∀ (i j : Nat) (x y : Oper), i < j → ops[i]? = some x → ops[j]? = some y → (j < c ∧ noConf ids.isSome ops.toList x y = true) ∨ Anc ops.toList i j := fun i j x y hij hx hy => by
    have hlt : j < ops.size := (Array.getElem?_eq_some_iff.1 hy).1
    have := List.all_eq_true.1 (List.all_eq_true.1 ho j (by simpa using hlt)) i (by simpa using hij)
    simp only [Array.getElem?_toList, hx, hy, Bool.or_eq_true, Bool.and_eq_true, Nat.blt_eq] at this
    rcases this with h | h
    · exact .inl h
    · right
      cases hq : (befs ops.toList [])[j]? with
      | none => rw [List.getD_eq_getElem?_getD, hq] at h; simp at h
      | some m =>
        rw [List.getD_eq_getElem?_getD, hq] at h
        exact befs_spec ops.toList [] (fun k => by simp) (fun k m h => by simp at h) j m hq i h
  have hanc : ∀ (listed : Array Bool), (∀ (k : Nat) (o : Oper) (e : Edge), listed.getD k false = true → ops[k]? = some o → e ∈ o.after.toList → Region.binds .any e = true → listed.getD e.on false = true) →
      ∀ i j, Anc ops.toList i j → (∀ (o : Oper) (e : Edge), ops[j]? = some o → e ∈ o.after.toList → Region.binds .any e = true → listed.getD e.on false = true) → listed.getD i false = true := fun listed hcl i j h => by
    induction h with
    | one ho he hb hj => intro h0; rw [← hj]; exact h0 _ _ (by rw [← Array.getElem?_toList]; exact ho) he hb
    | more ho he hb h ih =>
      intro h0
      have h1 := h0 _ _ (by rw [← Array.getElem?_toList]; exact ho) he hb
      exact ih fun o e ho' he' hb' => hcl _ o e h1 ho' he' hb'
  have hgd : ∀ (listed : Array Bool) (k : Nat), listed.getD k true = false → listed.getD k false = false := fun listed k h => by
    simp only [Array.getD_eq_getD_getElem?] at h ⊢
    cases hq : listed[k]? with
    | none => rfl
    | some b => rw [hq] at h; simpa using h
  have hready : ∀ (listed : Array Bool) (i : Nat), i ∈ Region.ready md ops listed ↔ (i ∈ unl ops listed ∧ ∃ o, ops[i]? = some o ∧ ∀ e ∈ o.after.toList, Region.binds md e = true → listed.getD e.on false = true) := fun listed i => by
    simp only [Region.ready, List.mem_filter, List.mem_range, Bool.and_eq_true, Bool.not_eq_true', mem_unl]
    constructor
    · rintro ⟨h1, h2, h3⟩
      cases hq : ops[i]? with
      | none => rw [hq] at h3; cases h3
      | some o =>
        rw [hq] at h3
        refine ⟨⟨h1, h2⟩, o, rfl, fun e he hb => ?_⟩
        simp only [Option.map_some, Option.getD_some, ← Array.all_toList] at h3
        have := List.all_eq_true.1 h3 e he
        rw [hb] at this; simpa using this
    · rintro ⟨⟨h1, h2⟩, o, hq, h3⟩
      refine ⟨h1, h2, ?_⟩
      rw [hq]
      simp only [Option.map_some, Option.getD_some, ← Array.all_toList]
      refine List.all_eq_true.2 fun e he => ?_
      cases hb : Region.binds md e with
      | false => rfl
      | true => rw [h3 e he hb]; rfl
  intro fuel
  induction fuel with
  | zero =>
    intro listed st ρ a w hsz hfuel hcl hK hS
    have hu : unl ops listed = [] := List.eq_nil_of_length_eq_zero (by omega)
    refine ⟨?_, ?_⟩
    · cases hr : Region.ready md ops listed with
      | nil => rfl
      | cons i rest =>
        have := ((hready listed i).1 (by rw [hr]; simp)).1
        rw [hu] at this; cases this
    · rw [hu] at hK
      exact hn st ρ a w hK hS
  | succ fuel ih =>
    intro listed st ρ a w hsz hfuel hcl hK hS
    refine ⟨fun hr => ?_, fun i hi' => ?_⟩
    · rw [hsome listed hsz hr] at hK
      exact hn st ρ a w hK hS
    · obtain ⟨hiu, o, ho, haft0⟩ := (hready listed i).1 hi'
      have haft : ∀ e ∈ o.after.toList, Region.binds .any e = true → listed.getD e.on false = true := fun e he hb => haft0 e he (binds_any hb md)
      obtain ⟨pre, post, h1, h2, h3⟩ := unl_set hsz hiu
      have hnoanc : ∀ j ∈ pre, ¬ Anc ops.toList j i := fun j hj h => by
        have hju : j ∈ unl ops listed := by rw [h1]; simp [hj]
        have := hanc listed hcl j i h (fun o' e ho' he' hb' => by rw [ho] at ho'; cases ho'; exact haft e he' hb')
        rw [hgd listed j (mem_unl.1 hju).2] at this; cases this
      have hpre : ∀ j ∈ pre, ∃ y, ops[j]? = some y ∧ (i < c ∧ noConf ids.isSome ops.toList y o = true) := fun j hj => by
        have hju : j ∈ unl ops listed := by rw [h1]; simp [hj]
        have hjl := (mem_unl.1 hju).1
        refine ⟨ops[j], Array.getElem?_eq_getElem hjl, ?_⟩
        rcases hord j i ops[j] o (h3 j hj) (Array.getElem?_eq_getElem hjl) ho with h | h
        · exact h
        · exact absurd h (hnoanc j hj)
      have hdst : dstOk cx.n o = true := List.all_eq_true.1 hd o (by
        have := List.mem_of_getElem? (l := ops.toList) (i := i) (a := o) (by rw [Array.getElem?_toList]; exact ho); exact this)
      have hlen : (unl ops (listed.setIfInBounds i true)).length ≤ fuel := by
        rw [h2]; rw [h1] at hfuel; simp only [List.length_append, List.length_cons] at hfuel ⊢; omega
      have hcl2 : ∀ (k : Nat) (o : Oper) (e : Edge), (listed.setIfInBounds i true).getD k false = true → ops[k]? = some o → e ∈ o.after.toList → Region.binds .any e = true → (listed.setIfInBounds i true).getD e.on false = true := by
        intro k o' e hk' ho' he' hb'
        by_cases hki : k = i
        · subst hki
          rw [ho] at ho'; cases ho'
          have := haft e he' hb'
          have hlt := hedge k _ e ho he' hb'
          simp only [Array.getD_eq_getD_getElem?, Array.getElem?_setIfInBounds] at this ⊢
          rw [if_neg (by omega)]; exact this
        · have hk0 : listed.getD k false = true := by
            simp only [Array.getD_eq_getD_getElem?, Array.getElem?_setIfInBounds] at hk' ⊢
            rw [if_neg (Ne.symm hki)] at hk'; exact hk'
          have := hcl k o' e hk0 ho' he' hb'
          simp only [Array.getD_eq_getD_getElem?, Array.getElem?_setIfInBounds] at this ⊢
          by_cases he2 : i = e.on
          · rw [if_pos he2]
            have : i < listed.size := by rw [hsz]; exact (mem_unl.1 hiu).1
            rw [if_pos this]; rfl
          · rw [if_neg he2]; exact this
      unfold wpOp
      rw [ho]
      simp only
      by_cases hic : i < c
      · have e1 : lo c (unl ops listed) = lo c pre ++ i :: lo c post := by rw [h1]; unfold lo; rw [List.filter_append, List.filter_cons, decide_eq_true hic]; rfl
        have e2 : hi c (unl ops listed) = hi c pre ++ hi c post := by rw [h1]; unfold hi; rw [List.filter_append, List.filter_cons, decide_eq_true hic]; rfl
        rw [e1, List.filterMap_append, List.filterMap_cons, ho] at hK
        have hfront := to_front _ _ _ (fun y hy => by
          obtain ⟨j, hj, hjy⟩ := List.mem_filterMap.1 hy
          obtain ⟨y', hy', hc'⟩ := hpre j (List.mem_filter.1 hj).1
          rw [hy'] at hjy; cases hjy
          exact hc'.2) hK
        refine gstep_sound hS hdst hfront.k Q _ (fun st' ρ' a' w' hk hs => ?_)
        refine ih (listed.setIfInBounds i true) st' ρ' a' w' (by simpa using hsz) hlen hcl2 ?_ hs
        have e3 : lo c (pre ++ post) = lo c pre ++ lo c post := by unfold lo; rw [List.filter_append]
        have e4 : hi c (pre ++ post) = hi c pre ++ hi c post := by unfold hi; rw [List.filter_append]
        rw [h2, e3, e4, List.filterMap_append, ← e2]
        exact hk.k
      · have hp0 : pre = [] := by
          cases pre with
          | nil => rfl
          | cons j r => exact absurd (hpre j (by simp)).choose_spec.2.1 hic
        subst hp0
        rw [List.nil_append] at h1 h2
        have hpost : ∀ j ∈ post, i < j := fun j hj => by
          have hs : (unl ops listed).Pairwise (· < ·) := by unfold unl; exact List.pairwise_lt_range.filter _
          rw [h1] at hs
          exact (List.pairwise_cons.1 hs).1 j hj
        have e1 : lo c (unl ops listed) = [] := by
          rw [h1]; unfold lo
          rw [List.filter_eq_nil_iff]
          intro j hj
          rcases List.mem_cons.1 hj with rfl | hj
          · simpa using hic
          · have := hpost j hj; simp; omega
        have e2 : hi c (unl ops listed) = i :: post := by
          rw [h1]; unfold hi
          rw [List.filter_eq_self]
          intro j hj
          rcases List.mem_cons.1 hj with rfl | hj
          · simp [hic]
          · have := hpost j hj; simp; omega
        have e3 : lo c post = [] := by
          unfold lo
          rw [List.filter_eq_nil_iff]
          intro j hj
          have := hpost j hj; simp; omega
        have e4 : hi c post = post := by
          unfold hi
          rw [List.filter_eq_self]
          intro j hj
          have := hpost j hj; simp; omega
        rw [e1, e2, List.filterMap_cons, ho] at hK
        have hfront : gstepS T none ops.toList o (listS T none ops.toList (post.filterMap (ops[·]?)) K) st := hK
        refine gstep_sound hS hdst hfront.k Q _ (fun st' ρ' a' w' hk hs => ?_)
        refine ih (listed.setIfInBounds i true) st' ρ' a' w' (by simpa using hsz) hlen hcl2 ?_ hs
        rw [h2, e3, e4]
        exact hk.k
end
theorem takeL_eq {α : Type} : ∀ (n : Nat) (l : List α), takeL n l = l.take n
  | 0, l => by cases l <;> rfl
  | n + 1, [] => rfl
  | n + 1, a :: l => by simp only [takeL, List.take_succ_cons]; rw [takeL_eq n l]
theorem dropL_eq {α : Type} : ∀ (n : Nat) (l : List α), dropL n l = l.drop n
  | 0, l => by cases l <;> rfl
  | n + 1, [] => rfl
  | n + 1, a :: l => by simp only [dropL, List.drop_succ_cons]; rw [dropL_eq n l]
theorem lo_hi (ops : Array Oper) (c : Nat) : ∀ m, m ≤ ops.size → (lo c (List.range m)).filterMap (ops[·]?) = (ops.toList.take m).take c ∧ (hi c (List.range m)).filterMap (ops[·]?) = (ops.toList.take m).drop c
  | 0, _ => by simp [lo, hi]
  | m + 1, hm => by
    obtain ⟨h1, h2⟩ := lo_hi ops c m (by omega)
    have hx : ops[m]? = some ops[m] := by simp [show m < ops.size by omega]
    have ht : ops.toList.take (m + 1) = ops.toList.take m ++ [ops[m]] := by rw [List.take_add_one, Array.getElem?_toList, hx]; rfl
    have hl : (ops.toList.take m).length = m := by simp; omega
    have e1 : lo c (List.range (m + 1)) = lo c (List.range m) ++ lo c [m] := by unfold lo; rw [List.range_succ, List.filter_append]
    have e2 : hi c (List.range (m + 1)) = hi c (List.range m) ++ hi c [m] := by unfold hi; rw [List.range_succ, List.filter_append]
    have ho : [m].filterMap (ops[·]?) = [ops[m]] := by simp [hx]
    rw [e1, e2, ht, List.filterMap_append, List.filterMap_append, h1, h2, List.take_append, List.drop_append, hl]
    by_cases hc : m < c
    · have a1 : lo c [m] = [m] := by simp [lo, hc]
      have a2 : hi c [m] = [] := by simp [hi, hc]
      rw [a1, a2, ho]
      have c1 : [ops[m]].take (c - m) = [ops[m]] := List.take_of_length_le (by simp; omega)
      have c2 : [ops[m]].drop (c - m) = [] := List.drop_of_length_le (by simp; omega)
      rw [c1, c2]
      exact ⟨rfl, rfl⟩
    · have a1 : lo c [m] = [] := by simp [lo, hc]
      have a2 : hi c [m] = [m] := by simp [hi, hc]
      have c0 : c - m = 0 := by omega
      rw [a1, a2, ho, c0]
      exact ⟨rfl, rfl⟩
/-- What is left of a region: its last operations. -/
structure LGoal (T : Tab P) (ops rest : List Oper) (K : St → Prop) (st : St) : Prop where
  run : listS T none ops rest K st
theorem LGoal.list {T : Tab P} {ops rest : List Oper} {K : St → Prop} {tl : List (Nat × AV)} {H : List AObj} (h : listN T none ops rest K tl H) : LGoal T ops rest K (St.of tl H) := ⟨listN_sound _ _ _ h⟩
theorem listS_mono {T : Tab P} {ids : Option (List Nat)} {ops : List Oper} {K K' : St → Prop} (hi : ∀ s, K s → K' s) : ∀ (l : List Oper) (st : St), listS T ids ops l K st → listS T ids ops l K' st
  | [], st, h => hi st h
  | o :: r, st, h => gstepS_mono (fun s hs => listS_mono hi r s hs) h
theorem AWP.drwL {n n0 : Nat} {Q : Exit → St → Prop} {tl : List (Nat × AV)} {H : List AObj} (T : Tab P) (c : Nat) (ids : Option (List Nat)) {id : Nat} {ops : Array Oper} (hm : (P.follows .mixedOrders || !Region.departs ops) = true) (hp : progGo .any ops.toList ops.toList.length [] = true) (hd : drawOkL c ids.isSome n ops.toList = true)
    (h : listN T ids ops.toList (takeL c ops.toList) (LGoal T ops.toList (dropL c ops.toList) (Q .normal)) tl H) : AWP P n n0 (.region id ops true) Q (St.of tl H) :=
  ⟨fun cx ρ a w h1 h2 hs => wp_region_draw fun t => by
    have main : ∀ (md : Region.Mode) (t : Nat), progGo md ops.toList ops.toList.length [] = true → wpOps P ops (fun e a' w' => ∃ st' ρ', Q e st' ∧ Sim cx ρ' st' a' w') (Region.linearise md ops t) a w.drew := fun md t hp => by
      refine wpAny_sound ops.size t _ a _ (any_soundL (T := T) (ids := ids) (K := Q .normal) (cx := cx) c (fun listed hsz hr => progGo_spec hsz hr _ [] (by simp) hp) (by rw [h1]; exact hd) (fun st' ρ' a' w' hk hs' => ⟨st', ρ', hk, hs'⟩) ops.size (Array.replicate ops.size false) _ ρ a _ (by simp) ?_ ?_ ?_ hs.drew)
      · exact Nat.le_trans (List.length_filter_le _ _) (by simp)
      · intro k o e hk
        simp only [Array.getD_eq_getD_getElem?, Array.getElem?_replicate] at hk
        split at hk <;> simp at hk
      · have hu : unl ops (Array.replicate ops.size false) = List.range ops.size := by
          unfold unl
          rw [List.filter_eq_self]
          intro i hi
          have : i < ops.size := by simpa using hi
          simp [Array.getD_eq_getD_getElem?, this]
        have et : ops.toList.take ops.size = ops.toList := List.take_of_length_le (by simp)
        rw [hu, (lo_hi ops c ops.size (Nat.le_refl _)).1, (lo_hi ops c ops.size (Nat.le_refl _)).2, et]
        have := listN_sound _ _ _ h
        rw [takeL_eq, dropL_eq] at this
        exact listS_mono (fun s hs => hs.run) _ _ this
    unfold Region.schedule
    split
    · exact main .any t hp
    · rename_i hq
      have hq : (P.follows .mixedOrders || !Region.departs ops) = false := by simpa using hq
      rw [hm] at hq; cases hq⟩
end YtofjbgpaofcpjaaAM
