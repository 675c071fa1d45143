/- Contracts of functions of this seat. -/
import Derived.Test.YtofjbgpaofcpjaaAmTabPairs
import Derived.Test.YtofjbgpaofcpjaaAmModels
import Derived.Test.YtofjbgpaofcpjaaAmPairs12
set_option linter.unusedVariables false
set_option linter.unusedSimpArgs false
set_option maxRecDepth 100000
set_option maxHeartbeats 4000000
namespace YtofjbgpaofcpjaaAM
open Go Go.Proofs

section
variable {n m : Int} {ll : List (List Int)} {mt : List Int}
theorem isMatch_good (h : isMatch n m ll mt = true) : goodP n m ll = true := (isMatch_len h).1
theorem im_yes (h : imOk n m ll mt = true) : isMatch n m ll mt = true ∧ impB ll mt = true := by
  unfold imOk at h
  simp only [Bool.and_eq_true] at h
  exact h
theorem imL_yes (h : imOk n m ll mt = true) : imL n m ll mt = impO ll mt := by unfold imL; rw [if_pos h]
theorem imL_no (h : imOk n m ll mt = false) : imL n m ll mt = [] := by unfold imL; rw [if_neg (by rw [h]; simp)]
theorem im_more (h : imOk n m ll mt = true) : More ll mt (impO ll mt) := imp_more (goodP_wish (isMatch_good (im_yes h).1)) (isMatch_mt (im_yes h).1) (im_yes h).2
theorem im_is (h : imOk n m ll mt = true) : isMatch n m ll (impO ll mt) = true := mt_isMatch (isMatch_good (im_yes h).1) (by rw [(im_more h).len]; exact (isMatch_len (im_yes h).1).2) (im_more h).ok
theorem im_prs (h : imOk n m ll mt = true) : prs (impO ll mt) = prs mt + 1 := by
  have hw := goodP_wish (isMatch_good (im_yes h).1)
  have h1 := prs_frees mt (mt_low hw (isMatch_mt (im_yes h).1))
  have h2 := prs_frees (impO ll mt) (mt_low hw (im_more h).ok)
  have h3 := (im_more h).one
  have h4 := (im_more h).len
  omega
theorem im_keep (h : imOk n m ll mt = true) {k : Nat} (hk : k < mt.length) (h1 : 0 ≤ mt.getD k 0) : 0 ≤ (impO ll mt).getD k 0 := by
  have hw := goodP_wish (isMatch_good (im_yes h).1)
  have h2 := (im_more h).keep k (by omega)
  have h4 := (im_more h).len
  have h3 := mt_low hw (im_more h).ok ((impO ll mt).getD k 0) (at_mem (by omega))
  omega
theorem im_len (h : imOk n m ll mt = true) : (impO ll mt).length = mt.length ∧ mt.length ≤ 8 := by
  have h1 := (isMatch_len (im_yes h).1).2
  have h2 := goodP_len (isMatch_good (im_yes h).1)
  exact ⟨(im_more h).len, by omega⟩
theorem shB_good (h : shB n m ll = true) : goodP n m ll = true := by unfold shB at h; simp only [Bool.and_eq_true] at h; exact h.1
theorem shL_no (h : shB n m ll = false) : shL n m ll = [] := by
  unfold shL
  split
  · rename_i hg
    unfold shB at h
    rw [hg, Bool.true_and, decide_eq_false_iff_not] at h
    have e : (rcQ n m ll).1 = [] := List.eq_nil_of_length_eq_zero (by omega)
    rw [e]; rfl
  · rfl
theorem shL_at (h : shB n m ll = true) {k : Nat} (hk : k < (shL n m ll).length) : 0 ≤ (shL n m ll).getD k 0 ∧ ((shL n m ll).getD k 0).toNat < ll.length := by
  have hg := shB_good h
  have hl := goodP_len hg
  have hm : (shL n m ll).getD k 0 ∈ shL n m ll := at_mem hk
  have e : shL n m ll = sortI (rcQ n m ll).1 := by unfold shL; rw [if_pos hg]
  rw [e] at hm ⊢
  have := (rcQ_inv hg).r1 _ (sortI_mem.1 hm)
  omega
def WantOk (n m : Int) (ll : List (List Int)) (w : List Int) : Prop := w.Nodup ∧ ∀ x ∈ w, ∃ i ∈ shL n m ll, x ∈ ll.getD i.toNat []
theorem WantOk.nil : WantOk n m ll [] := ⟨List.nodup_nil, fun x hx => by cases hx⟩
theorem WantOk.le (h : shB n m ll = true) {w : List Int} (hw : WantOk n m ll w) : w.length < (shL n m ll).length := hall h hw.1 hw.2
theorem WantOk.add {w : List Int} (hw : WantOk n m ll w) {k j : Nat} (hk : k < (shL n m ll).length) (hj : j < (ll.getD ((shL n m ll).getD k 0).toNat []).length) (hx : hasB w ((ll.getD ((shL n m ll).getD k 0).toNat []).getD j 0) = false) : WantOk n m ll (w ++ [(ll.getD ((shL n m ll).getD k 0).toNat []).getD j 0]) := by
  refine ⟨nodup_snoc hw.1 (hasB_false.1 hx), fun x hx => ?_⟩
  rcases List.mem_append.1 hx with hx | hx
  · exact hw.2 x hx
  · rw [List.mem_singleton] at hx
    subst hx
    exact ⟨_, at_mem hk, at_mem hj⟩
theorem isCover_good {a b : List Int} (h : isCover n m ll a b = true) : goodP n m ll = true := by
  have h2 := isCover_ok h
  unfold coverOk at h2
  simp only [Bool.and_eq_true] at h2
  exact h2.1.1
theorem cov_le {a b : List Int} (h : isCover n m ll a b = true) : prs (bestM' ll n.toNat) ≤ a.length + b.length := by
  have hg := isCover_good h
  have he := pair_end hg
  have hl := goodP_len hg
  refine match_le_cover he.ok fun i hi => ?_
  unfold isCover coverB at h
  simp only [Bool.and_eq_true, List.all_eq_true, List.mem_range] at h
  have h1 := h.2 i (by have := he.len; omega)
  simp only [coverAt, Bool.or_eq_true, Bool.not_eq_true', List.any_eq_false] at h1
  rcases h1 with h1 | h1
  · exact .inl (hasB_iff.1 h1)
  · exact .inr fun w hw => by
      cases hb : hasB b w with
      | true => exact hasB_iff.1 hb
      | false => exact absurd (by simp [hb]) (h1 w hw)
theorem sub_app9 (a : List Int) (x : Int) : sub a 0 a.length ++ sub [x] 0 1 = a ++ [x] := by simp [sub]
end
theorem ACall.useEx5 {P : Program} (l : List Nat) {f : FuncId} {args0 args : List AV} {Hs H : List AObj} {α β γ δ ε : Type} {v : α × β × γ × δ × ε → AV} {H1 : α × β × γ × δ × ε → List AObj} {p : α × β × γ × δ × ε → Prop} {K : AV → List AObj → Prop} (h : ACall P f args0 Hs (Ex v H1 p)) (ha : AV.renL (nameOf l) args0 = args) (hh : FitsL (nameOf l) Hs.length H l Hs)
    (hn : (Nat.beq l.length Hs.length && injB l Hs && ltAll H.length l && AV.bdL Hs.length args0) = true)
    (hK : ∀ (x : α) (y : β) (z : γ) (u : δ) (t : ε), p (x, y, z, u, t) → K ((v (x, y, z, u, t)).ren (extN (nameOf l) Hs.length H.length)) (mergeA (extN (nameOf l) Hs.length H.length) 0 Hs (H1 (x, y, z, u, t)) H)) : ACall P f args H K :=
  h.useEx l ha hh hn fun i hp => hK i.1 i.2.1 i.2.2.1 i.2.2.2.1 i.2.2.2.2 hp
attribute [local irreducible] NextOk PickOk OneOk AmongOk foldN askR askN maskL impB impO bestN freeN stQ rowQ qN inQ sortI sortN goodP isMatch matchOk matchB isCover coverOk coverB tryA reachQ bestM' selN rangeI shB shL coA coR imL imOk maL prs prsN WantOk

theorem implImT_call (n m : Int) (ll : List (List Int)) (hr : SmallR ll) (mt : List Int) (h : imOk n m ll mt = true) (hm : mt.length ≤ 1048576) : ACall Try.prog 24 [.agg [.int .i64 n, .int .i64 m, .slice ⟨0, 0, 0, 1, 0⟩ ll.length], .slice ⟨1, 0, 0, 1, 0⟩ mt.length] [.rows true ll, .arr true .int mt] (Is (.tuple [.slice ⟨2, 0, 0, 1, 0⟩ mt.length, .bool true]) [.rows true ll, .arr true .int mt, .arr false .int (impO ll mt)]) := by
  have h0 := implImproveMatch_call n m ll mt hr hm
  rw [imL_yes h, h, (im_more h).len] at h0
  exact h0

theorem implImF_call (n m : Int) (ll : List (List Int)) (hr : SmallR ll) (mt : List Int) (h : imOk n m ll mt = false) (hm : mt.length ≤ 1048576) : ACall Try.prog 24 [.agg [.int .i64 n, .int .i64 m, .slice ⟨0, 0, 0, 1, 0⟩ ll.length], .slice ⟨1, 0, 0, 1, 0⟩ mt.length] [.rows true ll, .arr true .int mt] (Is (.tuple [.slice ⟨2, 0, 0, 1, 0⟩ 0, .bool false]) [.rows true ll, .arr true .int mt, .arr false .int ([])]) := by
  have h0 := implImproveMatch_call n m ll mt hr hm
  rw [imL_no h, h] at h0
  exact h0

theorem implIsMT_call (n m : Int) (ll : List (List Int)) (hr : SmallR ll) (mt : List Int) (h : imOk n m ll mt = true) (hm : mt.length ≤ 1048576) : ACall Try.prog 22 [.agg [.int .i64 n, .int .i64 m, .slice ⟨0, 0, 0, 1, 0⟩ ll.length], .slice ⟨1, 0, 0, 1, 0⟩ mt.length] [.rows true ll, .arr true .int mt] (Is (.tuple [.bool true, .bool true]) [.rows true ll, .arr true .int mt]) := by
  have h0 := implIsMatch_call n m ll mt hr hm
  rw [(im_yes h).1, isMatch_ok1 (im_yes h).1] at h0
  exact h0

theorem implShT_call (n m : Int) (ll : List (List Int)) (hr : SmallR ll) (h : shB n m ll = true) : ACall Try.prog 31 [.agg [.int .i64 n, .int .i64 m, .slice ⟨0, 0, 0, 1, 0⟩ ll.length]] [.rows true ll] (Is (.tuple [.slice ⟨1, 0, 0, 1, 0⟩ (shL n m ll).length, .bool true]) [.rows true ll, .arr false .int (shL n m ll)]) := by
  have h0 := implShortOf_call n m ll hr
  rw [h] at h0
  exact h0

theorem implShF_call (n m : Int) (ll : List (List Int)) (hr : SmallR ll) (h : shB n m ll = false) : ACall Try.prog 31 [.agg [.int .i64 n, .int .i64 m, .slice ⟨0, 0, 0, 1, 0⟩ ll.length]] [.rows true ll] (Is (.tuple [.slice ⟨1, 0, 0, 1, 0⟩ 0, .bool false]) [.rows true ll, .arr false .int ([])]) := by
  have h0 := implShortOf_call n m ll hr
  rw [h, shL_no h] at h0
  exact h0

theorem implCoT_call (n m : Int) (ll : List (List Int)) (hr : SmallR ll) (a b : List Int) (h : isCover n m ll a b = true) (ha : a.length ≤ 1048576) (hb : b.length ≤ 1048576) : ACall Try.prog 19 [.agg [.int .i64 n, .int .i64 m, .slice ⟨0, 0, 0, 1, 0⟩ ll.length], .slice ⟨1, 0, 0, 1, 0⟩ a.length, .slice ⟨2, 0, 0, 1, 0⟩ b.length] [.rows true ll, .arr true .int a, .arr true .int b] (Is (.tuple [.bool true, .bool true]) [.rows true ll, .arr true .int a, .arr true .int b]) := by
  have h0 := implIsCover_call n m ll a b hr ha hb
  rw [h, isCover_ok h] at h0
  exact h0

theorem implCoF_call (n m : Int) (ll : List (List Int)) (hr : SmallR ll) (a b : List Int) (h : isCover n m ll a b = false) (ha : a.length ≤ 1048576) (hb : b.length ≤ 1048576) : ACall Try.prog 19 [.agg [.int .i64 n, .int .i64 m, .slice ⟨0, 0, 0, 1, 0⟩ ll.length], .slice ⟨1, 0, 0, 1, 0⟩ a.length, .slice ⟨2, 0, 0, 1, 0⟩ b.length] [.rows true ll, .arr true .int a, .arr true .int b] (Is (.tuple [.bool false, .bool (coverOk n m ll a b)]) [.rows true ll, .arr true .int a, .arr true .int b]) := by
  have h0 := implIsCover_call n m ll a b hr ha hb
  rw [h] at h0
  exact h0

theorem specImT_call (n m : Int) (ll : List (List Int)) (hr : SmallR ll) (mt : List Int) (h : imOk n m ll mt = true) (hm : mt.length ≤ 1048576) : ACall Try.prog 23 [.agg [.int .i64 n, .int .i64 m, .slice ⟨0, 0, 0, 1, 0⟩ ll.length], .slice ⟨1, 0, 0, 1, 0⟩ mt.length] [.rows true ll, .arr true .int mt] (Is (.tuple [.slice ⟨2, 0, 0, 1, 0⟩ mt.length, .bool true]) [.rows true ll, .arr true .int mt, .arr false .int (impO ll mt)]) := by
  have h0 := specImproveMatch_call n m ll mt hr hm
  rw [imL_yes h, h, (im_more h).len] at h0
  exact h0

theorem specImF_call (n m : Int) (ll : List (List Int)) (hr : SmallR ll) (mt : List Int) (h : imOk n m ll mt = false) (hm : mt.length ≤ 1048576) : ACall Try.prog 23 [.agg [.int .i64 n, .int .i64 m, .slice ⟨0, 0, 0, 1, 0⟩ ll.length], .slice ⟨1, 0, 0, 1, 0⟩ mt.length] [.rows true ll, .arr true .int mt] (Is (.tuple [.slice ⟨2, 0, 0, 1, 0⟩ 0, .bool false]) [.rows true ll, .arr true .int mt, .arr false .int ([])]) := by
  have h0 := specImproveMatch_call n m ll mt hr hm
  rw [imL_no h, h] at h0
  exact h0

theorem specIsMT_call (n m : Int) (ll : List (List Int)) (hr : SmallR ll) (mt : List Int) (h : imOk n m ll mt = true) (hm : mt.length ≤ 1048576) : ACall Try.prog 21 [.agg [.int .i64 n, .int .i64 m, .slice ⟨0, 0, 0, 1, 0⟩ ll.length], .slice ⟨1, 0, 0, 1, 0⟩ mt.length] [.rows true ll, .arr true .int mt] (Is (.tuple [.bool true, .bool true]) [.rows true ll, .arr true .int mt]) := by
  have h0 := specIsMatch_call n m ll mt hr hm
  rw [(im_yes h).1, isMatch_ok1 (im_yes h).1] at h0
  exact h0

theorem specShT_call (n m : Int) (ll : List (List Int)) (hr : SmallR ll) (h : shB n m ll = true) : ACall Try.prog 30 [.agg [.int .i64 n, .int .i64 m, .slice ⟨0, 0, 0, 1, 0⟩ ll.length]] [.rows true ll] (Is (.tuple [.slice ⟨1, 0, 0, 1, 0⟩ (shL n m ll).length, .bool true]) [.rows true ll, .arr false .int (shL n m ll)]) := by
  have h0 := specShortOf_call n m ll hr
  rw [h] at h0
  exact h0

theorem specShF_call (n m : Int) (ll : List (List Int)) (hr : SmallR ll) (h : shB n m ll = false) : ACall Try.prog 30 [.agg [.int .i64 n, .int .i64 m, .slice ⟨0, 0, 0, 1, 0⟩ ll.length]] [.rows true ll] (Is (.tuple [.slice ⟨1, 0, 0, 1, 0⟩ 0, .bool false]) [.rows true ll, .arr false .int ([])]) := by
  have h0 := specShortOf_call n m ll hr
  rw [h, shL_no h] at h0
  exact h0

theorem specCoT_call (n m : Int) (ll : List (List Int)) (hr : SmallR ll) (a b : List Int) (h : isCover n m ll a b = true) (ha : a.length ≤ 1048576) (hb : b.length ≤ 1048576) : ACall Try.prog 17 [.agg [.int .i64 n, .int .i64 m, .slice ⟨0, 0, 0, 1, 0⟩ ll.length], .slice ⟨1, 0, 0, 1, 0⟩ a.length, .slice ⟨2, 0, 0, 1, 0⟩ b.length] [.rows true ll, .arr true .int a, .arr true .int b] (Is (.tuple [.bool true, .bool true]) [.rows true ll, .arr true .int a, .arr true .int b]) := by
  have h0 := specIsCover_call n m ll a b hr ha hb
  rw [h, isCover_ok h] at h0
  exact h0

theorem specCoF_call (n m : Int) (ll : List (List Int)) (hr : SmallR ll) (a b : List Int) (h : isCover n m ll a b = false) (ha : a.length ≤ 1048576) (hb : b.length ≤ 1048576) : ACall Try.prog 17 [.agg [.int .i64 n, .int .i64 m, .slice ⟨0, 0, 0, 1, 0⟩ ll.length], .slice ⟨1, 0, 0, 1, 0⟩ a.length, .slice ⟨2, 0, 0, 1, 0⟩ b.length] [.rows true ll, .arr true .int a, .arr true .int b] (Is (.tuple [.bool false, .bool (coverOk n m ll a b)]) [.rows true ll, .arr true .int a, .arr true .int b]) := by
  have h0 := specIsCover_call n m ll a b hr ha hb
  rw [h] at h0
  exact h0

theorem isImp_call (n m : Int) (ll : List (List Int)) (hr : SmallR ll) (mt : List Int) (c : Nat) (hc : c = mt.length) (h : imOk n m ll mt = true) (hm : mt.length ≤ 1048576) : ACall Try.prog 22 [.agg [.int .i64 n, .int .i64 m, .slice ⟨0, 0, 0, 1, 0⟩ ll.length], .slice ⟨1, 0, 0, 1, 0⟩ c] [.rows true ll, .arr true .int (impO ll mt)] (Is (.tuple [.bool true, .bool true]) [.rows true ll, .arr true .int (impO ll mt)]) := by
  have h0 := implIsMatch_call n m ll (impO ll mt) hr (by rw [(im_more h).len]; exact hm)
  rw [im_is h, isMatch_ok1 (im_is h), (im_more h).len, ← hc] at h0
  exact h0

abbrev MatchDraw (f : FuncId) : Prop := ∀ (code : List Int), (∀ x ∈ code, 0 ≤ x ∧ x ≤ 255) → ACall Try.prog f [.slice ⟨0, 0, 0, 1, 0⟩ code.length] [.arr true .byte code] (Ex (fun i : Int × Int × List (List Int) × List Int => .tuple [.agg [.int .i64 i.1, .int .i64 i.2.1, .slice ⟨1, 0, 0, 1, 0⟩ i.2.2.1.length], .slice ⟨2, 0, 0, 1, 0⟩ i.2.2.2.length]) (fun i => [.arr true .byte code, .rows false i.2.2.1, .arr false .int i.2.2.2]) (fun i => SmallR i.2.2.1 ∧ i.2.2.2.length ≤ 1048576))
abbrev CoverDraw (f : FuncId) : Prop := ∀ (code : List Int), (∀ x ∈ code, 0 ≤ x ∧ x ≤ 255) → ACall Try.prog f [.slice ⟨0, 0, 0, 1, 0⟩ code.length] [.arr true .byte code] (Ex (fun i : Int × Int × List (List Int) × List Int × List Int => .tuple [.agg [.int .i64 i.1, .int .i64 i.2.1, .slice ⟨1, 0, 0, 1, 0⟩ i.2.2.1.length], .slice ⟨2, 0, 0, 1, 0⟩ i.2.2.2.1.length, .slice ⟨3, 0, 0, 1, 0⟩ i.2.2.2.2.length]) (fun i => [.arr true .byte code, .rows false i.2.2.1, .arr false .int i.2.2.2.1, .arr false .int i.2.2.2.2]) (fun i => SmallR i.2.2.1 ∧ i.2.2.2.1.length ≤ 1048576 ∧ i.2.2.2.2.length ≤ 1048576))

theorem lawHall_of (hd1 : MatchDraw 36) (hd2 : CoverDraw 38) (code more : List Int) (hcode : ∀ x ∈ code, 0 ≤ x ∧ x ≤ 255) (hmore : ∀ x ∈ more, 0 ≤ x ∧ x ≤ 255) : ACall Try.prog 11 [.slice ⟨0, 0, 0, 1, 0⟩ code.length, .slice ⟨1, 0, 0, 1, 0⟩ more.length] [.arr true .byte code, .arr true .byte more] (Is (.bool true) [.arr true .byte code, .arr true .byte more]) := by
  refine ACall.walk T Try.func11 Try.ntmps11 Try.results11 rfl rfl rfl (Is.nv _ _) ?_
  repeat' (conv => whnf); first
    | refine AWP.regX (id := 1) T 4 rfl ?_
    | refine AWP.seqTo (x := .seq _ (.cond (.tmp 168) _ _)) (fun _ : Unit => St.of [(1, .slice ⟨1, 0, 0, 1, 0⟩ more.length)] [.arr true .byte code, .arr true .byte more]) (fun _ => True) ?_ (fun _ _ => ?_)
    | refine AWP.seqTo (x := .seq _ (.cond (.tmp 109) _ _)) (fun i : Int × Int × List (List Int) => St.of [(1, .slice ⟨1, 0, 0, 1, 0⟩ more.length), (5, .ptr ⟨3, 0, 0, 3, 0⟩)] [.arr true .byte code, .arr true .byte more, .rows true i.2.2, .arr false (.raw 3) [[.int .i64 i.1, .int .i64 i.2.1, .slice ⟨2, 0, 0, 1, 0⟩ i.2.2.length]]]) (fun i => SmallR i.2.2) ?_ (fun i hr => match i, hr with | (n, m, ll), hr => ?_)
    | refine ⟨(_, _, _), _, hmt.1, Weak.of [0, 1, 2, 4] (.cons rfl rfl (.cons rfl rfl .nil)) (.cons (.same rfl rfl) (.cons (.same rfl rfl) (.cons (.ro rfl rfl) (.cons (.same rfl rfl) (.nil _))))) rfl⟩
    | refine ⟨(), _, trivial, Weak.of [0, 1] (.cons rfl rfl .nil) (.cons (.same rfl rfl) (.cons (.same rfl rfl) (.nil _))) rfl⟩
    | refine AWP.cond rfl (fun hb => absurd (of_decide_eq_true hb) (by omega)) (fun hb => ?_)
    | refine AWP.seq ?_
    | refine AWP.reg T rfl ?_
    | refine AWP.drw T none rfl rfl rfl ?_
    | refine AWP.dep T none rfl rfl rfl rfl ?_
    | refine AWP.block ?_
    | refine AWP.condT rfl ?_
    | refine AWP.condF rfl ?_
    | refine AWP.cond rfl (fun hb => ?_) (fun hb => ?_)
    | refine AWP.ret ?_
    | refine AWP.exit ?_
    | refine AWP.skip ?_
    | refine GuardB.t ?_
    | refine GuardB.f ?_
    | refine GuardB.mk (fun hb => ?_) (fun hb => ?_)
    | refine NilQ.mk (fun hb => ?_) ?_
    | refine VC.mk Nat.zero_lt_one ?_
    | refine VC.mk rfl ?_
    | refine ACall.useEx4 [0] (hd1 code hcode) rfl (.cons (.same rfl rfl) (.nil _)) rfl (fun n m ll mt hmt => boolSplit (imOk n m ll mt) (fun h => ?_) (fun h => ?_))
    | refine ACall.useIs [2, 3] (implImT_call n m ll hmt.1 mt h ?_) rfl (.cons (.ro rfl rfl) (.cons (.ro rfl rfl) (.nil _))) rfl ?_
    | refine ACall.useIs [2, 3] (implImF_call n m ll hmt.1 mt h ?_) rfl (.cons (.ro rfl rfl) (.cons (.ro rfl rfl) (.nil _))) rfl ?_
    | refine ACall.useIs [2, 3] (implIsMT_call n m ll hmt.1 mt h ?_) rfl (.cons (.ro rfl rfl) (.cons (.ro rfl rfl) (.nil _))) rfl ?_
    | refine ACall.useIs [2, 3] (implIsMatch_call n m ll mt hmt.1 ?_) rfl (.cons (.ro rfl rfl) (.cons (.ro rfl rfl) (.nil _))) rfl ?_
    | refine ACall.useIs [2, 3] (specImT_call n m ll hmt.1 mt h ?_) rfl (.cons (.ro rfl rfl) (.cons (.ro rfl rfl) (.nil _))) rfl ?_
    | refine ACall.useIs [2, 3] (specImF_call n m ll hmt.1 mt h ?_) rfl (.cons (.ro rfl rfl) (.cons (.ro rfl rfl) (.nil _))) rfl ?_
    | refine ACall.useIs [2, 3] (specIsMT_call n m ll hmt.1 mt h ?_) rfl (.cons (.ro rfl rfl) (.cons (.ro rfl rfl) (.nil _))) rfl ?_
    | refine ACall.useIs [2, 3] (specIsMatch_call n m ll mt hmt.1 ?_) rfl (.cons (.ro rfl rfl) (.cons (.ro rfl rfl) (.nil _))) rfl ?_
    | refine ACall.useIs [5, 6] (sameIntsE_call _ _ _ _ ?_ ?_ ?_ ?_) rfl (.cons (.ro rfl rfl) (.cons (.ro rfl rfl) (.nil _))) rfl ?_
    | refine AWP.while (ι := Nat) (fun q => St.of [(1, .slice ⟨1, 0, 0, 1, 0⟩ more.length), (5, .ptr ⟨4, 0, 0, 3, 0⟩), (6, .slice ⟨3, 0, 0, 1, 0⟩ mt.length), (7, .slice ⟨5, 0, 0, 1, 0⟩ mt.length), (8, .bool true), (15, .int .i64 (prs mt : Nat)), (18, .int .i64 (prsN (impO ll mt) q)), (110, .slice ⟨5, 0, 0, 1, 0⟩ mt.length), (111, .int .i64 mt.length), (112, .int .i64 q)] [.arr true .byte code, .arr true .byte more, .rows true ll, .arr true .int mt, .arr false (.raw 3) [[.int .i64 n, .int .i64 m, .slice ⟨2, 0, 0, 1, 0⟩ ll.length]], .arr true .int (impO ll mt)]) (fun q => q ≤ mt.length) (fun q => mt.length - q) 0 (Nat.zero_le _)
        (Weak.of [0, 1, 2, 3, 4, 5] (.cons rfl rfl (.cons rfl rfl (.cons rfl rfl (.cons rfl rfl (.cons rfl rfl (.i rfl ?_ (.i rfl ?_ (.cons rfl rfl (.cons rfl rfl (.cons rfl rfl .nil)))))))))) (.cons (.same rfl rfl) (.cons (.same rfl rfl) (.cons (.same rfl rfl) (.cons (.same rfl rfl) (.cons (.same rfl rfl) (.cons (.same rfl rfl) (.nil _))))))) rfl) (fun q hq => ?_)
    | refine AWP.while (ι := Nat) (fun k => St.of [(1, .slice ⟨1, 0, 0, 1, 0⟩ more.length), (5, .ptr ⟨4, 0, 0, 3, 0⟩), (6, .slice ⟨3, 0, 0, 1, 0⟩ mt.length), (7, .slice ⟨5, 0, 0, 1, 0⟩ mt.length), (8, .bool true), (15, .int .i64 (prsN mt k)), (98, .slice ⟨3, 0, 0, 1, 0⟩ mt.length), (99, .int .i64 mt.length), (100, .int .i64 k)] [.arr true .byte code, .arr true .byte more, .rows true ll, .arr true .int mt, .arr false (.raw 3) [[.int .i64 n, .int .i64 m, .slice ⟨2, 0, 0, 1, 0⟩ ll.length]], .arr true .int (impO ll mt)]) (fun k => k ≤ mt.length) (fun k => mt.length - k) 0 (Nat.zero_le _)
        (Weak.of [0, 1, 2, 3, 4, 5] (.cons rfl rfl (.cons rfl rfl (.cons rfl rfl (.cons rfl rfl (.cons rfl rfl (.i rfl ?_ (.cons rfl rfl (.cons rfl rfl (.cons rfl rfl .nil))))))))) (.cons (.same rfl rfl) (.cons (.same rfl rfl) (.cons (.ro rfl rfl) (.cons (.ro rfl rfl) (.cons (.same rfl rfl) (.cons (.ro rfl rfl) (.nil _))))))) rfl) (fun k hk => ?_)
    | refine AWP.while (ι := Nat) (fun k => St.of [(1, .slice ⟨1, 0, 0, 1, 0⟩ more.length), (5, .ptr ⟨4, 0, 0, 3, 0⟩), (6, .slice ⟨3, 0, 0, 1, 0⟩ mt.length), (7, .slice ⟨5, 0, 0, 1, 0⟩ 0), (8, .bool false), (15, .int .i64 (prsN mt k)), (98, .slice ⟨3, 0, 0, 1, 0⟩ mt.length), (99, .int .i64 mt.length), (100, .int .i64 k)] [.arr true .byte code, .arr true .byte more, .rows true ll, .arr true .int mt, .arr false (.raw 3) [[.int .i64 n, .int .i64 m, .slice ⟨2, 0, 0, 1, 0⟩ ll.length]], .arr true .int (([] : List Int))]) (fun k => k ≤ mt.length) (fun k => mt.length - k) 0 (Nat.zero_le _)
        (Weak.of [0, 1, 2, 3, 4, 5] (.cons rfl rfl (.cons rfl rfl (.cons rfl rfl (.cons rfl rfl (.cons rfl rfl (.i rfl ?_ (.cons rfl rfl (.cons rfl rfl (.cons rfl rfl .nil))))))))) (.cons (.same rfl rfl) (.cons (.same rfl rfl) (.cons (.ro rfl rfl) (.cons (.ro rfl rfl) (.cons (.same rfl rfl) (.cons (.ro rfl rfl) (.nil _))))))) rfl) (fun k hk => ?_)
    | refine roundEnd (q + 1) ?_ ?_ (Weak.of [0, 1, 2, 3, 4, 5] (.cons rfl rfl (.cons rfl rfl (.cons rfl rfl (.cons rfl rfl (.cons rfl rfl (.cons rfl rfl (.i rfl ?_ (.cons rfl rfl (.cons rfl rfl (.cons rfl rfl .nil)))))))))) (.cons (.same rfl rfl) (.cons (.same rfl rfl) (.cons (.same rfl rfl) (.cons (.same rfl rfl) (.cons (.same rfl rfl) (.cons (.same rfl rfl) (.nil _))))))) rfl)
    | refine roundEnd (k + 1) ?_ ?_ (Weak.of [0, 1, 2, 3, 4, 5] (.cons rfl rfl (.cons rfl rfl (.cons rfl rfl (.cons rfl rfl (.cons rfl rfl (.i rfl ?_ (.cons rfl rfl (.cons rfl rfl (.cons rfl rfl .nil))))))))) (.cons (.same rfl rfl) (.cons (.same rfl rfl) (.cons (.same rfl rfl) (.cons (.same rfl rfl) (.cons (.same rfl rfl) (.cons (.same rfl rfl) (.nil _))))))) rfl)
    | refine ACall.useIs [2, 5] (isImp_call n m ll hmt.1 mt _ rfl h ?_) rfl (.cons (.same rfl rfl) (.cons (.same rfl rfl) (.nil _))) rfl ?_
    | refine boolSplit (shB n m ll) (fun hs => ACall.useIs [2] (implShT_call n m ll hr hs) rfl (.cons (.same rfl rfl) (.nil _)) rfl ?_) (fun hs => ACall.useIs [2] (implShF_call n m ll hr hs) rfl (.cons (.same rfl rfl) (.nil _)) rfl ?_)
    | refine ACall.useIs [2] (specShT_call n m ll hr hs) rfl (.cons (.same rfl rfl) (.nil _)) rfl ?_
    | refine ACall.useIs [2] (specShF_call n m ll hr hs) rfl (.cons (.same rfl rfl) (.nil _)) rfl ?_
    | refine ACall.useIs [4, 5] (sameIntsE_call _ _ _ _ ?_ ?_ ?_ ?_) rfl (.cons (.ro rfl rfl) (.cons (.ro rfl rfl) (.nil _))) rfl ?_
    | refine AWP.while (ι := Nat × List Int) (fun g2 => St.of [(1, .slice ⟨1, 0, 0, 1, 0⟩ more.length), (5, .ptr ⟨3, 0, 0, 3, 0⟩), (23, .slice ⟨4, 0, 0, 1, 0⟩ (shL n m ll).length), (27, .slice ⟨5, 0, 0, 1, 0⟩ g2.2.length), (169, .slice ⟨4, 0, 0, 1, 0⟩ (shL n m ll).length), (170, .int .i64 ((shL n m ll).length : Nat)), (171, .int .i64 (g.1 : Nat)), (179, .slice ⟨2, ((shL n m ll).getD g.1 0).toNat + 1, 0, 1, 0⟩ (ll.getD ((shL n m ll).getD g.1 0).toNat []).length), (180, .int .i64 ((ll.getD ((shL n m ll).getD g.1 0).toNat []).length : Nat)), (181, .int .i64 (g2.1 : Nat))] [.arr true .byte code, .arr true .byte more, .rows true ll, .arr false (.raw 3) [[.int .i64 n, .int .i64 m, .slice ⟨2, 0, 0, 1, 0⟩ ll.length]], .arr true .int (shL n m ll), .arr false .int g2.2]) (fun g2 => g2.1 ≤ (ll.getD ((shL n m ll).getD g.1 0).toNat []).length ∧ WantOk n m ll g2.2) (fun g2 => (ll.getD ((shL n m ll).getD g.1 0).toNat []).length - g2.1) (0, g.2) ⟨Nat.zero_le _, hg.2⟩
        (Weak.of [0, 1, 2, 3, 4, 5] (.cons rfl rfl (.cons rfl rfl (.cons rfl rfl (.cons rfl rfl (.cons rfl rfl (.cons rfl rfl (.cons rfl rfl (.cons rfl rfl (.cons rfl rfl (.cons rfl rfl .nil)))))))))) (.cons (.same rfl rfl) (.cons (.same rfl rfl) (.cons (.same rfl rfl) (.cons (.same rfl rfl) (.cons (.same rfl rfl) (.cons (.same rfl rfl) (.nil _))))))) rfl) (fun g2 hg2 => ?_)
    | refine AWP.while (ι := Nat × List Int) (fun g => St.of [(1, .slice ⟨1, 0, 0, 1, 0⟩ more.length), (5, .ptr ⟨3, 0, 0, 3, 0⟩), (23, .slice ⟨4, 0, 0, 1, 0⟩ (shL n m ll).length), (27, .slice ⟨5, 0, 0, 1, 0⟩ g.2.length), (169, .slice ⟨4, 0, 0, 1, 0⟩ (shL n m ll).length), (170, .int .i64 ((shL n m ll).length : Nat)), (171, .int .i64 (g.1 : Nat))] [.arr true .byte code, .arr true .byte more, .rows true ll, .arr false (.raw 3) [[.int .i64 n, .int .i64 m, .slice ⟨2, 0, 0, 1, 0⟩ ll.length]], .arr true .int (shL n m ll), .arr false .int g.2]) (fun g => g.1 ≤ (shL n m ll).length ∧ WantOk n m ll g.2) (fun g => (shL n m ll).length - g.1) (0, []) ⟨Nat.zero_le _, WantOk.nil⟩
        (Weak.of [0, 1, 2, 3, 4, 6] (.cons rfl rfl (.cons rfl rfl (.cons rfl rfl (.cons rfl rfl (.cons rfl rfl (.cons rfl rfl (.cons rfl rfl .nil))))))) (.cons (.same rfl rfl) (.cons (.same rfl rfl) (.cons (.same rfl rfl) (.cons (.same rfl rfl) (.cons (.ro rfl rfl) (.cons (.same rfl rfl) (.nil _))))))) rfl) (fun g hg => ?_)
    | refine ACall.useIs [5] (has_call _ _ ?_) rfl (.cons (.ro rfl rfl) (.nil _)) rfl ?_
    | refine roundEnd (g2.1 + 1, _) ?_ ?_ (Weak.of [0, 1, 2, 3, 4, 7] (.cons rfl rfl (.cons rfl rfl (.cons rfl rfl (.s rfl ?_ rfl (.cons rfl rfl (.cons rfl rfl (.cons rfl rfl (.cons rfl rfl (.cons rfl rfl (.i rfl ?_ .nil)))))))))) (.cons (.same rfl rfl) (.cons (.same rfl rfl) (.cons (.same rfl rfl) (.cons (.same rfl rfl) (.cons (.same rfl rfl) (.cons (.same rfl rfl) (.nil _))))))) rfl)
    | refine roundEnd (g2.1 + 1, g2.2) ?_ ?_ (Weak.of [0, 1, 2, 3, 4, 5] (.cons rfl rfl (.cons rfl rfl (.cons rfl rfl (.cons rfl rfl (.cons rfl rfl (.cons rfl rfl (.cons rfl rfl (.cons rfl rfl (.cons rfl rfl (.i rfl ?_ .nil)))))))))) (.cons (.same rfl rfl) (.cons (.same rfl rfl) (.cons (.same rfl rfl) (.cons (.same rfl rfl) (.cons (.same rfl rfl) (.cons (.same rfl rfl) (.nil _))))))) rfl)
    | refine roundEnd (g.1 + 1, g2.2) ?_ ?_ (Weak.of [0, 1, 2, 3, 4, 5] (.cons rfl rfl (.cons rfl rfl (.cons rfl rfl (.cons rfl rfl (.cons rfl rfl (.cons rfl rfl (.i rfl ?_ .nil))))))) (.cons (.same rfl rfl) (.cons (.same rfl rfl) (.cons (.same rfl rfl) (.cons (.same rfl rfl) (.cons (.same rfl rfl) (.cons (.same rfl rfl) (.nil _))))))) rfl)
    | refine ACall.useEx5 [1] (hd2 more hmore) rfl (.cons (.same rfl rfl) (.nil _)) rfl (fun n m ll a b hab => boolSplit (isCover n m ll a b) (fun h => ?_) (fun h => ?_))
    | refine ACall.useIs [2, 3, 4] (implCoT_call n m ll hab.1 a b h ?_ ?_) rfl (.cons (.ro rfl rfl) (.cons (.ro rfl rfl) (.cons (.ro rfl rfl) (.nil _)))) rfl ?_
    | refine ACall.useIs [2, 3, 4] (implCoF_call n m ll hab.1 a b h ?_ ?_) rfl (.cons (.ro rfl rfl) (.cons (.ro rfl rfl) (.cons (.ro rfl rfl) (.nil _)))) rfl ?_
    | refine ACall.useIs [2, 3, 4] (specCoT_call n m ll hab.1 a b h ?_ ?_) rfl (.cons (.ro rfl rfl) (.cons (.ro rfl rfl) (.cons (.ro rfl rfl) (.nil _)))) rfl ?_
    | refine ACall.useIs [2, 3, 4] (specCoF_call n m ll hab.1 a b h ?_ ?_) rfl (.cons (.ro rfl rfl) (.cons (.ro rfl rfl) (.cons (.ro rfl rfl) (.nil _)))) rfl ?_
    | refine ACall.useIs [2] (implMatT_call n m ll _ rfl hab.1 (isCover_good h)) rfl (.cons (.ro rfl rfl) (.nil _)) rfl ?_
    | refine AWP.while (ι := Nat) (fun k => St.of [(33, .slice ⟨3, 0, 0, 1, 0⟩ a.length), (34, .slice ⟨4, 0, 0, 1, 0⟩ b.length), (40, .bool true), (41, .int .i64 (prsN (bestM' ll n.toNat) k)), (237, .slice ⟨6, 0, 0, 1, 0⟩ (bestM' ll n.toNat).length), (238, .int .i64 ((bestM' ll n.toNat).length : Nat)), (239, .int .i64 k)] [.arr true .byte code, .arr true .byte more, .rows true ll, .arr true .int a, .arr true .int b, .arr false (.raw 3) [[.int .i64 n, .int .i64 m, .slice ⟨2, 0, 0, 1, 0⟩ ll.length]], .arr true .int (bestM' ll n.toNat)]) (fun k => k ≤ (bestM' ll n.toNat).length) (fun k => (bestM' ll n.toNat).length - k) 0 (Nat.zero_le _)
        (Weak.of [0, 1, 2, 3, 4, 5, 6] (.cons rfl rfl (.cons rfl rfl (.cons rfl rfl (.i rfl ?_ (.cons rfl rfl (.cons rfl rfl (.cons rfl rfl .nil))))))) (.cons (.same rfl rfl) (.cons (.same rfl rfl) (.cons (.ro rfl rfl) (.cons (.ro rfl rfl) (.cons (.ro rfl rfl) (.cons (.same rfl rfl) (.cons (.ro rfl rfl) (.nil _)))))))) rfl) (fun k hk => ?_)
    | refine roundEnd (k + 1) ?_ ?_ (Weak.of [0, 1, 2, 3, 4, 5, 6] (.cons rfl rfl (.cons rfl rfl (.cons rfl rfl (.i rfl ?_ (.cons rfl rfl (.cons rfl rfl (.cons rfl rfl .nil))))))) (.cons (.same rfl rfl) (.cons (.same rfl rfl) (.cons (.same rfl rfl) (.cons (.same rfl rfl) (.cons (.same rfl rfl) (.cons (.same rfl rfl) (.cons (.same rfl rfl) (.nil _)))))))) rfl)
    | refine XGoal.addW (o := ⟨_, .binOp .add _ _ _ _, _, _, _, _⟩) rfl ?_
    | refine XGoal.list rfl ?_
    | refine Ret.bool [0, 1] ?_ (.cons (.same rfl rfl) (.cons (.same rfl rfl) (.nil _))) rfl
    | refine VC.mk ?_ ?_
  all_goals try simp only [decide_eq_true_eq, decide_eq_false_iff_not, Bool.not_eq_true', Bool.not_eq_false', cond_true, cond_false, eqB_true, eqB_false] at *
  all_goals try simp only [in64, idxAdd_zero_left, Int.toNat_natCast, fillTo_length, Int.ofNat_lt, Int.ofNat_le, Int.natCast_inj] at *
  all_goals try obtain ⟨gk, gl⟩ := g
  all_goals try obtain ⟨gk2, gl2⟩ := g2
  all_goals try dsimp only at *
  all_goals try have hm1 := hmt.1
  all_goals try have hm2 := hmt.2
  all_goals try have hil := im_len h
  all_goals try have hip := im_prs h
  all_goals try have hp1 := prsN_rng mt k
  all_goals try have hp2 := prsN_rng (impO ll mt) q
  all_goals try have hp3 := prsN_rng (bestM' ll n.toNat) k
  all_goals try have hb8 := best_len (isCover_good h)
  all_goals try have hcl := cov_le h
  all_goals try have ha1 := hab.2.1
  all_goals try have hb1 := hab.2.2
  all_goals try have hs8 := shL_le n m ll
  all_goals try have hw1 := WantOk.le hs hg.2
  all_goals try have hw2 := WantOk.le hs hg2.2
  all_goals try have hsa := shL_at hs (k := gk) (by omega)
  all_goals try have hrw := hr.row ((shL n m ll).getD gk 0).toNat
  all_goals first
    | omega
    | with_reducible rfl
    | exact hr
    | exact hmt.1
    | exact hab.1
    | exact ⟨by omega, by omega⟩
    | exact Eq.refl true
    | (rw [prsN_zero]; done)
    | (rw [prsN_yes (by omega) (by assumption)]; done)
    | (rw [prsN_no (by omega) (by assumption)]; done)
    | (rw [prsN_all (by omega)]; done)
    | exact (im_more h).len.symm
    | exact (im_more h).len
    | exact ⟨by omega, hg2.2⟩
    | exact ⟨by omega, hg2.2.add (by omega) (by omega) (by assumption)⟩
    | (rw [sub_app9]; exact ⟨by omega, hg2.2.add (by omega) (by omega) (by assumption)⟩)
    | (rw [sub_app9]; done)
    | (refine ⟨?_, ?_, ?_⟩ <;> first | omega | (simp; done))
    | (exfalso; have hik := im_keep h (k := q) (by omega) (by assumption); omega)
    | (exfalso; simp at *; done)
    | (exfalso; omega)
    | (rw [prsN_all (by omega)] at *; omega)
    | (exfalso; rw [prsN_all (by omega)] at *; omega)
    | (simp; done)
    | (simp_all; done)

end YtofjbgpaofcpjaaAM
