/- Contracts of functions of this seat. -/
import Derived.Test.YtofjbgpaofcpjaaAmTabPairs
import Derived.Test.YtofjbgpaofcpjaaAmModels
import Derived.Test.YtofjbgpaofcpjaaAmPairs11
import Derived.Test.YtofjbgpaofcpjaaAmPairLaw2
import Derived.Test.YtofjbgpaofcpjaaAmDrawLast
set_option linter.unusedVariables false
set_option linter.unusedSimpArgs false
set_option maxRecDepth 100000
set_option maxHeartbeats 4000000
namespace YtofjbgpaofcpjaaAM
open Go Go.Proofs
attribute [local irreducible] NextOk PickOk OneOk AmongOk foldN askR askN maskL impB impO bestN freeN stQ rowQ qN inQ sortI sortN goodP isMatch matchB isCover coverOk coverB tryA reachQ bestM' selN rangeI shB shL coA coR imL imOk maL prs

section
variable {n m : Int} {ll : List (List Int)}
theorem maL_yes (h : goodP n m ll = true) : maL n m ll = bestM' ll n.toNat := by unfold maL; rw [if_pos h]
theorem maL_no (h : goodP n m ll = false) : maL n m ll = [] := by unfold maL; rw [if_neg (by rw [h]; simp)]
theorem coA_no (h : goodP n m ll = false) : coA n m ll = [] := by unfold coA; rw [if_neg (by rw [h]; simp)]
theorem coR_no (h : goodP n m ll = false) : coR n m ll = [] := by unfold coR; rw [if_neg (by rw [h]; simp)]
theorem im_ok {mt : List Int} (h : isMatch n m ll mt = true) (h2 : impB ll mt = false) : imOk n m ll mt = false ∧ imL n m ll mt = [] := by
  have h3 : imOk n m ll mt = false := by unfold imOk; rw [h2, Bool.and_false]
  exact ⟨h3, by unfold imL; rw [if_neg (by rw [h3]; simp)]⟩
theorem isMatch_ok1 {mt : List Int} (h : isMatch n m ll mt = true) : matchOk n m ll mt = true := by unfold isMatch at h; simp only [Bool.and_eq_true] at h; exact h.1
theorem isCover_ok {a b : List Int} (h : isCover n m ll a b = true) : coverOk n m ll a b = true := by unfold isCover at h; simp only [Bool.and_eq_true] at h; exact h.1
theorem best_len (h : goodP n m ll = true) : (bestM' ll n.toNat).length ≤ 8 := by
  have h1 := (pair_end h).len
  have h2 := goodP_len h
  omega
def prsN (mt : List Int) (k : Nat) : Int := (prs (mt.take k) : Nat)
theorem prsN_zero (mt : List Int) : prsN mt 0 = 0 := by unfold prsN prs; simp
theorem prsN_yes {mt : List Int} {k : Nat} (hk : k < mt.length) (h : 0 ≤ mt.getD k 0) : prsN mt (k + 1) = prsN mt k + 1 := by
  unfold prsN prs
  rw [List.take_succ_eq_append_getElem hk, List.countP_append]
  rw [getD_get hk] at h
  simp [h]
theorem prsN_no {mt : List Int} {k : Nat} (hk : k < mt.length) (h : ¬ 0 ≤ mt.getD k 0) : prsN mt (k + 1) = prsN mt k := by
  unfold prsN prs
  rw [List.take_succ_eq_append_getElem hk, List.countP_append]
  rw [getD_get hk] at h
  simp [h]
theorem prsN_rng (mt : List Int) (k : Nat) : 0 ≤ prsN mt k ∧ prsN mt k ≤ k := by
  unfold prsN prs
  have h1 := List.countP_le_length (p := fun x : Int => decide (0 ≤ x)) (l := mt.take k)
  rw [List.length_take] at h1
  omega
theorem prsN_all {mt : List Int} {k : Nat} (h : mt.length ≤ k) : prsN mt k = (prs mt : Nat) := by unfold prsN; rw [List.take_of_length_le h]
end

theorem implMatT_call (n m : Int) (ll : List (List Int)) (c : Nat) (hc : c = ll.length) (hr : SmallR ll) (h : goodP n m ll = true) : ACall Try.prog 29 [.agg [.int .i64 n, .int .i64 m, .slice ⟨0, 0, 0, 1, 0⟩ c]] [.rows true ll] (Is (.tuple [.slice ⟨1, 0, 0, 1, 0⟩ (bestM' ll n.toNat).length, .bool true]) [.rows true ll, .arr false .int (bestM' ll n.toNat)]) := by
  subst hc
  have h0 := implMatchAll_call n m ll hr
  rw [maL_yes h, h] at h0
  exact h0

theorem implMatF_call (n m : Int) (ll : List (List Int)) (c : Nat) (hc : c = ll.length) (hr : SmallR ll) (h : goodP n m ll = false) : ACall Try.prog 29 [.agg [.int .i64 n, .int .i64 m, .slice ⟨0, 0, 0, 1, 0⟩ c]] [.rows true ll] (Is (.tuple [.slice ⟨1, 0, 0, 1, 0⟩ 0, .bool false]) [.rows true ll, .arr false .int ([])]) := by
  subst hc
  have h0 := implMatchAll_call n m ll hr
  rw [maL_no h, h] at h0
  exact h0

theorem implCovT_call (n m : Int) (ll : List (List Int)) (c : Nat) (hc : c = ll.length) (hr : SmallR ll) (h : goodP n m ll = true) : ACall Try.prog 33 [.agg [.int .i64 n, .int .i64 m, .slice ⟨0, 0, 0, 1, 0⟩ c]] [.rows true ll] (Is (.tuple [.slice ⟨1, 0, 0, 1, 0⟩ (coA n m ll).length, .slice ⟨2, 0, 0, 1, 0⟩ (coR n m ll).length, .bool true]) [.rows true ll, .arr false .int (coA n m ll), .arr false .int (coR n m ll)]) := by
  subst hc
  have h0 := implCoverOf_call n m ll hr
  rw [h] at h0
  exact h0

theorem implCovF_call (n m : Int) (ll : List (List Int)) (c : Nat) (hc : c = ll.length) (hr : SmallR ll) (h : goodP n m ll = false) : ACall Try.prog 33 [.agg [.int .i64 n, .int .i64 m, .slice ⟨0, 0, 0, 1, 0⟩ c]] [.rows true ll] (Is (.tuple [.slice ⟨1, 0, 0, 1, 0⟩ 0, .slice ⟨2, 0, 0, 1, 0⟩ 0, .bool false]) [.rows true ll, .arr false .int ([]), .arr false .int ([])]) := by
  subst hc
  have h0 := implCoverOf_call n m ll hr
  rw [h, coA_no h, coR_no h] at h0
  exact h0

theorem implGoodPT_call (n m : Int) (ll : List (List Int)) (c : Nat) (hc : c = ll.length) (hr : SmallR ll) (h : goodP n m ll = true) : ACall Try.prog 15 [.agg [.int .i64 n, .int .i64 m, .slice ⟨0, 0, 0, 1, 0⟩ c]] [.rows true ll] (Is (.bool true) [.rows true ll]) := by
  subst hc
  have h0 := implGoodPairing_call n m ll hr
  rw [h] at h0
  exact h0

theorem implGoodPF_call (n m : Int) (ll : List (List Int)) (c : Nat) (hc : c = ll.length) (hr : SmallR ll) (h : goodP n m ll = false) : ACall Try.prog 15 [.agg [.int .i64 n, .int .i64 m, .slice ⟨0, 0, 0, 1, 0⟩ c]] [.rows true ll] (Is (.bool false) [.rows true ll]) := by
  subst hc
  have h0 := implGoodPairing_call n m ll hr
  rw [h] at h0
  exact h0

theorem specMatT_call (n m : Int) (ll : List (List Int)) (c : Nat) (hc : c = ll.length) (hr : SmallR ll) (h : goodP n m ll = true) : ACall Try.prog 28 [.agg [.int .i64 n, .int .i64 m, .slice ⟨0, 0, 0, 1, 0⟩ c]] [.rows true ll] (Is (.tuple [.slice ⟨1, 0, 0, 1, 0⟩ (bestM' ll n.toNat).length, .bool true]) [.rows true ll, .arr false .int (bestM' ll n.toNat)]) := by
  subst hc
  have h0 := specMatchAll_call n m ll hr
  rw [maL_yes h, h] at h0
  exact h0

theorem specMatF_call (n m : Int) (ll : List (List Int)) (c : Nat) (hc : c = ll.length) (hr : SmallR ll) (h : goodP n m ll = false) : ACall Try.prog 28 [.agg [.int .i64 n, .int .i64 m, .slice ⟨0, 0, 0, 1, 0⟩ c]] [.rows true ll] (Is (.tuple [.slice ⟨1, 0, 0, 1, 0⟩ 0, .bool false]) [.rows true ll, .arr false .int ([])]) := by
  subst hc
  have h0 := specMatchAll_call n m ll hr
  rw [maL_no h, h] at h0
  exact h0

theorem specCovT_call (n m : Int) (ll : List (List Int)) (c : Nat) (hc : c = ll.length) (hr : SmallR ll) (h : goodP n m ll = true) : ACall Try.prog 32 [.agg [.int .i64 n, .int .i64 m, .slice ⟨0, 0, 0, 1, 0⟩ c]] [.rows true ll] (Is (.tuple [.slice ⟨1, 0, 0, 1, 0⟩ (coA n m ll).length, .slice ⟨2, 0, 0, 1, 0⟩ (coR n m ll).length, .bool true]) [.rows true ll, .arr false .int (coA n m ll), .arr false .int (coR n m ll)]) := by
  subst hc
  have h0 := specCoverOf_call n m ll hr
  rw [h] at h0
  exact h0

theorem specCovF_call (n m : Int) (ll : List (List Int)) (c : Nat) (hc : c = ll.length) (hr : SmallR ll) (h : goodP n m ll = false) : ACall Try.prog 32 [.agg [.int .i64 n, .int .i64 m, .slice ⟨0, 0, 0, 1, 0⟩ c]] [.rows true ll] (Is (.tuple [.slice ⟨1, 0, 0, 1, 0⟩ 0, .slice ⟨2, 0, 0, 1, 0⟩ 0, .bool false]) [.rows true ll, .arr false .int ([]), .arr false .int ([])]) := by
  subst hc
  have h0 := specCoverOf_call n m ll hr
  rw [h, coA_no h, coR_no h] at h0
  exact h0

theorem specGoodPT_call (n m : Int) (ll : List (List Int)) (c : Nat) (hc : c = ll.length) (hr : SmallR ll) (h : goodP n m ll = true) : ACall Try.prog 13 [.agg [.int .i64 n, .int .i64 m, .slice ⟨0, 0, 0, 1, 0⟩ c]] [.rows true ll] (Is (.bool true) [.rows true ll]) := by
  subst hc
  have h0 := specGoodPairing_call n m ll hr
  rw [h] at h0
  exact h0

theorem specGoodPF_call (n m : Int) (ll : List (List Int)) (c : Nat) (hc : c = ll.length) (hr : SmallR ll) (h : goodP n m ll = false) : ACall Try.prog 13 [.agg [.int .i64 n, .int .i64 m, .slice ⟨0, 0, 0, 1, 0⟩ c]] [.rows true ll] (Is (.bool false) [.rows true ll]) := by
  subst hc
  have h0 := specGoodPairing_call n m ll hr
  rw [h] at h0
  exact h0

theorem isMatT_call (n m : Int) (ll : List (List Int)) (c : Nat) (hc : c = ll.length) (hr : SmallR ll) (mt : List Int) (h : isMatch n m ll mt = true) (hm : mt.length ≤ 1048576) : ACall Try.prog 22 [.agg [.int .i64 n, .int .i64 m, .slice ⟨0, 0, 0, 1, 0⟩ c], .slice ⟨1, 0, 0, 1, 0⟩ mt.length] [.rows true ll, .arr true .int mt] (Is (.tuple [.bool true, .bool true]) [.rows true ll, .arr true .int mt]) := by
  subst hc
  have h0 := implIsMatch_call n m ll mt hr hm
  rw [h, isMatch_ok1 h] at h0
  exact h0

theorem isCovT_call (n m : Int) (ll : List (List Int)) (c : Nat) (hc : c = ll.length) (hr : SmallR ll) (a b : List Int) (h : isCover n m ll a b = true) (ha : a.length ≤ 1048576) (hb : b.length ≤ 1048576) : ACall Try.prog 19 [.agg [.int .i64 n, .int .i64 m, .slice ⟨0, 0, 0, 1, 0⟩ c], .slice ⟨1, 0, 0, 1, 0⟩ a.length, .slice ⟨2, 0, 0, 1, 0⟩ b.length] [.rows true ll, .arr true .int a, .arr true .int b] (Is (.tuple [.bool true, .bool true]) [.rows true ll, .arr true .int a, .arr true .int b]) := by
  subst hc
  have h0 := implIsCover_call n m ll a b hr ha hb
  rw [h, isCover_ok h] at h0
  exact h0

theorem impF_call (n m : Int) (ll : List (List Int)) (c : Nat) (hc : c = ll.length) (hr : SmallR ll) (mt : List Int) (h : isMatch n m ll mt = true) (h2 : impB ll mt = false) (hm : mt.length ≤ 1048576) : ACall Try.prog 24 [.agg [.int .i64 n, .int .i64 m, .slice ⟨0, 0, 0, 1, 0⟩ c], .slice ⟨1, 0, 0, 1, 0⟩ mt.length] [.rows true ll, .arr true .int mt] (Is (.tuple [.slice ⟨2, 0, 0, 1, 0⟩ 0, .bool false]) [.rows true ll, .arr true .int mt, .arr false .int ([])]) := by
  subst hc
  have h0 := implImproveMatch_call n m ll mt hr hm
  rw [(im_ok h h2).1, (im_ok h h2).2] at h0
  exact h0

theorem sameIntsE_call (a b : List Int) (n m : Nat) (hn : n = a.length) (hm : m = b.length) (h : a = b) (ha : n ≤ 1048576) : ACall Try.prog 35 [.slice ⟨0, 0, 0, 1, 0⟩ n, .slice ⟨1, 0, 0, 1, 0⟩ m] [.arr true .int a, .arr true .int b] (Is (.bool true) [.arr true .int a, .arr true .int b]) := by
  subst h hn hm
  have h := sameInts_call a a ha
  rwa [show eqB a a = true by rw [eqB_true]] at h
abbrev PairDraw (f : FuncId) : Prop := ∀ (code : List Int), (∀ x ∈ code, 0 ≤ x ∧ x ≤ 255) → ACall Try.prog f [.slice ⟨0, 0, 0, 1, 0⟩ code.length] [.arr true .byte code] (Ex (fun i : Int × Int × List (List Int) => .agg [.int .i64 i.1, .int .i64 i.2.1, .slice ⟨1, 0, 0, 1, 0⟩ i.2.2.length]) (fun i => [.arr true .byte code, .rows false i.2.2]) (fun i => SmallR i.2.2))

theorem lawKonig_of (hdraw : PairDraw 34) (code : List Int) (hcode : ∀ x ∈ code, 0 ≤ x ∧ x ≤ 255) : ACall Try.prog 10 [.slice ⟨0, 0, 0, 1, 0⟩ code.length] [.arr true .byte code] (Is (.bool true) [.arr true .byte code]) := by
  refine ACall.walk T Try.func10 Try.ntmps10 Try.results10 rfl rfl rfl (Is.nv _ _) ?_
  repeat' (conv => whnf); first
    | refine AWP.seq ?_
    | refine AWP.reg T rfl ?_
    | refine AWP.drw T none rfl rfl rfl ?_
    | refine AWP.dep T none rfl rfl rfl rfl ?_
    | refine AWP.block ?_
    | refine AWP.condT rfl ?_
    | refine AWP.condF rfl ?_
    | refine AWP.cond rfl (fun hb => ?_) (fun hb => ?_)
    | refine AWP.ret ?_
    | refine AWP.exit ?_
    | refine AWP.skip ?_
    | refine GuardB.t ?_
    | refine GuardB.f ?_
    | refine GuardB.mk (fun hb => ?_) (fun hb => ?_)
    | refine NilQ.mk (fun hb => ?_) ?_
    | refine VC.mk Nat.zero_lt_one ?_
    | refine VC.mk rfl ?_
    | refine ACall.useEx3 [0] (hdraw code hcode) rfl (.cons (.same rfl rfl) (.nil _)) rfl (fun n m ll hr => boolSplit (goodP n m ll) (fun h => ?_) (fun h => ?_))
    | refine ACall.useIs [1] (implMatT_call n m ll _ rfl hr h) rfl (.cons (.ro rfl rfl) (.nil _)) rfl ?_
    | refine ACall.useIs [1] (implCovT_call n m ll _ rfl hr h) rfl (.cons (.ro rfl rfl) (.nil _)) rfl ?_
    | refine ACall.useIs [1] (implGoodPT_call n m ll _ rfl hr h) rfl (.cons (.ro rfl rfl) (.nil _)) rfl ?_
    | refine ACall.useIs [1] (implMatF_call n m ll _ rfl hr h) rfl (.cons (.ro rfl rfl) (.nil _)) rfl ?_
    | refine ACall.useIs [1] (implCovF_call n m ll _ rfl hr h) rfl (.cons (.ro rfl rfl) (.nil _)) rfl ?_
    | refine ACall.useIs [1] (implGoodPF_call n m ll _ rfl hr h) rfl (.cons (.ro rfl rfl) (.nil _)) rfl ?_
    | refine ACall.useIs [1] (specMatT_call n m ll _ rfl hr h) rfl (.cons (.ro rfl rfl) (.nil _)) rfl ?_
    | refine ACall.useIs [1] (specCovT_call n m ll _ rfl hr h) rfl (.cons (.ro rfl rfl) (.nil _)) rfl ?_
    | refine ACall.useIs [1] (specGoodPT_call n m ll _ rfl hr h) rfl (.cons (.ro rfl rfl) (.nil _)) rfl ?_
    | refine ACall.useIs [1] (specMatF_call n m ll _ rfl hr h) rfl (.cons (.ro rfl rfl) (.nil _)) rfl ?_
    | refine ACall.useIs [1] (specCovF_call n m ll _ rfl hr h) rfl (.cons (.ro rfl rfl) (.nil _)) rfl ?_
    | refine ACall.useIs [1] (specGoodPF_call n m ll _ rfl hr h) rfl (.cons (.ro rfl rfl) (.nil _)) rfl ?_
    | refine ACall.useIs [3, 4] (sameIntsE_call _ _ _ _ ?_ ?_ ?_ ?_) rfl (.cons (.ro rfl rfl) (.cons (.ro rfl rfl) (.nil _))) rfl ?_
    | refine ACall.useIs [5, 7] (sameIntsE_call _ _ _ _ ?_ ?_ ?_ ?_) rfl (.cons (.ro rfl rfl) (.cons (.ro rfl rfl) (.nil _))) rfl ?_
    | refine ACall.useIs [6, 8] (sameIntsE_call _ _ _ _ ?_ ?_ ?_ ?_) rfl (.cons (.ro rfl rfl) (.cons (.ro rfl rfl) (.nil _))) rfl ?_
    | refine AWP.while (ι := Nat) (fun k => St.of [(3, .ptr ⟨2, 0, 0, 3, 0⟩), (4, .slice ⟨3, 0, 0, 1, 0⟩ (bestM' ll n.toNat).length), (8, .slice ⟨4, 0, 0, 1, 0⟩ (coA n m ll).length), (9, .slice ⟨5, 0, 0, 1, 0⟩ (coR n m ll).length), (14, .int .i64 (prsN (bestM' ll n.toNat) k)), (87, .slice ⟨3, 0, 0, 1, 0⟩ (bestM' ll n.toNat).length), (88, .int .i64 ((bestM' ll n.toNat).length : Nat)), (89, .int .i64 k)] [.arr true .byte code, .rows true ll, .arr false (.raw 3) [[.int .i64 n, .int .i64 m, .slice ⟨1, 0, 0, 1, 0⟩ ll.length]], .arr true .int (bestM' ll n.toNat), .arr true .int (coA n m ll), .arr true .int (coR n m ll)]) (fun k => k ≤ (bestM' ll n.toNat).length) (fun k => (bestM' ll n.toNat).length - k) 0 (Nat.zero_le _)
        (Weak.of [0, 1, 2, 3, 5, 6] (.cons rfl rfl (.cons rfl rfl (.cons rfl rfl (.cons rfl rfl (.i rfl ?_ (.cons rfl rfl (.cons rfl rfl (.cons rfl rfl .nil)))))))) (.cons (.same rfl rfl) (.cons (.ro rfl rfl) (.cons (.same rfl rfl) (.cons (.ro rfl rfl) (.cons (.ro rfl rfl) (.cons (.ro rfl rfl) (.nil _))))))) rfl) (fun k hk => ?_)
    | refine roundEnd (k + 1) ?_ ?_ (Weak.of [0, 1, 2, 3, 4, 5] (.cons rfl rfl (.cons rfl rfl (.cons rfl rfl (.cons rfl rfl (.i rfl ?_ (.cons rfl rfl (.cons rfl rfl (.cons rfl rfl .nil)))))))) (.cons (.same rfl rfl) (.cons (.same rfl rfl) (.cons (.same rfl rfl) (.cons (.same rfl rfl) (.cons (.same rfl rfl) (.cons (.same rfl rfl) (.nil _))))))) rfl)
    | refine ACall.useIs [1, 3] (isMatT_call n m ll _ rfl hr _ (pair_end h).is ?_) rfl (.cons (.same rfl rfl) (.cons (.same rfl rfl) (.nil _))) rfl ?_
    | refine ACall.useIs [1, 4, 5] (isCovT_call n m ll _ rfl hr _ _ (pair_end h).cover ?_ ?_) rfl (.cons (.same rfl rfl) (.cons (.same rfl rfl) (.cons (.same rfl rfl) (.nil _)))) rfl ?_
    | refine ACall.useIs [1, 3] (impF_call n m ll _ rfl hr _ (pair_end h).is (pair_end h).no ?_) rfl (.cons (.same rfl rfl) (.cons (.same rfl rfl) (.nil _))) rfl ?_
    | refine Ret.bool [0] ?_ (.cons (.same rfl rfl) (.nil _)) rfl
    | refine VC.mk ?_ ?_
  all_goals try simp only [decide_eq_true_eq, decide_eq_false_iff_not, Bool.not_eq_true', Bool.not_eq_false', cond_true, cond_false, eqB_true, eqB_false] at *
  all_goals try simp only [in64, idxAdd_zero_left, Int.toNat_natCast, fillTo_length, Int.ofNat_lt, Int.ofNat_le, Int.natCast_inj] at *
  all_goals try have hbl := best_len h
  all_goals try have hcal := coA_le n m ll
  all_goals try have hcrl := coR_le n m ll
  all_goals try have hpn := prsN_rng (bestM' ll n.toNat) k
  all_goals try have hpp := (pair_end h).pairs
  all_goals first
    | omega
    | rfl
    | exact ⟨by omega, by omega⟩
    | exact Eq.refl true
    | (rw [prsN_zero]; done)
    | (rw [prsN_yes (by omega) (by omega)]; done)
    | (rw [prsN_no (by omega) (by omega)]; done)
    | (have e := prsN_all (mt := bestM' ll n.toNat) (k := k) (by omega)
       first
       | omega
       | (rw [eq_comm, decide_eq_true_eq, e]; omega)
       | (rw [decide_eq_true_eq, e]; omega))
    | (exfalso; simp at *; done)
    | (exfalso; omega)

end YtofjbgpaofcpjaaAM
