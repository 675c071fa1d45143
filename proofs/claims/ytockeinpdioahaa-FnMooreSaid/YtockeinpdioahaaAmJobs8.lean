/- Contracts of functions of this seat. -/
import Derived.Test.YtockeinpdioahaaAmTabJobs
import Derived.Test.YtockeinpdioahaaAmModels
import Derived.Test.YtockeinpdioahaaAmJobs7
import Derived.Test.YtockeinpdioahaaAmDrawsY
set_option linter.unusedVariables false
set_option linter.unusedSimpArgs false
set_option maxRecDepth 100000
set_option maxHeartbeats 4000000
namespace YtockeinpdioahaaAM
open Go Go.Proofs
attribute [local irreducible] rangeI goodJobs joB ordB byA byL lng due lateM lateN sumL mooA sortI flL bdL ofL someB loL lnL hasB selN NextOk PickOk OneOk AmongOk

theorem bdL_yes {l : List S2} (h : goodJobs l = true) : bdL l = byA l := by unfold bdL; rw [if_pos h]
theorem bdL_no {l : List S2} (h : goodJobs l = false) : bdL l = [] := by unfold bdL; rw [if_neg (by rw [h]; simp)]
theorem ofOk_yes {l : List S2} {s : List Int} (h : goodJobs l = true) (hs : someB s l.length = true) : ofOk l s = true := by unfold ofOk; rw [h, hs]; rfl
theorem ofL_none {l : List S2} {s : List Int} (h : ofOk l s = false) : ofL l s = [] := by unfold ofL; rw [if_neg]; unfold ofOk at h; rw [h]; simp

theorem implLatenessOfT_call (l : List S2) (o : List Int) (n : Nat) (hn : n = o.length) (hj : joB l o = true) (hl : l.length ≤ 1048576) (ho : n ≤ 1048576) : ACall Try.prog 33 [.slice ⟨0, 0, 0, 2, 0⟩ l.length, .slice ⟨1, 0, 0, 1, 0⟩ n] [.arr true .s2 l, .arr true .int o] (Is (.tuple [.int .i64 (lateM (lng l) (due l) o), .bool true]) [.arr true .s2 l, .arr true .int o]) := by
  subst hn
  have h := implLatenessOf_call l o hl ho
  rw [hj, loL_yes hj] at h
  exact h

theorem implLatenessOfF_call (l : List S2) (o : List Int) (n : Nat) (hn : n = o.length) (hj : joB l o = false) (hl : l.length ≤ 1048576) (ho : n ≤ 1048576) : ACall Try.prog 33 [.slice ⟨0, 0, 0, 2, 0⟩ l.length, .slice ⟨1, 0, 0, 1, 0⟩ n] [.arr true .s2 l, .arr true .int o] (Is (.tuple [.int .i64 0, .bool false]) [.arr true .s2 l, .arr true .int o]) := by
  subst hn
  have h := implLatenessOf_call l o hl ho
  rw [hj, loL_no hj] at h
  exact h

theorem implLateInT_call (l : List S2) (o : List Int) (n : Nat) (hn : n = o.length) (hj : joB l o = true) (hl : l.length ≤ 1048576) (ho : n ≤ 1048576) : ACall Try.prog 35 [.slice ⟨0, 0, 0, 2, 0⟩ l.length, .slice ⟨1, 0, 0, 1, 0⟩ n] [.arr true .s2 l, .arr true .int o] (Is (.tuple [.int .i64 ((lateN (lng l) (due l) o 0 : Nat)), .bool true]) [.arr true .s2 l, .arr true .int o]) := by
  subst hn
  have h := implLateIn_call l o hl ho
  rw [hj, lnL_yes hj] at h
  exact h

theorem implLateInF_call (l : List S2) (o : List Int) (n : Nat) (hn : n = o.length) (hj : joB l o = false) (hl : l.length ≤ 1048576) (ho : n ≤ 1048576) : ACall Try.prog 35 [.slice ⟨0, 0, 0, 2, 0⟩ l.length, .slice ⟨1, 0, 0, 1, 0⟩ n] [.arr true .s2 l, .arr true .int o] (Is (.tuple [.int .i64 0, .bool false]) [.arr true .s2 l, .arr true .int o]) := by
  subst hn
  have h := implLateIn_call l o hl ho
  rw [hj, lnL_no hj] at h
  exact h

theorem implByDueT_call (l : List S2) (hg : goodJobs l = true) (hl : l.length ≤ 1048576) : ACall Try.prog 22 [.slice ⟨0, 0, 0, 2, 0⟩ l.length] [.arr true .s2 l] (Is (.tuple [.slice ⟨1, 0, 0, 1, 0⟩ l.length, .bool true]) [.arr true .s2 l, .arr false .int (byA l)]) := by
  have h := implByDue_call l hl
  rw [hg, bdL_yes hg, byA_len] at h
  exact h

theorem implByDueF_call (l : List S2) (hg : goodJobs l = false) (hl : l.length ≤ 1048576) : ACall Try.prog 22 [.slice ⟨0, 0, 0, 2, 0⟩ l.length] [.arr true .s2 l] (Is (.tuple [.slice ⟨1, 0, 0, 1, 0⟩ 0, .bool false]) [.arr true .s2 l, .arr false .int ([])]) := by
  have h := implByDue_call l hl
  rw [hg, bdL_no hg] at h
  exact h

theorem implFewT_call (l : List S2) (hg : goodJobs l = true) (hl : l.length ≤ 1048576) : ACall Try.prog 37 [.slice ⟨0, 0, 0, 2, 0⟩ l.length] [.arr true .s2 l] (Is (.tuple [.slice ⟨1, 0, 0, 1, 0⟩ (mooA l).length, .bool true]) [.arr true .s2 l, .arr false .int (sortI (mooA l))]) := by
  have h := implFewestLate_call l hl
  rw [hg, flL_yes hg, sortI_len] at h
  exact h

theorem implFewF_call (l : List S2) (hg : goodJobs l = false) (hl : l.length ≤ 1048576) : ACall Try.prog 37 [.slice ⟨0, 0, 0, 2, 0⟩ l.length] [.arr true .s2 l] (Is (.tuple [.slice ⟨1, 0, 0, 1, 0⟩ 0, .bool false]) [.arr true .s2 l, .arr false .int ([])]) := by
  have h := implFewestLate_call l hl
  rw [hg, flL_no hg] at h
  exact h

theorem implOrderT_call (l : List S2) (o : List Int) (n : Nat) (hn : n = o.length) (hg : goodJobs l = true) (hs : someB o l.length = true) (hl : l.length ≤ 1048576) (ho : n ≤ 1048576) : ACall Try.prog 29 [.slice ⟨0, 0, 0, 2, 0⟩ l.length, .slice ⟨1, 0, 0, 1, 0⟩ n] [.arr true .s2 l, .arr true .int o] (Is (.tuple [.slice ⟨2, 0, 0, 1, 0⟩ l.length, .bool true]) [.arr true .s2 l, .arr true .int o, .arr false .int (ofL l o)]) := by
  subst hn
  have h := implOrderFor_call l o hl ho
  rw [ofOk_yes hg hs, of_len hg hs] at h
  exact h

theorem implOrderF_call (l : List S2) (o : List Int) (n : Nat) (hn : n = o.length) (hs : ofOk l o = false) (hl : l.length ≤ 1048576) (ho : n ≤ 1048576) : ACall Try.prog 29 [.slice ⟨0, 0, 0, 2, 0⟩ l.length, .slice ⟨1, 0, 0, 1, 0⟩ n] [.arr true .s2 l, .arr true .int o] (Is (.tuple [.slice ⟨2, 0, 0, 1, 0⟩ 0, .bool false]) [.arr true .s2 l, .arr true .int o, .arr false .int ([])]) := by
  subst hn
  have h := implOrderFor_call l o hl ho
  rw [hs, ofL_none hs] at h
  exact h

theorem specLatenessOfT_call (l : List S2) (o : List Int) (n : Nat) (hn : n = o.length) (hj : joB l o = true) (hl : l.length ≤ 1048576) (ho : n ≤ 1048576) : ACall Try.prog 32 [.slice ⟨0, 0, 0, 2, 0⟩ l.length, .slice ⟨1, 0, 0, 1, 0⟩ n] [.arr true .s2 l, .arr true .int o] (Is (.tuple [.int .i64 (lateM (lng l) (due l) o), .bool true]) [.arr true .s2 l, .arr true .int o]) := by
  subst hn
  have h := specLatenessOf_call l o hl ho
  rw [hj, loL_yes hj] at h
  exact h

theorem specLatenessOfF_call (l : List S2) (o : List Int) (n : Nat) (hn : n = o.length) (hj : joB l o = false) (hl : l.length ≤ 1048576) (ho : n ≤ 1048576) : ACall Try.prog 32 [.slice ⟨0, 0, 0, 2, 0⟩ l.length, .slice ⟨1, 0, 0, 1, 0⟩ n] [.arr true .s2 l, .arr true .int o] (Is (.tuple [.int .i64 0, .bool false]) [.arr true .s2 l, .arr true .int o]) := by
  subst hn
  have h := specLatenessOf_call l o hl ho
  rw [hj, loL_no hj] at h
  exact h

theorem specLateInT_call (l : List S2) (o : List Int) (n : Nat) (hn : n = o.length) (hj : joB l o = true) (hl : l.length ≤ 1048576) (ho : n ≤ 1048576) : ACall Try.prog 34 [.slice ⟨0, 0, 0, 2, 0⟩ l.length, .slice ⟨1, 0, 0, 1, 0⟩ n] [.arr true .s2 l, .arr true .int o] (Is (.tuple [.int .i64 ((lateN (lng l) (due l) o 0 : Nat)), .bool true]) [.arr true .s2 l, .arr true .int o]) := by
  subst hn
  have h := specLateIn_call l o hl ho
  rw [hj, lnL_yes hj] at h
  exact h

theorem specLateInF_call (l : List S2) (o : List Int) (n : Nat) (hn : n = o.length) (hj : joB l o = false) (hl : l.length ≤ 1048576) (ho : n ≤ 1048576) : ACall Try.prog 34 [.slice ⟨0, 0, 0, 2, 0⟩ l.length, .slice ⟨1, 0, 0, 1, 0⟩ n] [.arr true .s2 l, .arr true .int o] (Is (.tuple [.int .i64 0, .bool false]) [.arr true .s2 l, .arr true .int o]) := by
  subst hn
  have h := specLateIn_call l o hl ho
  rw [hj, lnL_no hj] at h
  exact h

theorem specByDueT_call (l : List S2) (hg : goodJobs l = true) (hl : l.length ≤ 1048576) : ACall Try.prog 21 [.slice ⟨0, 0, 0, 2, 0⟩ l.length] [.arr true .s2 l] (Is (.tuple [.slice ⟨1, 0, 0, 1, 0⟩ l.length, .bool true]) [.arr true .s2 l, .arr false .int (byA l)]) := by
  have h := specByDue_call l hl
  rw [hg, bdL_yes hg, byA_len] at h
  exact h

theorem specByDueF_call (l : List S2) (hg : goodJobs l = false) (hl : l.length ≤ 1048576) : ACall Try.prog 21 [.slice ⟨0, 0, 0, 2, 0⟩ l.length] [.arr true .s2 l] (Is (.tuple [.slice ⟨1, 0, 0, 1, 0⟩ 0, .bool false]) [.arr true .s2 l, .arr false .int ([])]) := by
  have h := specByDue_call l hl
  rw [hg, bdL_no hg] at h
  exact h

theorem specFewT_call (l : List S2) (hg : goodJobs l = true) (hl : l.length ≤ 1048576) : ACall Try.prog 36 [.slice ⟨0, 0, 0, 2, 0⟩ l.length] [.arr true .s2 l] (Is (.tuple [.slice ⟨1, 0, 0, 1, 0⟩ (mooA l).length, .bool true]) [.arr true .s2 l, .arr false .int (sortI (mooA l))]) := by
  have h := specFewestLate_call l hl
  rw [hg, flL_yes hg, sortI_len] at h
  exact h

theorem specFewF_call (l : List S2) (hg : goodJobs l = false) (hl : l.length ≤ 1048576) : ACall Try.prog 36 [.slice ⟨0, 0, 0, 2, 0⟩ l.length] [.arr true .s2 l] (Is (.tuple [.slice ⟨1, 0, 0, 1, 0⟩ 0, .bool false]) [.arr true .s2 l, .arr false .int ([])]) := by
  have h := specFewestLate_call l hl
  rw [hg, flL_no hg] at h
  exact h

theorem specOrderT_call (l : List S2) (o : List Int) (n : Nat) (hn : n = o.length) (hg : goodJobs l = true) (hs : someB o l.length = true) (hl : l.length ≤ 1048576) (ho : n ≤ 1048576) : ACall Try.prog 27 [.slice ⟨0, 0, 0, 2, 0⟩ l.length, .slice ⟨1, 0, 0, 1, 0⟩ n] [.arr true .s2 l, .arr true .int o] (Is (.tuple [.slice ⟨2, 0, 0, 1, 0⟩ l.length, .bool true]) [.arr true .s2 l, .arr true .int o, .arr false .int (ofL l o)]) := by
  subst hn
  have h := specOrderFor_call l o hl ho
  rw [ofOk_yes hg hs, of_len hg hs] at h
  exact h

theorem specOrderF_call (l : List S2) (o : List Int) (n : Nat) (hn : n = o.length) (hs : ofOk l o = false) (hl : l.length ≤ 1048576) (ho : n ≤ 1048576) : ACall Try.prog 27 [.slice ⟨0, 0, 0, 2, 0⟩ l.length, .slice ⟨1, 0, 0, 1, 0⟩ n] [.arr true .s2 l, .arr true .int o] (Is (.tuple [.slice ⟨2, 0, 0, 1, 0⟩ 0, .bool false]) [.arr true .s2 l, .arr true .int o, .arr false .int ([])]) := by
  subst hn
  have h := specOrderFor_call l o hl ho
  rw [hs, ofL_none hs] at h
  exact h

theorem goodT_call (l : List S2) (hg : goodJobs l = true) (hl : l.length ≤ 1048576) : ACall Try.prog 19 [.slice ⟨0, 0, 0, 2, 0⟩ l.length] [.arr true .s2 l] (Is (.bool true) [.arr true .s2 l]) := by
  have h := implGoodJobs_call l hl
  rw [hg] at h
  exact h

theorem goodF_call (l : List S2) (hg : goodJobs l = false) (hl : l.length ≤ 1048576) : ACall Try.prog 19 [.slice ⟨0, 0, 0, 2, 0⟩ l.length] [.arr true .s2 l] (Is (.bool false) [.arr true .s2 l]) := by
  have h := implGoodJobs_call l hl
  rw [hg] at h
  exact h

theorem ordT_call (l : List S2) (o : List Int) (n : Nat) (hn : n = o.length) (hj : joB l o = true) (hl : l.length ≤ 1048576) (ho : n ≤ 1048576) : ACall Try.prog 31 [.slice ⟨0, 0, 0, 2, 0⟩ l.length, .slice ⟨1, 0, 0, 1, 0⟩ n] [.arr true .s2 l, .arr true .int o] (Is (.bool true) [.arr true .s2 l, .arr true .int o]) := by
  subst hn
  have h := implIsJobOrder_call l o hl ho
  rw [hj] at h
  exact h

theorem ordF_call (l : List S2) (o : List Int) (n : Nat) (hn : n = o.length) (hj : joB l o = false) (hl : l.length ≤ 1048576) (ho : n ≤ 1048576) : ACall Try.prog 31 [.slice ⟨0, 0, 0, 2, 0⟩ l.length, .slice ⟨1, 0, 0, 1, 0⟩ n] [.arr true .s2 l, .arr true .int o] (Is (.bool false) [.arr true .s2 l, .arr true .int o]) := by
  subst hn
  have h := implIsJobOrder_call l o hl ho
  rw [hj] at h
  exact h

theorem sameIntsE_call (a b : List Int) (n m : Nat) (hn : n = a.length) (hm : m = b.length) (h : a = b) (ha : n ≤ 1048576) : ACall Try.prog 39 [.slice ⟨0, 0, 0, 1, 0⟩ n, .slice ⟨1, 0, 0, 1, 0⟩ m] [.arr true .int a, .arr true .int b] (Is (.bool true) [.arr true .int a, .arr true .int b]) := by
  subst h hn hm
  have h := sameInts_call a a ha
  rwa [show eqB a a = true by rw [eqB_true]] at h
theorem swap_jo2 {l : List S2} (h : goodJobs l = true) {k : Nat} (hk : k + 1 < l.length) : joB l (((sub [] 0 0 ++ sub (byA l) 0 l.length).set k ((byA l).getD ((k : Int) + 1).toNat 0)).set ((k : Int) + 1).toNat ((byA l).getD k 0)) = true := by
  rw [show ((k : Int) + 1).toNat = k + 1 by omega]; exact swap_jo h hk
theorem era_late {l : List S2} (hg : goodJobs l = true) {x : List Int} (hx : joB l x = true) : ¬ lateM (lng l) (due l) x < lateM (lng l) (due l) (byA l) := by have := by_best hg hx; omega

theorem lawJackson_call (code : List Int) (hcode : ∀ x ∈ code, 0 ≤ x ∧ x ≤ 255) (hcl : code.length ≤ 9223372036854775807) : ACall Try.prog 11 [.slice ⟨0, 0, 0, 1, 0⟩ code.length] [.arr true .byte code] (Is (.bool true) [.arr true .byte code]) := by
  refine ACall.walk T Try.func11 Try.ntmps11 Try.results11 rfl rfl rfl (Is.nv _ _) ?_
  repeat' (conv => whnf); first
    | refine AWP.cond rfl (fun hb => absurd (of_decide_eq_true hb) (by omega)) (fun hb => ?_)
    | refine AWP.seq ?_
    | refine AWP.reg T rfl ?_
    | refine AWP.drw T none rfl rfl rfl ?_
    | refine AWP.dep T none rfl rfl rfl rfl ?_
    | refine AWP.block ?_
    | refine AWP.condT rfl ?_
    | refine AWP.condF rfl ?_
    | refine AWP.cond rfl (fun hb => ?_) (fun hb => ?_)
    | refine AWP.ret ?_
    | refine AWP.exit ?_
    | refine AWP.skip ?_
    | refine GuardB.t ?_
    | refine GuardB.f ?_
    | refine GuardB.mk (fun hb => ?_) (fun hb => ?_)
    | refine NilQ.mk (fun hb => ?_) ?_
    | refine VC.mk Nat.zero_lt_one ?_
    | refine VC.mk rfl ?_
    | refine ACall.useEx2 [0] (drawLateness_call code hcode) rfl (.cons (.same rfl rfl) (.nil _)) rfl (fun l o hlo => boolSplit (goodJobs l) (fun hg => boolSplit (joB l o) (fun hj => ?_) (fun hj => ?_)) (fun hg => ?_))
    | refine ACall.useIs [1, 2] (implLatenessOfT_call l o o.length rfl hj ?_ ?_) rfl (.cons (.ro rfl rfl) (.cons (.ro rfl rfl) (.nil _))) rfl ?_
    | refine ACall.useIs [1, 2] (implLatenessOfF_call l o o.length rfl hj ?_ ?_) rfl (.cons (.ro rfl rfl) (.cons (.ro rfl rfl) (.nil _))) rfl ?_
    | refine ACall.useIs [1, 2] (implLatenessOfF_call l o o.length rfl (joB_no1 hg) ?_ ?_) rfl (.cons (.ro rfl rfl) (.cons (.ro rfl rfl) (.nil _))) rfl ?_
    | refine ACall.useIs [1] (implByDueT_call l hg ?_) rfl (.cons (.ro rfl rfl) (.nil _)) rfl ?_
    | refine ACall.useIs [1] (implByDueF_call l hg ?_) rfl (.cons (.ro rfl rfl) (.nil _)) rfl ?_
    | refine ACall.useIs [1, 2] (specLatenessOfT_call l o o.length rfl hj ?_ ?_) rfl (.cons (.ro rfl rfl) (.cons (.ro rfl rfl) (.nil _))) rfl ?_
    | refine ACall.useIs [1, 2] (specLatenessOfF_call l o o.length rfl hj ?_ ?_) rfl (.cons (.ro rfl rfl) (.cons (.ro rfl rfl) (.nil _))) rfl ?_
    | refine ACall.useIs [1, 2] (specLatenessOfF_call l o o.length rfl (joB_no1 hg) ?_ ?_) rfl (.cons (.ro rfl rfl) (.cons (.ro rfl rfl) (.nil _))) rfl ?_
    | refine ACall.useIs [1] (specByDueT_call l hg ?_) rfl (.cons (.ro rfl rfl) (.nil _)) rfl ?_
    | refine ACall.useIs [1] (specByDueF_call l hg ?_) rfl (.cons (.ro rfl rfl) (.nil _)) rfl ?_
    | refine ACall.useIs [1] (goodT_call l hg ?_) rfl (.cons (.ro rfl rfl) (.nil _)) rfl ?_
    | refine ACall.useIs [1] (goodF_call l hg ?_) rfl (.cons (.ro rfl rfl) (.nil _)) rfl ?_
    | refine ACall.useIs [1, 2] (ordT_call l o o.length rfl hj ?_ ?_) rfl (.cons (.ro rfl rfl) (.cons (.ro rfl rfl) (.nil _))) rfl ?_
    | refine ACall.useIs [1, 2] (ordF_call l o o.length rfl hj ?_ ?_) rfl (.cons (.ro rfl rfl) (.cons (.ro rfl rfl) (.nil _))) rfl ?_
    | refine ACall.useIs [1, 2] (ordF_call l o o.length rfl (joB_no1 hg) ?_ ?_) rfl (.cons (.ro rfl rfl) (.cons (.ro rfl rfl) (.nil _))) rfl ?_
    | refine ACall.useIs [3, 4] (sameIntsE_call _ _ _ _ ?_ ?_ ?_ ?_) rfl (.cons (.ro rfl rfl) (.cons (.ro rfl rfl) (.nil _))) rfl ?_
    | refine ACall.useIs [1, 3] (implLatenessOfT_call l (byA l) l.length ?_ (byA_jo hg) ?_ ?_) rfl (.cons (.ro rfl rfl) (.cons (.ro rfl rfl) (.nil _))) rfl ?_
    | refine AWP.while (ι := Nat) (fun k => St.of [(3, .slice ⟨1, 0, 0, 2, 0⟩ l.length), (9, .slice ⟨2, 0, 0, 1, 0⟩ l.length), (13, .int .i64 (lateM (lng l) (due l) (byA l))), (15, .int .i64 k)] [.arr true .byte code, .arr false .s2 l, .arr true .int (byA l)]) (fun k => k ≤ l.length) (fun k => l.length - k) 0 (Nat.zero_le _)
        (Weak.of [0, 1, 3] (.cons rfl rfl (.cons rfl rfl (.cons rfl rfl (.cons rfl rfl .nil)))) (.cons (.same rfl rfl) (.cons (.same rfl rfl) (.cons (.ro rfl rfl) (.nil _)))) rfl) (fun k hk => ?_)
    | refine ACall.useIs [1, 4] (implLatenessOfT_call l _ _ ?_ ?_ ?_ ?_) rfl (.cons (.ro rfl rfl) (.cons (.ro rfl rfl) (.nil _))) rfl ?_
    | refine roundEnd (k + 1) ?_ ?_ (Weak.of [0, 1, 2] (.cons rfl rfl (.cons rfl rfl (.cons rfl rfl (.cons rfl rfl .nil)))) (.cons (.same rfl rfl) (.cons (.same rfl rfl) (.cons (.same rfl rfl) (.nil _)))) rfl)
    | refine Ret.bool [0] ?_ (.cons (.same rfl rfl) (.nil _)) rfl
    | refine VC.mk ?_ ?_
  all_goals try simp only [decide_eq_true_eq, decide_eq_false_iff_not, Bool.not_eq_true', Bool.not_eq_false', cond_true, cond_false, eqB_true, eqB_false] at *
  all_goals try simp only [in64, idxAdd_zero_left, Int.toNat_natCast, fillTo_length, Int.ofNat_lt, Int.ofNat_le, Int.natCast_inj] at *
  all_goals try have hlo1 := hlo.1
  all_goals try have hlo2 := hlo.2
  all_goals try have hbl := byA_len l
  all_goals try simp only [List.length_append, List.length_set, sub_lenM, List.length_nil] at *
  all_goals first
    | omega
    | exact ⟨by omega, by omega⟩
    | exact Eq.refl true
    | rfl
    | (refine ⟨?_, ?_, ?_⟩ <;> first | omega | (simp; done))
    | exact (byA_len l).symm
    | (rw [eq_comm, decide_eq_true_eq]; omega)
    | (rw [decide_eq_true_eq]; omega)
    | exact swap_jo2 hg (by omega)
    | (exfalso; have := by_best hg (swap_jo2 hg (by omega : k + 1 < l.length)); omega)
    | (have := by_best hg hj; omega)
    | (exfalso; have := by_best hg hj; omega)
    | (exfalso; simp at *; done)
    | (exfalso; omega)

theorem ofOk_good {l : List S2} {s : List Int} (h : ofOk l s = true) : goodJobs l = true := by unfold ofOk at h; simp at h; exact h.1
theorem ofOk_some {l : List S2} {s : List Int} (h : ofOk l s = true) : someB s l.length = true := by unfold ofOk at h; simp at h; exact h.2
def selP (more : List Int) (x : Int) : Bool := decide (x.toNat < more.length) && decide ((more.getD x.toNat 0).tmod 2 = 0)
theorem sel_yes {more : List Int} {k : Nat} (h1 : k < more.length) (h2 : (more.getD k 0).tmod 2 = 0) : (selN (fun x => decide (x.toNat < more.length) && decide ((more.getD x.toNat 0).tmod 2 = 0)) (k + 1)) = selN (fun x => decide (x.toNat < more.length) && decide ((more.getD x.toNat 0).tmod 2 = 0)) k ++ [(k : Int)] := selN_yes (by simp only [Int.toNat_natCast]; rw [decide_eq_true h1, decide_eq_true h2]; rfl)
theorem sel_no1 {more : List Int} {k : Nat} (h1 : ¬ k < more.length) : (selN (fun x => decide (x.toNat < more.length) && decide ((more.getD x.toNat 0).tmod 2 = 0)) (k + 1)) = selN (fun x => decide (x.toNat < more.length) && decide ((more.getD x.toNat 0).tmod 2 = 0)) k := selN_no (by simp only [Int.toNat_natCast]; rw [decide_eq_false h1]; rfl)
theorem sel_no2 {more : List Int} {k : Nat} (h2 : ¬ (more.getD k 0).tmod 2 = 0) : (selN (fun x => decide (x.toNat < more.length) && decide ((more.getD x.toNat 0).tmod 2 = 0)) (k + 1)) = selN (fun x => decide (x.toNat < more.length) && decide ((more.getD x.toNat 0).tmod 2 = 0)) k := selN_no (by simp only [Int.toNat_natCast]; rw [decide_eq_false h2, Bool.and_false])
theorem sub_app1 (a : List Int) (x : Int) : sub a 0 a.length ++ sub [x] 0 1 = a ++ [x] := by rw [sub_all' rfl]; rfl
theorem selOrder_call (l : List S2) (more : List Int) (k : Nat) (hk : k = l.length) (hg : goodJobs l = true) (hl : l.length ≤ 1048576) : ACall Try.prog 29 [.slice ⟨0, 0, 0, 2, 0⟩ l.length, .slice ⟨1, 0, 0, 1, 0⟩ (selN (fun x => decide (x.toNat < more.length) && decide ((more.getD x.toNat 0).tmod 2 = 0)) k).length] [.arr true .s2 l, .arr true .int (selN (fun x => decide (x.toNat < more.length) && decide ((more.getD x.toNat 0).tmod 2 = 0)) k)] (Is (.tuple [.slice ⟨2, 0, 0, 1, 0⟩ l.length, .bool true]) [.arr true .s2 l, .arr true .int (selN (fun x => decide (x.toNat < more.length) && decide ((more.getD x.toNat 0).tmod 2 = 0)) k), .arr false .int (ofL l (selN (fun x => decide (x.toNat < more.length) && decide ((more.getD x.toNat 0).tmod 2 = 0)) k))]) := by
  subst hk
  have hs := sel_some (fun x => decide (x.toNat < more.length) && decide ((more.getD x.toNat 0).tmod 2 = 0)) l.length
  have hle := selN_le (fun x => decide (x.toNat < more.length) && decide ((more.getD x.toNat 0).tmod 2 = 0)) l.length
  exact implOrderT_call l _ _ rfl hg hs hl (by omega)
theorem selLate_call (l : List S2) (more : List Int) (k : Nat) (hk : k = l.length) (hg : goodJobs l = true) (hl : l.length ≤ 1048576) : ACall Try.prog 35 [.slice ⟨0, 0, 0, 2, 0⟩ l.length, .slice ⟨1, 0, 0, 1, 0⟩ l.length] [.arr true .s2 l, .arr true .int (ofL l (selN (fun x => decide (x.toNat < more.length) && decide ((more.getD x.toNat 0).tmod 2 = 0)) k))] (Is (.tuple [.int .i64 (lateN (lng l) (due l) (ofL l (selN (fun x => decide (x.toNat < more.length) && decide ((more.getD x.toNat 0).tmod 2 = 0)) k)) 0 : Nat), .bool true]) [.arr true .s2 l, .arr true .int (ofL l (selN (fun x => decide (x.toNat < more.length) && decide ((more.getD x.toNat 0).tmod 2 = 0)) k))]) := by
  subst hk
  have hs := sel_some (fun x => decide (x.toNat < more.length) && decide ((more.getD x.toNat 0).tmod 2 = 0)) l.length
  exact implLateInT_call l _ _ (of_len hg hs).symm (of_jo hg hs) hl hl
theorem selLate_ge {l : List S2} (more : List Int) {k : Nat} (hk : k = l.length) (hg : goodJobs l = true) : lateN (lng l) (due l) (ofL l (sortI (mooA l))) 0 ≤ lateN (lng l) (due l) (ofL l (selN (fun x => decide (x.toNat < more.length) && decide ((more.getD x.toNat 0).tmod 2 = 0)) k)) 0 := by
  subst hk
  have h1 := moo_late hg
  have h2 := late_ge_moo hg (of_ord hg (sel_some (fun x => decide (x.toNat < more.length) && decide ((more.getD x.toNat 0).tmod 2 = 0)) l.length))
  omega

theorem lawMoore_call (code more : List Int) (hcode : ∀ x ∈ code, 0 ≤ x ∧ x ≤ 255) (hmore : ∀ x ∈ more, 0 ≤ x ∧ x ≤ 255) : ACall Try.prog 12 [.slice ⟨0, 0, 0, 1, 0⟩ code.length, .slice ⟨1, 0, 0, 1, 0⟩ more.length] [.arr true .byte code, .arr true .byte more] (Is (.bool true) [.arr true .byte code, .arr true .byte more]) := by
  refine ACall.walk T Try.func12 Try.ntmps12 Try.results12 rfl rfl rfl (Is.nv _ _) ?_
  repeat' (conv => whnf); first
    | refine AWP.regX (id := 1) T 4 rfl ?_
    | refine AWP.seqTo (x := .seq _ (.cond (.tmp 83) _ _)) (fun _ : Unit => St.of [(1, .slice ⟨1, 0, 0, 1, 0⟩ more.length)] [.arr true .byte code, .arr true .byte more]) (fun _ => True) ?_ (fun _ _ => ?_)
    | refine ⟨(), _, trivial, Weak.of [0, 1] (.cons rfl rfl .nil) (.cons (.same rfl rfl) (.cons (.same rfl rfl) (.nil _))) rfl⟩
    | refine AWP.cond rfl (fun hb => absurd (of_decide_eq_true hb) (by omega)) (fun hb => ?_)
    | refine AWP.seq ?_
    | refine AWP.reg T rfl ?_
    | refine AWP.drw T none rfl rfl rfl ?_
    | refine AWP.dep T none rfl rfl rfl rfl ?_
    | refine AWP.block ?_
    | refine AWP.condT rfl ?_
    | refine AWP.condF rfl ?_
    | refine AWP.cond rfl (fun hb => ?_) (fun hb => ?_)
    | refine AWP.ret ?_
    | refine AWP.exit ?_
    | refine AWP.skip ?_
    | refine GuardB.t ?_
    | refine GuardB.f ?_
    | refine GuardB.mk (fun hb => ?_) (fun hb => ?_)
    | refine NilQ.mk (fun hb => ?_) ?_
    | refine VC.mk Nat.zero_lt_one ?_
    | refine VC.mk rfl ?_
    | refine ACall.useEx2 [0] (drawLateIn_call code hcode) rfl (.cons (.same rfl rfl) (.nil _)) rfl (fun l o hlo => boolSplit (goodJobs l) (fun hg => boolSplit (joB l o) (fun hj => ?_) (fun hj => ?_)) (fun hg => ?_))
    | refine ACall.useEx2 [1] (drawOrderFor_call more hmore) rfl (.cons (.same rfl rfl) (.nil _)) rfl (fun m s hms => boolSplit (ofOk m s) (fun hs => ?_) (fun hs => ?_))
    | refine ACall.useIs [2, 3] (implLateInT_call l o o.length rfl hj ?_ ?_) rfl (.cons (.ro rfl rfl) (.cons (.ro rfl rfl) (.nil _))) rfl ?_
    | refine ACall.useIs [2, 3] (implLateInF_call l o o.length rfl hj ?_ ?_) rfl (.cons (.ro rfl rfl) (.cons (.ro rfl rfl) (.nil _))) rfl ?_
    | refine ACall.useIs [2, 3] (implLateInF_call l o o.length rfl (joB_no1 hg) ?_ ?_) rfl (.cons (.ro rfl rfl) (.cons (.ro rfl rfl) (.nil _))) rfl ?_
    | refine ACall.useIs [2] (implFewT_call l hg ?_) rfl (.cons (.ro rfl rfl) (.nil _)) rfl ?_
    | refine ACall.useIs [2] (implFewF_call l hg ?_) rfl (.cons (.ro rfl rfl) (.nil _)) rfl ?_
    | refine ACall.useIs [2, 3] (specLateInT_call l o o.length rfl hj ?_ ?_) rfl (.cons (.ro rfl rfl) (.cons (.ro rfl rfl) (.nil _))) rfl ?_
    | refine ACall.useIs [2, 3] (specLateInF_call l o o.length rfl hj ?_ ?_) rfl (.cons (.ro rfl rfl) (.cons (.ro rfl rfl) (.nil _))) rfl ?_
    | refine ACall.useIs [2, 3] (specLateInF_call l o o.length rfl (joB_no1 hg) ?_ ?_) rfl (.cons (.ro rfl rfl) (.cons (.ro rfl rfl) (.nil _))) rfl ?_
    | refine ACall.useIs [2] (specFewT_call l hg ?_) rfl (.cons (.ro rfl rfl) (.nil _)) rfl ?_
    | refine ACall.useIs [2] (specFewF_call l hg ?_) rfl (.cons (.ro rfl rfl) (.nil _)) rfl ?_
    | refine ACall.useIs [4, 5] (sameIntsE_call _ _ _ _ ?_ ?_ ?_ ?_) rfl (.cons (.ro rfl rfl) (.cons (.ro rfl rfl) (.nil _))) rfl ?_
    | refine ACall.useIs [2, 4] (implOrderT_call l (sortI (mooA l)) (mooA l).length (sortI_len _).symm hg (moo_some l) ?_ ?_) rfl (.cons (.ro rfl rfl) (.cons (.ro rfl rfl) (.nil _))) rfl ?_
    | refine ACall.useIs [2, 6] (implLateInT_call l (ofL l (sortI (mooA l))) l.length (of_len hg (moo_some l)).symm (of_jo hg (moo_some l)) ?_ ?_) rfl (.cons (.ro rfl rfl) (.cons (.ro rfl rfl) (.nil _))) rfl ?_
    | refine AWP.while (ι := Nat) (fun k => St.of [(1, .slice ⟨1, 0, 0, 1, 0⟩ more.length), (5, .slice ⟨2, 0, 0, 2, 0⟩ l.length), (17, .int .i64 (lateN (lng l) (due l) (ofL l (sortI (mooA l))) 0 : Nat)), (19, .slice ⟨3, 0, 0, 1, 0⟩ (selN (fun x => decide (x.toNat < more.length) && decide ((more.getD x.toNat 0).tmod 2 = 0)) k).length), (120, .int .i64 l.length), (121, .int .i64 k)] [.arr true .byte code, .arr true .byte more, .arr false .s2 l, .arr false .int (selN (fun x => decide (x.toNat < more.length) && decide ((more.getD x.toNat 0).tmod 2 = 0)) k)]) (fun k => k ≤ l.length) (fun k => l.length - k) 0 (Nat.zero_le _)
        (Weak.of [0, 1, 2, 7] (.cons rfl rfl (.cons rfl rfl (.cons rfl rfl (.s rfl ?_ rfl (.cons rfl rfl (.cons rfl rfl .nil)))))) (.cons (.same rfl rfl) (.cons (.same rfl rfl) (.cons (.same rfl rfl) (.cons (.arr rfl ?_) (.nil _))))) rfl) (fun k hk => ?_)
    | refine roundEnd (k + 1) ?_ ?_ (Weak.of [0, 1, 2, 5] (.cons rfl rfl (.cons rfl rfl (.cons rfl rfl (.s rfl ?_ rfl (.cons rfl rfl (.cons rfl rfl .nil)))))) (.cons (.same rfl rfl) (.cons (.same rfl rfl) (.cons (.same rfl rfl) (.cons (.arr rfl ?_) (.nil _))))) rfl)
    | refine roundEnd (k + 1) ?_ ?_ (Weak.of [0, 1, 2, 3] (.cons rfl rfl (.cons rfl rfl (.cons rfl rfl (.s rfl ?_ rfl (.cons rfl rfl (.cons rfl rfl .nil)))))) (.cons (.same rfl rfl) (.cons (.same rfl rfl) (.cons (.same rfl rfl) (.cons (.arr rfl ?_) (.nil _))))) rfl)
    | refine ACall.useIs [2, 3] (selOrder_call l more k ?_ hg ?_) rfl (.cons (.ro rfl rfl) (.cons (.ro rfl rfl) (.nil _))) rfl ?_
    | refine ACall.useIs [2, 4] (selLate_call l more k ?_ hg ?_) rfl (.cons (.ro rfl rfl) (.cons (.ro rfl rfl) (.nil _))) rfl ?_
    | refine ACall.useIs [2, 3] (implOrderT_call m s s.length rfl (ofOk_good hs) (ofOk_some hs) ?_ ?_) rfl (.cons (.ro rfl rfl) (.cons (.ro rfl rfl) (.nil _))) rfl ?_
    | refine ACall.useIs [2, 3] (implOrderF_call m s s.length rfl hs ?_ ?_) rfl (.cons (.ro rfl rfl) (.cons (.ro rfl rfl) (.nil _))) rfl ?_
    | refine ACall.useIs [2, 3] (specOrderT_call m s s.length rfl (ofOk_good hs) (ofOk_some hs) ?_ ?_) rfl (.cons (.ro rfl rfl) (.cons (.ro rfl rfl) (.nil _))) rfl ?_
    | refine ACall.useIs [2, 3] (specOrderF_call m s s.length rfl hs ?_ ?_) rfl (.cons (.ro rfl rfl) (.cons (.ro rfl rfl) (.nil _))) rfl ?_
    | refine ACall.useIs [2, 4] (ordT_call m (ofL m s) m.length (of_len (ofOk_good hs) (ofOk_some hs)).symm (of_jo (ofOk_good hs) (ofOk_some hs)) ?_ ?_) rfl (.cons (.ro rfl rfl) (.cons (.ro rfl rfl) (.nil _))) rfl ?_
    | refine XGoal.addW (o := ⟨_, .binOp .add _ _ _ _, _, _, _, _⟩) rfl ?_
    | refine XGoal.list rfl ?_
    | refine Ret.bool [0, 1] ?_ (.cons (.same rfl rfl) (.cons (.same rfl rfl) (.nil _))) rfl
    | refine VC.mk ?_ ?_
  all_goals try simp only [decide_eq_true_eq, decide_eq_false_iff_not, Bool.not_eq_true', Bool.not_eq_false', cond_true, cond_false, eqB_true, eqB_false] at *
  all_goals try simp only [in64, idxAdd_zero_left, Int.toNat_natCast, fillTo_length, Int.ofNat_lt, Int.ofNat_le, Int.natCast_inj] at *
  all_goals try have hlo1 := hlo.1
  all_goals try have hlo2 := hlo.2
  all_goals try have hms1 := hms.1
  all_goals try have hms2 := hms.2
  all_goals try have hgl := goodJobs_len hg
  all_goals try have hml := mooA_len l
  all_goals try have hmo := moo_late hg
  all_goals try have hby := byte_at hmore k
  all_goals try have hsl := selN_le (fun x => decide (x.toNat < more.length) && decide ((more.getD x.toNat 0).tmod 2 = 0)) k
  all_goals try simp only [List.length_append, List.length_set, sub_lenM, List.length_nil] at *
  all_goals first
    | omega
    | exact ⟨by omega, by omega⟩
    | exact Eq.refl true
    | rfl
    | (refine ⟨?_, ?_, ?_⟩ <;> first | omega | (simp; done))
    | exact (sortI_len _).symm
    | exact (of_len (ofOk_good hs) (ofOk_some hs)).symm
    | (rw [selN_zero]; done)
    | (rw [selN_zero]; rfl)
    | (refine ⟨Nat.le_refl 1, ?_, ?_⟩ <;> omega)
    | (rw [sel_yes (by omega) (by assumption), sub_app1]; done)
    | (rw [sel_yes (by omega) (by assumption), List.length_append]; done)
    | (rw [sel_yes (by omega) (by assumption), List.length_append]; rfl)
    | (rw [sel_no1 (by omega)]; done)
    | (rw [sel_no2 (by assumption)]; done)
    | (rw [eq_comm, decide_eq_true_eq]; omega)
    | (rw [decide_eq_true_eq]; omega)
    | (exfalso; have := late_ge_moo hg (joB_ord hj); omega)
    | (exfalso; have := selLate_ge more (by omega : k = l.length) hg; omega)
    | (exfalso; simp at *; done)
    | (exfalso; omega)

end YtockeinpdioahaaAM
