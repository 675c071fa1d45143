/- Contracts of functions of this seat. -/
import Derived.Test.YtafalojjbghlhaaAmTabLinks
import Derived.Test.YtafalojjbghlhaaAmModels
import Derived.Test.YtafalojjbghlhaaAmLinks3
import Derived.Test.YtafalojjbghlhaaAmLinks5
import Derived.Test.YtafalojjbghlhaaAmLinkWays2
import Derived.Test.YtafalojjbghlhaaAmRowApp
set_option linter.unusedVariables false
set_option linter.unusedSimpArgs false
set_option maxRecDepth 100000
set_option maxHeartbeats 2000000
namespace YtafalojjbghlhaaAM
open Go Go.Proofs
attribute [local irreducible] foldN wkN wkE fstK sgN sgE lstN lstI lasL rwN waF waR waV waL grM outM pipesOf goodLinks atS linkAsk

theorem l9Straight_call (l : List S2) (f : Int) (w : List Int) (n : Nat) (hn : n = w.length) (hl : l.length ≤ 1048576) (hn2 : n ≤ 1048576) (hw : ∀ i, i < n → 0 ≤ w.getD i 0 ∧ w.getD i 0 < l.length) : ACall Try.prog 57 [.slice ⟨0, 0, 0, 2, 0⟩ l.length, .int .i64 f, .slice ⟨1, 0, 0, 1, 0⟩ n] [.arr true .s2 l, .arr true .int w] (Is (.slice ⟨2, 0, 0, 1, 0⟩ (sgE l w).length) [.arr true .s2 l, .arr true .int w, .arr false .int (sgE l w)]) := by
  refine ACall.walk T Try.func57 Try.ntmps57 Try.results57 rfl rfl rfl (Is.nv _ _) ?_
  repeat' (conv => whnf); first
    | refine AWP.seq ?_
    | refine AWP.reg T rfl ?_
    | refine AWP.drw T none rfl rfl rfl ?_
    | refine AWP.dep T none rfl rfl rfl rfl ?_
    | refine AWP.block ?_
    | refine AWP.condT rfl ?_
    | refine AWP.condF rfl ?_
    | refine AWP.cond rfl (fun hb => ?_) (fun hb => ?_)
    | refine AWP.ret ?_
    | refine AWP.exit ?_
    | refine AWP.skip ?_
    | refine GuardB.t ?_
    | refine GuardB.f ?_
    | refine GuardB.mk (fun hb => ?_) (fun hb => ?_)
    | refine NilQ.mk (fun hb => ?_) ?_
    | refine VC.mk Nat.zero_lt_one ?_
    | refine VC.mk rfl ?_
    | refine AWP.while (ι := Nat) (fun q => St.of [(0, .slice ⟨0, 0, 0, 2, 0⟩ l.length), (2, .slice ⟨1, 0, 0, 1, 0⟩ n), (7, .slice ⟨2, 0, 0, 1, 0⟩ p), (8, .int .i64 (sgN l w p).1), (9, .int .i64 (lstN l w (sgN l w p).1 q)), (10, .int .i64 ((sgN l w p).1 + 1 + q : Nat))] [.arr true .s2 l, .arr true .int w, .arr false .int ((sgN l w p).2)]) (fun q => (sgN l w p).1 + 1 + q ≤ n) (fun q => n - q) 0 ?_
        (Weak.of [0, 1, 2] (.cons rfl rfl (.cons rfl rfl (.cons rfl rfl (.cons rfl rfl (.i rfl ?_ (.i rfl ?_ .nil)))))) (.cons (.same rfl rfl) (.cons (.same rfl rfl) (.cons (.same rfl rfl) (.nil _)))) rfl) (fun q hq => ?_)
    | refine AWP.while (ι := Nat) (fun p => St.of [(0, .slice ⟨0, 0, 0, 2, 0⟩ l.length), (2, .slice ⟨1, 0, 0, 1, 0⟩ n), (7, .slice ⟨2, 0, 0, 1, 0⟩ p), (8, .int .i64 (sgN l w p).1)] [.arr true .s2 l, .arr true .int w, .arr false .int ((sgN l w p).2)]) (fun p => ∀ d, d < p → (sgN l w d).1 < w.length) (fun p => n + 1 - p) 0 ?_
        (Weak.of [0, 1, 3] (.cons rfl rfl (.cons rfl rfl (.cons rfl rfl (.i rfl ?_ .nil)))) (.cons (.same rfl rfl) (.cons (.same rfl rfl) (.cons (.arr rfl ?_) (.nil _)))) rfl) (fun p hp => ?_)
    | refine roundEnd (q + 1) ?_ ?_ (Weak.of [0, 1, 2] (.cons rfl rfl (.cons rfl rfl (.cons rfl rfl (.cons rfl rfl (.i rfl ?_ (.i rfl ?_ .nil)))))) (.cons (.same rfl rfl) (.cons (.same rfl rfl) (.cons (.same rfl rfl) (.nil _)))) rfl)
    | refine roundEnd (p + 1) ?_ ?_ (Weak.of [0, 1, 4] (.cons rfl rfl (.cons rfl rfl (.cons rfl rfl (.i rfl ?_ .nil)))) (.cons (.same rfl rfl) (.cons (.same rfl rfl) (.cons (.arr rfl ?_) (.nil _)))) rfl)
    | refine Ret.s [0, 1, 2] rfl ?_ (.cons (.same rfl rfl) (.cons (.same rfl rfl) (.cons (.arr rfl ?_) (.nil _)))) rfl
    | refine VC.mk ?_ ?_
  all_goals try simp only [decide_eq_true_eq, decide_eq_false_iff_not, Bool.not_eq_true', Bool.not_eq_false', cond_true, cond_false, eqB_true, eqB_false] at *
  all_goals try simp only [in64, idxAdd_zero_left, Int.toNat_natCast, fillTo_length, Int.ofNat_lt, Int.ofNat_le, Int.natCast_inj] at *
  all_goals subst hn
  all_goals try
    have hinv := sgN_inv hp
  all_goals try
    have hpl : (sgN l w p).1 < w.length := by omega
    have hli := lstI_lt (l := l) hpl
  all_goals try
    have hls := lstN_spec l w (sgN l w p).1 q
  all_goals try
    have hwi := hw (sgN l w p).1 (by omega)
  all_goals try
    have hwq := hw ((sgN l w p).1 + 1 + q) (by omega)
  all_goals try
    have hql : q = w.length - ((sgN l w p).1 + 1) := by omega
    have hle : lstN l w (sgN l w p).1 q = lstI l w (sgN l w p).1 := lstN_all hql
    rw [hle] at *
    have hwl := hw (lstI l w (sgN l w p).1) (by omega)
  all_goals first
    | omega
    | exact ⟨by omega, by omega⟩
    | (rw [sgN_zero]; done)
    | (rw [sgN_zero]; rfl)
    | exact (lstN_zero _ _ _).symm
    | (rw [lstN_succ, if_pos (by assumption)]; done)
    | (rw [lstN_succ, if_neg (by assumption)]; done)
    | (refine ⟨by simp, by omega, by omega⟩)
    | exact all_next hp (by assumption)
    | (rw [sgN_go hpl]; push_cast; rfl)
    | (rw [sgN_go hpl, sub_oneL, sub_wholeL hinv.2.2]; done)
    | exact sgN_zero l w ▸ rfl
    | exact (sg_end hp (by assumption)).symm
    | (rw [← sg_end hp (by assumption)]; exact hinv.2.2.symm)

theorem l9Way_call (l : List S2) (f t : Int) (fl : List Int) (n : Nat) (hn : n = l.length) (hg : goodLinks l = true) (m : Int) (h : FlOk l f t m fl) (hf : 0 ≤ f ∧ f < 8) (hm : 1 ≤ m) : ACall Try.prog 58 [.slice ⟨0, 0, 0, 2, 0⟩ l.length, .int .i64 f, .int .i64 t, .slice ⟨1, 0, 0, 1, 0⟩ n] [.arr true .s2 l, .arr false .int (fl)] (Is (.slice ⟨2, 0, 0, 1, 0⟩ (wkE l f t fl).way.length) [.arr true .s2 l, .arr false .int ((wkE l f t fl).fl), .arr false .int ((wkE l f t fl).way)]) := by
  refine ACall.walk T Try.func58 Try.ntmps58 Try.results58 rfl rfl rfl (Is.nv _ _) ?_
  repeat' (conv => whnf); first
    | refine AWP.seq ?_
    | refine AWP.reg T rfl ?_
    | refine AWP.drw T none rfl rfl rfl ?_
    | refine AWP.dep T none rfl rfl rfl rfl ?_
    | refine AWP.block ?_
    | refine AWP.condT rfl ?_
    | refine AWP.condF rfl ?_
    | refine AWP.cond rfl (fun hb => ?_) (fun hb => ?_)
    | refine AWP.ret ?_
    | refine AWP.exit ?_
    | refine AWP.skip ?_
    | refine GuardB.t ?_
    | refine GuardB.f ?_
    | refine GuardB.mk (fun hb => ?_) (fun hb => ?_)
    | refine NilQ.mk (fun hb => ?_) ?_
    | refine VC.mk Nat.zero_lt_one ?_
    | refine VC.mk rfl ?_
    | refine AWP.while (ι := Nat) (fun k => St.of [(0, .slice ⟨0, 0, 0, 2, 0⟩ l.length), (2, .int .i64 t), (3, .slice ⟨1, 0, 0, 1, 0⟩ n), (9, .slice ⟨2, 0, 0, 1, 0⟩ j), (10, .int .i64 (wkN l f t fl j).at'), (17, .slice ⟨0, 0, 0, 2, 0⟩ l.length), (18, .int .i64 l.length), (19, .int .i64 k)] [.arr true .s2 l, .arr false .int ((wkN l f t fl j).fl), .arr false .int ((wkN l f t fl j).way)]) (fun k => k ≤ fstK l (wkN l f t fl j)) (fun k => l.length - k) 0 (Nat.zero_le _)
        (Weak.of [0, 1, 2] (.cons rfl rfl (.cons rfl rfl (.cons rfl rfl (.cons rfl rfl (.cons rfl rfl (.cons rfl rfl (.cons rfl rfl (.cons rfl rfl .nil)))))))) (.cons (.same rfl rfl) (.cons (.same rfl rfl) (.cons (.same rfl rfl) (.nil _)))) rfl) (fun k hk => ?_)
    | refine AWP.while (ι := Nat) (fun j => St.of [(0, .slice ⟨0, 0, 0, 2, 0⟩ l.length), (2, .int .i64 t), (3, .slice ⟨1, 0, 0, 1, 0⟩ n), (9, .slice ⟨2, 0, 0, 1, 0⟩ j), (10, .int .i64 (wkN l f t fl j).at')] [.arr true .s2 l, .arr false .int ((wkN l f t fl j).fl), .arr false .int ((wkN l f t fl j).way)]) (fun j => ∀ d, d < j → ¬ (wkN l f t fl d).at' = t) (fun j => 21 - j) 0 ?_
        (Weak.of [0, 1, 3] (.cons rfl rfl (.cons rfl rfl (.cons rfl rfl (.cons rfl rfl (.i rfl ?_ .nil))))) (.cons (.same rfl rfl) (.cons (.arr rfl ?_) (.cons (.arr rfl ?_) (.nil _)))) rfl) (fun j hj => ?_)
    | refine roundEnd (k + 1) ?_ ?_ (Weak.of [0, 1, 2] (.cons rfl rfl (.cons rfl rfl (.cons rfl rfl (.cons rfl rfl (.cons rfl rfl (.cons rfl rfl (.cons rfl rfl (.cons rfl rfl .nil)))))))) (.cons (.same rfl rfl) (.cons (.same rfl rfl) (.cons (.same rfl rfl) (.nil _)))) rfl)
    | refine roundEnd (j + 1) ?_ ?_ (Weak.of [0, 1, 5] (.cons rfl rfl (.cons rfl rfl (.cons rfl rfl (.cons rfl rfl (.i rfl ?_ .nil))))) (.cons (.same rfl rfl) (.cons (.arr rfl ?_) (.cons (.arr rfl ?_) (.nil _)))) rfl)
    | refine roundEnd (j + 1) ?_ ?_ (Weak.of [0, 1, 2] (.cons rfl rfl (.cons rfl rfl (.cons rfl rfl (.s rfl ?_ rfl (.i rfl ?_ .nil))))) (.cons (.same rfl rfl) (.cons (.arr rfl ?_) (.cons (.arr rfl ?_) (.nil _)))) rfl)
    | refine Ret.s [0, 1, 2] rfl ?_ (.cons (.same rfl rfl) (.cons (.arr rfl ?_) (.cons (.arr rfl ?_) (.nil _)))) rfl
    | refine VC.mk ?_ ?_
  all_goals try simp only [decide_eq_true_eq, decide_eq_false_iff_not, Bool.not_eq_true', Bool.not_eq_false', cond_true, cond_false, eqB_true, eqB_false] at *
  all_goals try simp only [in64, idxAdd_zero_left, Int.toNat_natCast, fillTo_length, Int.ofNat_lt, Int.ofNat_le, Int.natCast_inj] at *
  all_goals have hgl := goodLinks_len hg
  all_goals subst hn
  all_goals try
    have inv := wk_inv hg h hf hm j hj
    have hle := inv.le (goodLinks_len hg)
    have hll := inv.len
    have hwl := inv.wl
  all_goals try
    have hex := inv.ex hm (by assumption)
    have hhi := inv.hit hm (by assumption)
    have hfr := links_at hg hex
  all_goals try
    have hke : k = fstK l (wkN l f t fl j) := hit_eq (by assumption) hk (by assumption) (by omega)
    subst hke
  all_goals try
    have hw1 := wk1 (l := l) (f := f) (fl := fl) (by assumption : ¬ (wkN l f t fl j).at' = t)
  all_goals first
    | omega
    | exact ⟨by omega, by omega⟩
    | exact wk0.1
    | exact wk0.1.symm
    | exact wk0.2.1
    | exact wk0.2.2
    | exact ⟨by simp, by omega, by omega⟩
    | exact all_next hj (by assumption)
    | exact hw1.1.symm
    | exact hw1.2.1
    | (rw [hw1.2.2, sub_oneL, sub_wholeL hwl]; done)
    | exact miss_next hk hhi (fun e => by have e1 := e.1; have e2 := e.2; first | (exact absurd e1 (by assumption)) | (exact absurd e2 (by assumption)))
    | (rw [wk_end hg h hf hm hj (by assumption)]; done)
    | (rw [wk_end hg h hf hm hj (by assumption)]; exact hwl.symm)
    | (exfalso; omega)

theorem specWays_call (l : List S2) (f t : Int) (hl : l.length ≤ 1048576) : ACall Try.prog 20 [.slice ⟨0, 0, 0, 2, 0⟩ l.length, .int .i64 f, .int .i64 t] [.arr true .s2 l] (Is (.tuple [.slice ⟨1, 0, 0, 1, 0⟩ (waL l f t).length, .bool (linkAsk l f t)]) [.arr true .s2 l, .rows false (waL l f t)]) := by
  refine ACall.walk T Try.func20 Try.ntmps20 Try.results20 rfl rfl rfl (Is.nv _ _) ?_
  repeat' (conv => whnf); first
    | refine AWP.regX (id := 9) T 9 rfl ?_
    | refine AWP.seq ?_
    | refine AWP.reg T rfl ?_
    | refine AWP.drw T none rfl rfl rfl ?_
    | refine AWP.dep T none rfl rfl rfl rfl ?_
    | refine AWP.block ?_
    | refine AWP.condT rfl ?_
    | refine AWP.condF rfl ?_
    | refine AWP.cond rfl (fun hb => ?_) (fun hb => ?_)
    | refine AWP.ret ?_
    | refine AWP.exit ?_
    | refine AWP.skip ?_
    | refine GuardB.t ?_
    | refine GuardB.f ?_
    | refine GuardB.mk (fun hb => ?_) (fun hb => ?_)
    | refine NilQ.mk (fun hb => ?_) ?_
    | refine VC.mk Nat.zero_lt_one ?_
    | refine VC.mk rfl ?_
    | refine ACall.useIs [0] (l9Ask_call _ _ _ ?_) rfl (.cons (.same rfl rfl) (.nil _)) rfl ?_
    | refine ACall.useIs [0] (l9Pipes_call _ ?_) rfl (.cons (.same rfl rfl) (.nil _)) rfl ?_
    | refine ACall.useIs [2] (l8Max_call _ _ _ ?_ ?_ ?_ ?_) rfl (.cons (.ro rfl rfl) (.nil _)) rfl ?_
    | refine ACall.useIs [2, 3] (l8Out_call _ _ _ ?_ ?_ ?_) rfl (.cons (.ro rfl rfl) (.cons (.ro rfl rfl) (.nil _))) rfl ?_
    | refine AWP.while (ι := Nat) (fun j => St.of [(0, .slice ⟨0, 0, 0, 2, 0⟩ l.length), (1, .int .i64 f), (2, .int .i64 t), (9, .slice ⟨1, 0, 0, 1, 0⟩ l.length), (10, .int .i64 ((waV l f t : Int) - j)), (11, .slice ⟨2, 0, 0, 1, 0⟩ j)] [.arr true .s2 l, .arr false .int (waF l f t j), .rows false (waR l f t j)]) (fun j => j ≤ waV l f t) (fun j => waV l f t - j) 0 (Nat.zero_le _)
        (Weak.of [0, 3, 4] (.cons rfl rfl (.cons rfl rfl (.cons rfl rfl (.s rfl ?_ rfl (.i rfl ?_ (.cons rfl rfl .nil)))))) (.cons (.same rfl rfl) (.cons (.arr rfl ?_) (.cons (.rows ?_) (.nil _)))) rfl) (fun j hj => ?_)
    | refine ACall.useIs [0, 1] (l9Way_call l f t (waF l f t j) l.length rfl ?_ ((waV l f t : Int) - j) ?_ ?_ ?_) rfl (.cons (.same rfl rfl) (.cons (.same rfl rfl) (.nil _))) rfl ?_
    | refine ACall.useIs [0, 3] (l9Straight_call l f ((wkE l f t (waF l f t j)).way) ((wkE l f t (waF l f t j)).way).length rfl ?_ ?_ ?_) rfl (.cons (.same rfl rfl) (.cons (.ro rfl rfl) (.nil _))) rfl ?_
    | refine XGoal.rows0 (o := ⟨_, .buildSlice _ 0 _, _, _, _, _⟩) rfl ?_
    | refine XGoal.wrap (o := ⟨_, .buildSlice _ 1 _, _, _, _, _⟩) rfl ?_
    | refine XGoal.rapp (o := ⟨_, .call _, _, _, _, _⟩) rfl ?_
    | refine XGoal.list rfl ?_
    | refine roundEnd (j + 1) ?_ ?_ (Weak.of [0, 1, 6] (.cons rfl rfl (.cons rfl rfl (.cons rfl rfl (.cons rfl rfl (.i rfl ?_ (.cons rfl rfl .nil)))))) (.cons (.same rfl rfl) (.cons (.arr rfl ?_) (.cons (.rows ?_) (.nil _)))) rfl)
    | refine Ret.sb [0, 2] rfl ?_ ?_ (.cons (.same rfl rfl) (.cons (.rows ?_) (.nil _))) rfl
    | refine VC.mk ?_ ?_
  all_goals try simp only [decide_eq_true_eq, decide_eq_false_iff_not, Bool.not_eq_true', Bool.not_eq_false', cond_true, cond_false, eqB_true, eqB_false] at *
  all_goals try simp only [in64, idxAdd_zero_left, Int.toNat_natCast, fillTo_length, Int.ofNat_lt, Int.ofNat_le, Int.natCast_inj] at *
  all_goals have hll := goodLinks_len (l := l)
  all_goals try
    have hask : linkAsk l f t = true := by first | assumption | (simp_all [linkAsk]; done)
    obtain ⟨hg, hf, ht, hft, hgp, _⟩ := linkAsk_spec hask
    have hpl := pipesOf_len l
    have hgm := grM_len (pipesOf l) f t
    have hgs := gr_caps hg hf hft
    have hw0 := wa_ok hg hf hft (Nat.zero_le (waV l f t))
    have hsz := hll hg
    have hfl := gr_flok hg hf hft
  all_goals try
    have hwo := wa_ok hg hf hft hj
    have hwl := waR_len (l := l) (f := f) (t := t) j
  all_goals first
    | exact ⟨trivial, trivial⟩
    | exact ⟨by decide, trivial, by omega, rfl, by decide, by omega⟩
    | exact hl
    | exact hgp
    | exact hf
    | exact ht
    | exact hft
    | exact hgs
    | exact hgm
    | exact hg
    | exact hwo.1
    | rfl
    | omega
    | exact ⟨by omega, by omega⟩
    | (rw [waR_zero]; done)
    | exact waR_zero
    | exact waF_zero
    | exact waR_succ _
    | exact waF_succ _
    | exact ⟨by omega, rfl, by omega, rfl, by decide, by simp; omega⟩
    | exact ⟨by decide, by omega⟩
    | (have hn : linkAsk l f t = false := by (first | assumption | (simp_all [linkAsk]; done))
       first
       | (rw [waL_no hn]; done)
       | (rw [waL_no hn]; rfl)
       | (rw [hn]; done))
    | (rw [hask]; done)
    | (have e : j = waV l f t := by omega
       subst e
       first
       | (rw [waL_eq hask]; done)
       | (rw [waL_eq hask, waR_len]; done))
    | (have hwy := wk_way hg hwo.1 (by omega) hft (by omega)
       first
       | (have := hwy.le; omega)
       | exact fun i hi => hwy.at' hi)
    | (rw [hfl.1.len]; done)

theorem implWays_call (l : List S2) (f t : Int) (hl : l.length ≤ 1048576) : ACall Try.prog 21 [.slice ⟨0, 0, 0, 2, 0⟩ l.length, .int .i64 f, .int .i64 t] [.arr true .s2 l] (Is (.tuple [.slice ⟨1, 0, 0, 1, 0⟩ (waL l f t).length, .bool (linkAsk l f t)]) [.arr true .s2 l, .rows false (waL l f t)]) := by
  refine ACall.walk T Try.func21 Try.ntmps21 Try.results21 rfl rfl rfl (Is.nv _ _) ?_
  repeat' (conv => whnf); first
    | refine AWP.regX (id := 4) T 4 rfl ?_
    | refine AWP.regX (id := 20) T 2 rfl ?_
    | refine AWP.seq ?_
    | refine AWP.reg T rfl ?_
    | refine AWP.drw T none rfl rfl rfl ?_
    | refine AWP.dep T none rfl rfl rfl rfl ?_
    | refine AWP.block ?_
    | refine AWP.condT rfl ?_
    | refine AWP.condF rfl ?_
    | refine AWP.cond rfl (fun hb => ?_) (fun hb => ?_)
    | refine AWP.ret ?_
    | refine AWP.exit ?_
    | refine AWP.skip ?_
    | refine GuardB.t ?_
    | refine GuardB.f ?_
    | refine GuardB.mk (fun hb => ?_) (fun hb => ?_)
    | refine NilQ.mk (fun hb => ?_) ?_
    | refine VC.mk Nat.zero_lt_one ?_
    | refine VC.mk rfl ?_
    | refine ACall.useIs [0] (implGoodLinks_call _ ?_) rfl (.cons (.same rfl rfl) (.nil _)) rfl ?_
    | refine ACall.useIs [] (areUnlike_call _ _) rfl (.nil _) rfl ?_
    | refine ACall.useIs [0] (pipes_call _ ?_) rfl (.cons (.same rfl rfl) (.nil _)) rfl ?_
    | refine ACall.useIs [2] (greatest_call _ _ _ ?_ ?_ ?_ ?_) rfl (.cons (.ro rfl rfl) (.nil _)) rfl ?_
    | refine ACall.useIs [2, 3] (outOf_call _ _ _ ?_ ?_ ?_) rfl (.cons (.ro rfl rfl) (.cons (.ro rfl rfl) (.nil _))) rfl ?_
    | refine AWP.while (ι := Nat) (fun p => St.of [(0, .slice ⟨0, 0, 0, 2, 0⟩ l.length), (1, .int .i64 f), (2, .int .i64 t), (9, .slice ⟨1, 0, 0, 1, 0⟩ l.length), (10, .slice ⟨2, 0, 0, 1, 0⟩ j), (35, .int .i64 (waV l f t : Int)), (36, .int .i64 j), (11, .ptr ⟨3, 0, 0, 1, 0⟩), (14, .slice ⟨4, 0, 0, 1, 0⟩ p), (15, .int .i64 (atS l t (wkE l f t (waF l f t j)).way p))] [.arr true .s2 l, .arr false .int ((wkE l f t (waF l f t j)).fl), .rows false (waR l f t j), .arr false .int (lasL l (wkE l f t (waF l f t j)).way), .arr false .int ((sgN l (wkE l f t (waF l f t j)).way p).2)]) (fun p => ∀ d, d < p → (sgN l (wkE l f t (waF l f t j)).way d).1 < (wkE l f t (waF l f t j)).way.length) (fun p => 21 - p) 0 ?_
        (Weak.of [0, 1, 2, 3, 4] (.cons rfl rfl (.cons rfl rfl (.cons rfl rfl (.cons rfl rfl (.cons rfl rfl (.cons rfl rfl (.cons rfl rfl (.cons rfl rfl (.cons rfl rfl (.i rfl ?_ .nil)))))))))) (.cons (.same rfl rfl) (.cons (.arr rfl ?_) (.cons (.same rfl rfl) (.cons (.arr rfl ?_) (.cons (.arr rfl ?_) (.nil _)))))) rfl) (fun p hp => ?_)
    | refine AWP.while (ι := Nat) (fun k => St.of [(0, .slice ⟨0, 0, 0, 2, 0⟩ l.length), (1, .int .i64 f), (2, .int .i64 t), (9, .slice ⟨1, 0, 0, 1, 0⟩ l.length), (10, .slice ⟨2, 0, 0, 1, 0⟩ j), (35, .int .i64 (waV l f t : Int)), (36, .int .i64 j), (11, .ptr ⟨3, 0, 0, 1, 0⟩), (12, .int .i64 (wkN l f t (waF l f t j) i).at'), (13, .int .i64 k)] [.arr true .s2 l, .arr false .int ((wkN l f t (waF l f t j) i).fl), .rows false (waR l f t j), .arr false .int (lasL l (wkN l f t (waF l f t j) i).way)]) (fun k => k ≤ fstK l (wkN l f t (waF l f t j) i)) (fun k => l.length - k) 0 (Nat.zero_le _)
        (Weak.of [0, 1, 2, 3] (.cons rfl rfl (.cons rfl rfl (.cons rfl rfl (.cons rfl rfl (.cons rfl rfl (.cons rfl rfl (.cons rfl rfl (.cons rfl rfl (.cons rfl rfl (.cons rfl rfl .nil)))))))))) (.cons (.same rfl rfl) (.cons (.same rfl rfl) (.cons (.same rfl rfl) (.cons (.same rfl rfl) (.nil _))))) rfl) (fun k hk => ?_)
    | refine AWP.while (ι := Nat) (fun i => St.of [(0, .slice ⟨0, 0, 0, 2, 0⟩ l.length), (1, .int .i64 f), (2, .int .i64 t), (9, .slice ⟨1, 0, 0, 1, 0⟩ l.length), (10, .slice ⟨2, 0, 0, 1, 0⟩ j), (35, .int .i64 (waV l f t : Int)), (36, .int .i64 j), (11, .ptr ⟨3, 0, 0, 1, 0⟩), (12, .int .i64 (wkN l f t (waF l f t j) i).at')] [.arr true .s2 l, .arr false .int ((wkN l f t (waF l f t j) i).fl), .rows false (waR l f t j), .arr false .int (lasL l (wkN l f t (waF l f t j) i).way)]) (fun i => ∀ d, d < i → ¬ (wkN l f t (waF l f t j) d).at' = t) (fun i => 21 - i) 0 ?_
        (Weak.of [0, 1, 2, 3] (.cons rfl rfl (.cons rfl rfl (.cons rfl rfl (.cons rfl rfl (.cons rfl rfl (.cons rfl rfl (.cons rfl rfl (.cons rfl rfl (.i rfl ?_ .nil))))))))) (.cons (.same rfl rfl) (.cons (.arr rfl ?_) (.cons (.same rfl rfl) (.cons (.arr rfl ?_) (.nil _))))) rfl) (fun i hi => ?_)
    | refine AWP.while (ι := Nat) (fun j => St.of [(0, .slice ⟨0, 0, 0, 2, 0⟩ l.length), (1, .int .i64 f), (2, .int .i64 t), (9, .slice ⟨1, 0, 0, 1, 0⟩ l.length), (10, .slice ⟨2, 0, 0, 1, 0⟩ j), (35, .int .i64 (waV l f t : Int)), (36, .int .i64 j)] [.arr true .s2 l, .arr false .int (waF l f t j), .rows false (waR l f t j)]) (fun j => j ≤ waV l f t) (fun j => waV l f t - j) 0 (Nat.zero_le _)
        (Weak.of [0, 3, 4] (.cons rfl rfl (.cons rfl rfl (.cons rfl rfl (.s rfl ?_ rfl (.cons rfl rfl (.i rfl ?_ (.cons rfl rfl .nil))))))) (.cons (.same rfl rfl) (.cons (.arr rfl ?_) (.cons (.rows ?_) (.nil _)))) rfl) (fun j hj => ?_)
    | refine XGoal.rows0 (o := ⟨_, .buildSlice _ 0 _, _, _, _, _⟩) rfl ?_
    | refine XGoal.wrap (o := ⟨_, .buildSlice _ 1 _, _, _, _, _⟩) rfl ?_
    | refine XGoal.rapp (o := ⟨_, .call _, _, _, _, _⟩) rfl ?_
    | refine XGoal.list rfl ?_
    | refine roundEnd (k + 1) ?_ ?_ (Weak.of [0, 1, 2, 3] (.cons rfl rfl (.cons rfl rfl (.cons rfl rfl (.cons rfl rfl (.cons rfl rfl (.cons rfl rfl (.cons rfl rfl (.cons rfl rfl (.cons rfl rfl (.cons rfl rfl .nil)))))))))) (.cons (.same rfl rfl) (.cons (.same rfl rfl) (.cons (.same rfl rfl) (.cons (.same rfl rfl) (.nil _))))) rfl)
    | refine roundEnd (i + 1) ?_ ?_ (Weak.of [0, 1, 2, 3] (.cons rfl rfl (.cons rfl rfl (.cons rfl rfl (.cons rfl rfl (.cons rfl rfl (.cons rfl rfl (.cons rfl rfl (.cons rfl rfl (.i rfl ?_ .nil))))))))) (.cons (.same rfl rfl) (.cons (.arr rfl ?_) (.cons (.same rfl rfl) (.cons (.arr rfl ?_) (.nil _))))) rfl)
    | refine roundEnd (p + 1) ?_ ?_ (Weak.of [0, 1, 2, 3, 6] (.cons rfl rfl (.cons rfl rfl (.cons rfl rfl (.cons rfl rfl (.cons rfl rfl (.cons rfl rfl (.cons rfl rfl (.cons rfl rfl (.cons rfl rfl (.i rfl ?_ .nil)))))))))) (.cons (.same rfl rfl) (.cons (.same rfl rfl) (.cons (.same rfl rfl) (.cons (.same rfl rfl) (.cons (.arr rfl ?_) (.nil _)))))) rfl)
    | refine roundEnd (j + 1) ?_ ?_ (Weak.of [0, 1, 6] (.cons rfl rfl (.cons rfl rfl (.cons rfl rfl (.cons rfl rfl (.cons rfl rfl (.cons rfl rfl (.cons rfl rfl .nil))))))) (.cons (.same rfl rfl) (.cons (.arr rfl ?_) (.cons (.rows ?_) (.nil _)))) rfl)
    | refine Ret.sb [0, 2] rfl ?_ ?_ (.cons (.same rfl rfl) (.cons (.rows ?_) (.nil _))) rfl
    | refine VC.mk ?_ ?_
  all_goals try simp only [decide_eq_true_eq, decide_eq_false_iff_not, Bool.not_eq_true', Bool.not_eq_false', cond_true, cond_false, eqB_true, eqB_false] at *
  all_goals try simp only [in64, idxAdd_zero_left, Int.toNat_natCast, fillTo_length, Int.ofNat_lt, Int.ofNat_le, Int.natCast_inj] at *
  all_goals have hll := goodLinks_len (l := l)
  all_goals try
    have hask : linkAsk l f t = true := by first | assumption | (simp_all [linkAsk]; done)
    obtain ⟨hg, hf, ht, hft, hgp, _⟩ := linkAsk_spec hask
    have hpl := pipesOf_len l
    have hgm := grM_len (pipesOf l) f t
    have hgs := gr_caps hg hf hft
    have hw0 := wa_ok hg hf hft (Nat.zero_le (waV l f t))
    have hsz := hll hg
    have hfl := gr_flok hg hf hft
  all_goals try
    have hwo := wa_ok hg hf hft hj
    have hwl := waR_len (l := l) (f := f) (t := t) j
  all_goals try
    have hm' : 1 ≤ (waV l f t : Int) - j := by omega
    have hf8 : 0 ≤ f ∧ f < 8 := by omega
    have hwy := wk_way hg hwo.1 hf8 hft hm'
  all_goals try
    have inv := wk_inv hg hwo.1 hf8 hm' i hi
    have hle := inv.le hsz
    have hfll := inv.len
    have hwyl := inv.wl
    have hlas := lasL_len l (wkN l f t (waF l f t j) i).way
    have hatr := inv.range
  all_goals try
    have hex := inv.ex hm' (by assumption)
    have hhi := inv.hit hm' (by assumption)
    have hfr := links_at hg hex
  all_goals try
    have hke : k = fstK l (wkN l f t (waF l f t j) i) := hit_eq (by omega) hk (by assumption) (by assumption)
    subst hke
  all_goals try
    have hw1 := wk1 (l := l) (f := f) (fl := waF l f t j) (by assumption : ¬ (wkN l f t (waF l f t j) i).at' = t)
  all_goals try
    have hse := sgN_inv hp
    have hwle := hwy.le
    have hlasE := lasL_len l (wkE l f t (waF l f t j)).way
  all_goals try
    have hpl : (sgN l (wkE l f t (waF l f t j)).way p).1 < (wkE l f t (waF l f t j)).way.length := Classical.byContradiction fun e => (by assumption : ¬ atS l t (wkE l f t (waF l f t j)).way p = t) (hwy.stop.2 e)
    have hla := hwy.last hg hpl
    have hla1 := hla.2.2.1
    have hla2 := hla.2.2.2.2
    simp only [hla1] at *
  all_goals try
    have hpe : ¬ (sgN l (wkE l f t (waF l f t j)).way p).1 < (wkE l f t (waF l f t j)).way.length := hwy.stop.1 (by assumption)
    have hsend := sg_end hp hpe
  all_goals first
    | exact wk0.1
    | exact wk0.1.symm
    | exact wk0.2.1
    | exact wk0.2.2
    | (rw [wk0.2.2]; exact lasL_nil l)
    | exact ⟨by omega, by omega⟩
    | exact ⟨rfl, rfl⟩
    | exact all_next hi (by assumption)
    | exact all_next hp hpl
    | exact hw1.1.symm
    | exact hw1.2.1
    | (rw [hw1.2.2, lasL_snoc, show ((fstK l (wkN l f t (waF l f t j) i) : Int)).toNat = fstK l (wkN l f t (waF l f t j) i) by simp, hhi.1]; done)
    | exact miss_next hk hhi (fun e => by have e1 := e.1; have e2 := e.2; first | (exact absurd e1 (by assumption)) | omega)
    | (rw [wk_end hg hwo.1 hf8 hm' hi (by assumption)]; done)
    | exact hwy.start.symm
    | exact hwy.start
    | (rw [sgN_zero]; done)
    | exact hla2
    | (rw [hla2]; done)
    | (rw [sgN_go hpl, sub_oneL, sub_wholeL hse.2.2]; done)
    | exact ⟨by simp, by omega, by omega⟩
    | exact ⟨by omega, by omega, by omega⟩
    | (rw [waF_succ]; done)
    | (rw [waR_succ, ← hsend]; done)
    | exact ⟨trivial, hse.2.2.symm⟩
    | exact ⟨rfl, hse.2.2.symm⟩
    | exact ⟨trivial, trivial⟩
    | exact ⟨by decide, trivial, by omega, rfl, by decide, by omega⟩
    | exact hl
    | exact hgp
    | exact hf
    | exact ht
    | exact hft
    | exact hgs
    | exact hgm
    | exact hg
    | exact hwo.1
    | rfl
    | omega
    | exact ⟨by omega, by omega⟩
    | (rw [waR_zero]; done)
    | exact waR_zero
    | exact waF_zero
    | exact waR_succ _
    | exact waF_succ _
    | exact ⟨by omega, rfl, by omega, rfl, by decide, by simp; omega⟩
    | exact ⟨by decide, by omega⟩
    | (have hn : linkAsk l f t = false := by (first | assumption | (simp_all [linkAsk]; done))
       first
       | (rw [waL_no hn]; done)
       | (rw [waL_no hn]; rfl)
       | (rw [hn]; done))
    | (rw [hask]; done)
    | (have e : j = waV l f t := by omega
       subst e
       first
       | (rw [waL_eq hask]; done)
       | (rw [waL_eq hask, waR_len]; done))
    | (have hwy := wk_way hg hwo.1 (by omega) hft (by omega)
       first
       | (have := hwy.le; omega)
       | exact fun i hi => hwy.at' hi)
    | (rw [hfl.1.len]; done)

theorem lawWaysApart_call (l : List S2) (f t : Int) (hl : l.length ≤ 9223372036854775807) : ACall Try.prog 5 [.slice ⟨0, 0, 0, 2, 0⟩ l.length, .int .i64 f, .int .i64 t] [.arr true .s2 l] (Is (.bool true) [.arr true .s2 l]) := by
  refine ACall.walk T Try.func5 Try.ntmps5 Try.results5 rfl rfl rfl (Is.nv _ _) ?_
  repeat' (conv => whnf); first
    | refine AWP.seq ?_
    | refine AWP.reg T rfl ?_
    | refine AWP.drw T none rfl rfl rfl ?_
    | refine AWP.dep T none rfl rfl rfl rfl ?_
    | refine AWP.block ?_
    | refine AWP.condT rfl ?_
    | refine AWP.condF rfl ?_
    | refine AWP.cond rfl (fun hb => ?_) (fun hb => ?_)
    | refine AWP.ret ?_
    | refine AWP.exit ?_
    | refine AWP.skip ?_
    | refine GuardB.t ?_
    | refine GuardB.f ?_
    | refine GuardB.mk (fun hb => ?_) (fun hb => ?_)
    | refine NilQ.mk (fun hb => ?_) ?_
    | refine VC.mk Nat.zero_lt_one ?_
    | refine VC.mk rfl ?_
    | refine ACall.useIs [0] (szLinkS_call _ _ ?_ ?_) rfl (.cons (.same rfl rfl) (.nil _)) rfl ?_
    | refine ACall.useIs [0] (toLinkS_call _ ?_) rfl (.cons (.same rfl rfl) (.nil _)) rfl ?_
    | refine ACall.useIs [1] (specWays_call _ _ _ ?_) rfl (.cons (.ro rfl rfl) (.nil _)) rfl ?_
    | refine ACall.useIs [3] (implWays_call _ _ _ ?_) rfl (.cons (.ro rfl rfl) (.nil _)) rfl ?_
    | refine ACall.useIs [6] (implWays_call _ _ _ ?_) rfl (.cons (.ro rfl rfl) (.nil _)) rfl ?_
    | refine ACall.useIs [4, 2] (eqIntSS_call _ _ ?_) rfl (.cons (.ro rfl rfl) (.cons (.ro rfl rfl) (.nil _))) rfl ?_
    | refine ACall.useIs [7, 2] (eqIntSS_call _ _ ?_) rfl (.cons (.ro rfl rfl) (.cons (.ro rfl rfl) (.nil _))) rfl ?_
    | refine ACall.useIs [3, 5] (eqLinkS_call _ _ ?_) rfl (.cons (.ro rfl rfl) (.cons (.ro rfl rfl) (.nil _))) rfl ?_
    | refine ACall.useIs [3] (markLinkS_call _ _ ?_ ?_) rfl (.cons (.same rfl rfl) (.nil _)) rfl ?_
    | refine ACall.useIs [4] (markIntSS_call (waL l f t) _ ?_ ?_) rfl (.cons (.same rfl rfl) (.nil _)) rfl ?_
    | refine ACall.useIs [4] (heldIntSS_call (waL l f t) _ _ ?_ ?_ ?_) rfl (.cons (.ro rfl rfl) (.nil _)) rfl ?_
    | refine Ret.bool [0] ?_ (.cons (.same rfl rfl) (.nil _)) rfl
    | refine VC.mk ?_ ?_
  all_goals try simp only [decide_eq_true_eq, decide_eq_false_iff_not, Bool.not_eq_true', Bool.not_eq_false', cond_true, cond_false, eqB_true, eqB_false] at *
  all_goals try simp only [in64, idxAdd_zero_left, Int.toNat_natCast, fillTo_length, Int.ofNat_lt, Int.ofNat_le, Int.natCast_inj] at *
  all_goals try have hsm := waL_small l f t
  all_goals try simp only [markSS_length, marks2_length] at *
  all_goals first
    | rfl
    | exact hsm
    | omega
    | (have := leftOf_ok (by assumption) (by omega : (1048576 : Int) ≤ 1048576); omega)
    | exact leftOf_ok (by assumption) (by omega)
    | (have := hsm.tot; omega)
    | (simp_all [eqB]; done)
    | (have := hsm.tot; simp_all [eqB]; omega)

end YtafalojjbghlhaaAM
