/- Contracts of functions of this seat. -/
import Derived.Test.YtnfcnocoehkgoaaAmTabEdges
import Derived.Test.YtnfcnocoehkgoaaAmModels
import Derived.Test.YtnfcnocoehkgoaaAmEdges6
import Derived.Test.YtnfcnocoehkgoaaAmEdges3
set_option linter.unusedVariables false
set_option linter.unusedSimpArgs false
set_option maxRecDepth 100000
set_option maxHeartbeats 4000000
namespace YtnfcnocoehkgoaaAM
open Go Go.Proofs
attribute [local irreducible] foldN sortNK sortIK midLK insK rngI goodEdges swpN rotL segS mid2 MG pickN partsN ins putL sortI sortN vis visC costL pickA kruL kruC ordE

theorem symMerge_call (l : List S3) (hge : goodEdges l = true) : ∀ (f : Nat) (d : List Int) (n : Nat) (xa xm xb : Int) (a m b : Nat), n = d.length → d.length ≤ 1048576 → xa = (a : Int) → xm = (m : Int) → xb = (b : Int) → MG (co l) d a m b → a < m → m < b → b - a ≤ f → (∀ y ∈ d, 0 ≤ y ∧ y < l.length) → ACall Try.prog 79 [.slice ⟨0, 0, 0, 1, 0⟩ n, .int .i64 xa, .int .i64 xm, .int .i64 xb, .func 59 [.ptr ⟨1, 0, 0, 1, 0⟩]] [.arr false .int (d), .arr true (.raw 1) [[.slice ⟨2, 0, 0, 3, 0⟩ l.length]], .arr true .s3 l] (Is (.tuple []) [.arr false .int (segS (co l) d a b), .arr true (.raw 1) [[.slice ⟨2, 0, 0, 3, 0⟩ l.length]], .arr true .s3 l])
  | 0, d, n, xa, xm, xb, a, m, b, hn, hl, hx, hy, hz, hm, h1, h2, h3, hv => absurd h3 (by omega)
  | f + 1, d, n, xa, xm, xb, a, m, b, hn, hl, hx, hy, hz, hm, h1, h2, h3, hv => symStep l hge f (symMerge_call l hge f) d n xa xm xb a m b hn hl hx hy hz hm h1 h2 h3 hv

theorem insertD_call (l : List S3) (hge : goodEdges l = true) (d : List Int) (n : Nat) (xa xb : Int) (a b : Nat) (hn : n = d.length) (hl : d.length ≤ 1048576) (hx : xa = (a : Int)) (hy : xb = (b : Int)) (h1 : a ≤ b) (h2 : b ≤ d.length) (hv : ∀ y ∈ d, 0 ≤ y ∧ y < l.length) :
    ACall Try.prog 78 [.slice ⟨0, 0, 0, 1, 0⟩ n, .int .i64 xa, .int .i64 xb, .func 59 [.ptr ⟨1, 0, 0, 1, 0⟩]] [.arr false .int (d), .arr true (.raw 1) [[.slice ⟨2, 0, 0, 3, 0⟩ l.length]], .arr true .s3 l] (Is (.tuple []) [.arr false .int (segS (co l) d a b), .arr true (.raw 1) [[.slice ⟨2, 0, 0, 3, 0⟩ l.length]], .arr true .s3 l]) := by
  obtain ⟨p, x, q, rfl, ea, eb⟩ := cut3 d h1 h2
  rw [segS_app ea eb]
  exact insertionK_call l hge p x q xa xb n (by rw [hx, ea]) (by rw [hy, eb, List.length_append]; omega) hn (by omega) (fun y hy => hv y (by simp [hy]))

theorem stableBig_call (l : List S3) (hge : goodEdges l = true) (d : List Int) (n : Nat) (xn : Int) (hn : n = d.length) (hx : xn = (d.length : Int)) (h20 : 20 ≤ d.length) (h39 : d.length ≤ 39) (hr : d.Pairwise (· < ·)) (hv : ∀ y ∈ d, 0 ≤ y ∧ y < l.length) : ACall Try.prog 72 [.slice ⟨0, 0, 0, 1, 0⟩ n, .int .i64 xn, .func 59 [.ptr ⟨1, 0, 0, 1, 0⟩]] [.arr false .int (d), .arr true (.raw 1) [[.slice ⟨2, 0, 0, 3, 0⟩ l.length]], .arr true .s3 l] (Is (.tuple []) [.arr false .int (sortIK (co l) d), .arr true (.raw 1) [[.slice ⟨2, 0, 0, 3, 0⟩ l.length]], .arr true .s3 l]) := by
  refine ACall.walk T Try.func72 Try.ntmps72 Try.results72 rfl rfl rfl (Is.nv _ _) ?_
  repeat' (conv => whnf); first
    | refine AWP.cond rfl (fun hb => absurd (of_decide_eq_true hb) (by omega)) (fun hb => ?_)
    | refine AWP.seq ?_
    | refine AWP.reg T rfl ?_
    | refine AWP.drw T none rfl rfl rfl ?_
    | refine AWP.dep T none rfl rfl rfl rfl ?_
    | refine AWP.block ?_
    | refine AWP.condT rfl ?_
    | refine AWP.condF rfl ?_
    | refine AWP.cond rfl (fun hb => ?_) (fun hb => ?_)
    | refine AWP.ret ?_
    | refine AWP.exit ?_
    | refine AWP.skip ?_
    | refine GuardB.t ?_
    | refine GuardB.f ?_
    | refine GuardB.mk (fun hb => ?_) (fun hb => ?_)
    | refine NilQ.mk (fun hb => ?_) ?_
    | refine VC.mk Nat.zero_lt_one ?_
    | refine VC.mk rfl ?_
    | refine AWP.while (ι := Unit) (fun u => St.of [(0, .slice ⟨0, 0, 0, 1, 0⟩ n), (1, .int .i64 xn), (2, .func 59 [.ptr ⟨1, 0, 0, 1, 0⟩]), (6, .int .i64 ((20 + 20 * t.k : Nat) : Int)), (7, .int .i64 0), (8, .int .i64 40)] [.arr false .int (stgN (co l) (twoS (co l) d) d.length t.k), .arr true (.raw 1) [[.slice ⟨2, 0, 0, 3, 0⟩ l.length]], .arr true .s3 l]) (fun u => True) (fun u => 0) () trivial
        (Weak.of [0, 1, 2] (.cons rfl rfl (.cons rfl rfl (.cons rfl rfl (.i rfl ?_ (.i rfl ?_ (.i rfl ?_ .nil)))))) (.cons (.same rfl rfl) (.cons (.same rfl rfl) (.cons (.same rfl rfl) (.nil _)))) rfl) (fun u hu => ?_)
    | refine AWP.while (ι := Nat) (fun k => St.of [(0, .slice ⟨0, 0, 0, 1, 0⟩ n), (1, .int .i64 xn), (2, .func 59 [.ptr ⟨1, 0, 0, 1, 0⟩]), (6, .int .i64 20), (7, .int .i64 ((20 * k : Nat) : Int)), (8, .int .i64 ((20 * k + 20 : Nat) : Int))] [.arr false .int (blkN (co l) d k), .arr true (.raw 1) [[.slice ⟨2, 0, 0, 3, 0⟩ l.length]], .arr true .s3 l]) (fun k => k ≤ 1 ∧ 20 * k ≤ d.length) (fun k => 1 - k) 0 ?_
        (Weak.of [0, 1, 2] (.cons rfl rfl (.cons rfl rfl (.cons rfl rfl (.cons rfl rfl (.cons rfl rfl (.cons rfl rfl .nil)))))) (.cons (.arr rfl ?_) (.cons (.same rfl rfl) (.cons (.same rfl rfl) (.nil _)))) rfl) (fun k hk => ?_)
    | refine AWP.while (ι := DG) (fun t => St.of [(0, .slice ⟨0, 0, 0, 1, 0⟩ n), (1, .int .i64 xn), (2, .func 59 [.ptr ⟨1, 0, 0, 1, 0⟩]), (6, .int .i64 ((20 + 20 * t.k : Nat) : Int))] [.arr false .int (stgN (co l) (twoS (co l) d) d.length t.k), .arr true (.raw 1) [[.slice ⟨2, 0, 0, 3, 0⟩ l.length]], .arr true .s3 l]) (fun t => t.k ≤ 1) (fun t => 1 - t.k) ⟨0⟩ ?_
        (Weak.of [0, 1, 2] (.cons rfl rfl (.cons rfl rfl (.cons rfl rfl (.i rfl ?_ .nil)))) (.cons (.arr rfl ?_) (.cons (.same rfl rfl) (.cons (.same rfl rfl) (.nil _)))) rfl) (fun t ht => ?_)
    | refine ACall.useIs [0, 1, 2] (insertD_call l hge _ n ((20 * k : Nat) : Int) ((20 * k + 20 : Nat) : Int) (20 * k) (20 * k + 20) ?_ ?_ ?_ ?_ ?_ ?_ ?_) rfl (.cons (.same rfl rfl) (.cons (.same rfl rfl) (.cons (.same rfl rfl) (.nil _)))) rfl ?_
    | refine ACall.useIs [0, 1, 2] (insertD_call l hge _ n _ xn (20 * k) d.length ?_ ?_ ?_ ?_ ?_ ?_ ?_) rfl (.cons (.same rfl rfl) (.cons (.same rfl rfl) (.cons (.same rfl rfl) (.nil _)))) rfl ?_
    | refine ACall.useIs [0, 1, 2] (symMerge_call l hge 40 _ n _ _ _ 0 20 d.length ?_ ?_ ?_ ?_ ?_ ?_ ?_ ?_ ?_ ?_) rfl (.cons (.same rfl rfl) (.cons (.same rfl rfl) (.cons (.same rfl rfl) (.nil _)))) rfl ?_
    | refine roundEnd (k + 1 : Nat) ?_ ?_ (Weak.of [0, 1, 2] (.cons rfl rfl (.cons rfl rfl (.cons rfl rfl (.cons rfl rfl (.i rfl ?_ (.i rfl ?_ .nil)))))) (.cons (.arr rfl ?_) (.cons (.same rfl rfl) (.cons (.same rfl rfl) (.nil _)))) rfl)
    | refine roundEnd (⟨t.k + 1⟩ : DG) ?_ ?_ (Weak.of [0, 1, 2] (.cons rfl rfl (.cons rfl rfl (.cons rfl rfl (.i rfl ?_ .nil)))) (.cons (.arr rfl ?_) (.cons (.same rfl rfl) (.cons (.same rfl rfl) (.nil _)))) rfl)
    | refine Ret.is [0, 1, 2] rfl (.cons (.arr rfl ?_) (.cons (.same rfl rfl) (.cons (.same rfl rfl) (.nil _)))) rfl
    | refine VC.mk ?_ ?_
  all_goals try simp only [decide_eq_true_eq, decide_eq_false_iff_not, Bool.not_eq_true', Bool.not_eq_false', cond_true, cond_false, eqB_true, eqB_false] at *
  all_goals try simp only [in64, idxAdd_zero_left, Int.toNat_natCast, fillTo_length, Int.ofNat_lt, Int.ofNat_le, Int.natCast_inj] at *
  all_goals try subst hx
  all_goals try have hkf := blkN_fact (key := co l) (d := d) (k := k) (by omega) (by omega)
  all_goals try have htf := stg_fact (key := co l) (d := d) (k := t.k) ht h20
  all_goals try have hkm := hkf.2
  all_goals try have htm := htf.2
  all_goals try have hkl := hkf.1
  all_goals try have htl := htf.1
  all_goals first
    | omega
    | exact ⟨by omega, by omega⟩
    | rfl
    | exact fun y hy => hv y (hkm y hy)
    | exact fun y hy => hv y (htm y hy)
    | exact blkN_zero _ _
    | exact blkN_succ _ _ _
    | exact stgN_succ _ _ _ _
    | exact (blkN_zero _ _).symm
    | exact stg_mg (by omega) h20 hr
    | (have e : k = 1 := by omega
       subst e
       first | rfl | (rw [blkN_one, stgN_zero]; done))
    | exact (stg_end ht h20 hr (by omega)).symm
    | exact stg_end ht h20 hr (by omega)

theorem stableAll_call (l : List S3) (hge : goodEdges l = true) (d : List Int) (n : Nat) (xn : Int) (hn : n = d.length) (hx : xn = (d.length : Int)) (h39 : d.length ≤ 39) (hr : d.Pairwise (· < ·)) (hv : ∀ y ∈ d, 0 ≤ y ∧ y < l.length) :
    ACall Try.prog 72 [.slice ⟨0, 0, 0, 1, 0⟩ n, .int .i64 xn, .func 59 [.ptr ⟨1, 0, 0, 1, 0⟩]] [.arr false .int (d), .arr true (.raw 1) [[.slice ⟨2, 0, 0, 3, 0⟩ l.length]], .arr true .s3 l] (Is (.tuple []) [.arr false .int (sortIK (co l) d), .arr true (.raw 1) [[.slice ⟨2, 0, 0, 3, 0⟩ l.length]], .arr true .s3 l]) := by
  rcases Nat.lt_or_ge d.length 20 with c | c
  · subst hx; subst hn; exact stable_call l hge d d.length rfl (by omega) hv
  · exact stableBig_call l hge d n xn hn hx c h39 hr hv

theorem sortAll_call (l : List S3) (hge : goodEdges l = true) (d : List Int) (n : Nat) (hn : n = d.length) (h39 : d.length ≤ 39) (hr : d.Pairwise (· < ·)) (hv : ∀ y ∈ d, 0 ≤ y ∧ y < l.length) : ACall Try.prog 58 [.slice ⟨0, 0, 0, 1, 0⟩ n, .func 59 [.ptr ⟨1, 0, 0, 1, 0⟩]] [.arr false .int (d), .arr true (.raw 1) [[.slice ⟨2, 0, 0, 3, 0⟩ l.length]], .arr true .s3 l] (Is (.tuple []) [.arr false .int (sortIK (co l) d), .arr true (.raw 1) [[.slice ⟨2, 0, 0, 3, 0⟩ l.length]], .arr true .s3 l]) := by
  refine ACall.walk T Try.func58 Try.ntmps58 Try.results58 rfl rfl rfl (Is.nv _ _) ?_
  repeat' (conv => whnf); first
    | refine AWP.seq ?_
    | refine AWP.reg T rfl ?_
    | refine AWP.drw T none rfl rfl rfl ?_
    | refine AWP.dep T none rfl rfl rfl rfl ?_
    | refine AWP.block ?_
    | refine AWP.condT rfl ?_
    | refine AWP.condF rfl ?_
    | refine AWP.cond rfl (fun hb => ?_) (fun hb => ?_)
    | refine AWP.ret ?_
    | refine AWP.exit ?_
    | refine AWP.skip ?_
    | refine GuardB.t ?_
    | refine GuardB.f ?_
    | refine GuardB.mk (fun hb => ?_) (fun hb => ?_)
    | refine NilQ.mk (fun hb => ?_) ?_
    | refine VC.mk Nat.zero_lt_one ?_
    | refine VC.mk rfl ?_
    | refine ACall.useIs [0, 1, 2] (stableAll_call l hge d n _ hn ?_ h39 hr hv) rfl (.cons (.same rfl rfl) (.cons (.same rfl rfl) (.cons (.same rfl rfl) (.nil _)))) rfl ?_
    | refine Ret.is [0, 1, 2] rfl (.cons (.same rfl rfl) (.cons (.same rfl rfl) (.cons (.same rfl rfl) (.nil _)))) rfl
    | refine VC.mk ?_ ?_
  all_goals first
    | omega
    | rfl

end YtnfcnocoehkgoaaAM
