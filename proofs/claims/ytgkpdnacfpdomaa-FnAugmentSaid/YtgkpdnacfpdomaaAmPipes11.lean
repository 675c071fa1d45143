/- Contracts of functions of this seat. -/
import Derived.Test.YtgkpdnacfpdomaaAmTabPipes
import Derived.Test.YtgkpdnacfpdomaaAmModels
import Derived.Test.YtgkpdnacfpdomaaAmPipes10
set_option linter.unusedVariables false
set_option linter.unusedSimpArgs false
set_option maxRecDepth 100000
set_option maxHeartbeats 4000000
namespace YtgkpdnacfpdomaaAM
open Go Go.Proofs
attribute [local irreducible] NextOk PickOk OneOk AmongOk askB isFl flowOk isB outM outN cutM grM sideM mfL mfN mcL mcN aoL aoN aoB augO augM augF hasB someB goodPipes cutSz cutOk flowM selN

theorem mfL_yes {l : List S3} {u t : Int} (h : askB l u t = true) : mfL l u t = grM l u t ∧ mfN l u t = outM l (grM l u t) u ∧ mcL l u t = sideM l u t ∧ mcN l u t = outM l (grM l u t) u := by
  refine ⟨?_, ?_, ?_, ?_⟩
  · unfold mfL; rw [if_pos h]
  · unfold mfN; rw [if_pos h]
  · unfold mcL; rw [if_pos h]
  · unfold mcN; rw [if_pos h]; exact (flow_end h).cut
theorem mfL_no {l : List S3} {u t : Int} (h : askB l u t = false) : mfL l u t = [] ∧ mfN l u t = 0 ∧ mcL l u t = [] ∧ mcN l u t = 0 := by
  refine ⟨?_, ?_, ?_, ?_⟩
  · unfold mfL; rw [if_neg (by rw [h]; simp)]
  · unfold mfN; rw [if_neg (by rw [h]; simp)]
  · unfold mcL; rw [if_neg (by rw [h]; simp)]
  · unfold mcN; rw [if_neg (by rw [h]; simp)]
theorem isFl_ask {l : List S3} {u t : Int} {fl : List Int} (h : isFl l u t fl = true) : flowOk l u t fl = true ∧ askB l u t = true := by unfold isFl at h; simp only [Bool.and_eq_true] at h; have h2 := h.1; unfold flowOk at h2; simp only [Bool.and_eq_true] at h2; exact ⟨h.1, h2.1⟩
theorem flowM_yes {l : List S3} {u t : Int} {fl : List Int} (h : isFl l u t fl = true) : flowM l u t fl = outM l fl u := by unfold flowM; rw [if_pos h]
theorem flowM_no {l : List S3} {u t : Int} {fl : List Int} (h : isFl l u t fl = false) : flowM l u t fl = 0 := by unfold flowM; rw [if_neg (by rw [h]; simp)]
theorem ao_no {l : List S3} {u t : Int} {fl : List Int} (h : isFl l u t fl = false) : aoL l u t fl = [] ∧ aoN l u t fl = 0 ∧ aoB l u t fl = false := by
  refine ⟨?_, ?_, ?_⟩
  · unfold aoL; rw [if_neg (by rw [h]; simp)]
  · unfold aoN; rw [if_neg (by rw [h]; simp)]
  · unfold aoB; rw [h]; rfl
theorem ao_zero {l : List S3} {u t : Int} {fl : List Int} (h : isFl l u t fl = true) (h0 : ¬ 0 < augM l fl u t) : aoL l u t fl = [] ∧ aoN l u t fl = 0 ∧ aoB l u t fl = false := by
  obtain ⟨h1, h2, h3, h4, h5, h6, _⟩ := isFl_spec h
  have hp := (aug_spec h1 h2 h4 h5 h6).2.2.1
  have h00 : augM l fl u t = 0 := by omega
  refine ⟨?_, ?_, ?_⟩
  · unfold aoL; rw [if_pos h, augO_nil h1 h2 h4 h5 h6 h00]
  · unfold aoN; rw [if_pos h, h00]
  · unfold aoB; rw [h, h00]; rfl
theorem ao_yes {l : List S3} {u t : Int} {fl : List Int} (h : isFl l u t fl = true) (h0 : 0 < augM l fl u t) : aoL l u t fl = augO l fl u t ∧ aoN l u t fl = augM l fl u t ∧ aoB l u t fl = true := by
  refine ⟨?_, ?_, ?_⟩
  · unfold aoL; rw [if_pos h]
  · unfold aoN; rw [if_pos h]
  · unfold aoB; rw [h, decide_eq_true h0]; rfl
theorem augO_len {l : List S3} {u t : Int} {fl : List Int} (h : isFl l u t fl = true) (h0 : 0 < augM l fl u t) : (augO l fl u t).length = fl.length := by
  have h1 := (isFl_spec h).2.2.2.2.1
  have h2 := (isFl_spec (aug_more h h0).1).2.2.2.2.1
  omega
theorem cut_yes {l : List S3} {s : List Int} (hg : goodPipes l = true) (h : someB s 8 = true) : cutSz l s = cutM l s ∧ cutOk l s = true := by
  have hk : cutOk l s = true := by unfold cutOk; rw [hg, h]; rfl
  exact ⟨by unfold cutSz; rw [if_pos hk], hk⟩
theorem aug_rng {l : List S3} {u t : Int} {fl : List Int} (h : isFl l u t fl = true) : 0 ≤ augM l fl u t ∧ augM l fl u t ≤ 100 ∧ -2000 ≤ outM l fl u ∧ outM l fl u ≤ 2000 := by
  obtain ⟨h1, h2, h3, h4, h5, h6, _⟩ := isFl_spec h
  have hs := aug_spec h1 h2 h4 h5 h6
  have hr := out_range h1 u l.length h6
  have hl := goodPipes_len h1
  have e : outM l fl u = outN l fl u l.length := by unfold outM; rfl
  omega

theorem implMaxT_call (l : List S3) (u t : Int) (ha : askB l u t = true) (hl : l.length ≤ 1048576) : ACall Try.prog 26 [.slice ⟨0, 0, 0, 3, 0⟩ l.length, .int .i64 u, .int .i64 t] [.arr true .s3 l] (Is (.tuple [.slice ⟨1, 0, 0, 1, 0⟩ l.length, .int .i64 (outM l (grM l u t) u), .bool true]) [.arr true .s3 l, .arr false .int (grM l u t)]) := by
  have h := implMaxFlow_call l u t hl
  rw [(mfL_yes ha).1, (mfL_yes ha).2.1, ha, grM_len] at h
  exact h

theorem implMaxF_call (l : List S3) (u t : Int) (ha : askB l u t = false) (hl : l.length ≤ 1048576) : ACall Try.prog 26 [.slice ⟨0, 0, 0, 3, 0⟩ l.length, .int .i64 u, .int .i64 t] [.arr true .s3 l] (Is (.tuple [.slice ⟨1, 0, 0, 1, 0⟩ 0, .int .i64 0, .bool false]) [.arr true .s3 l, .arr false .int ([])]) := by
  have h := implMaxFlow_call l u t hl
  rw [(mfL_no ha).1, (mfL_no ha).2.1, ha] at h
  exact h

theorem implCutT_call (l : List S3) (u t : Int) (ha : askB l u t = true) (hl : l.length ≤ 1048576) : ACall Try.prog 33 [.slice ⟨0, 0, 0, 3, 0⟩ l.length, .int .i64 u, .int .i64 t] [.arr true .s3 l] (Is (.tuple [.slice ⟨1, 0, 0, 1, 0⟩ (sideM l u t).length, .int .i64 (outM l (grM l u t) u), .bool true]) [.arr true .s3 l, .arr false .int (sideM l u t)]) := by
  have h := implMinCut_call l u t hl
  rw [(mfL_yes ha).2.2.1, (mfL_yes ha).2.2.2, ha] at h
  exact h

theorem implCutF_call (l : List S3) (u t : Int) (ha : askB l u t = false) (hl : l.length ≤ 1048576) : ACall Try.prog 33 [.slice ⟨0, 0, 0, 3, 0⟩ l.length, .int .i64 u, .int .i64 t] [.arr true .s3 l] (Is (.tuple [.slice ⟨1, 0, 0, 1, 0⟩ 0, .int .i64 0, .bool false]) [.arr true .s3 l, .arr false .int ([])]) := by
  have h := implMinCut_call l u t hl
  rw [(mfL_no ha).2.2.1, (mfL_no ha).2.2.2, ha] at h
  exact h

theorem specMaxT_call (l : List S3) (u t : Int) (ha : askB l u t = true) (hl : l.length ≤ 1048576) : ACall Try.prog 25 [.slice ⟨0, 0, 0, 3, 0⟩ l.length, .int .i64 u, .int .i64 t] [.arr true .s3 l] (Is (.tuple [.slice ⟨1, 0, 0, 1, 0⟩ l.length, .int .i64 (outM l (grM l u t) u), .bool true]) [.arr true .s3 l, .arr false .int (grM l u t)]) := by
  have h := specMaxFlow_call l u t hl
  rw [(mfL_yes ha).1, (mfL_yes ha).2.1, ha, grM_len] at h
  exact h

theorem specMaxF_call (l : List S3) (u t : Int) (ha : askB l u t = false) (hl : l.length ≤ 1048576) : ACall Try.prog 25 [.slice ⟨0, 0, 0, 3, 0⟩ l.length, .int .i64 u, .int .i64 t] [.arr true .s3 l] (Is (.tuple [.slice ⟨1, 0, 0, 1, 0⟩ 0, .int .i64 0, .bool false]) [.arr true .s3 l, .arr false .int ([])]) := by
  have h := specMaxFlow_call l u t hl
  rw [(mfL_no ha).1, (mfL_no ha).2.1, ha] at h
  exact h

theorem specCutT_call (l : List S3) (u t : Int) (ha : askB l u t = true) (hl : l.length ≤ 1048576) : ACall Try.prog 32 [.slice ⟨0, 0, 0, 3, 0⟩ l.length, .int .i64 u, .int .i64 t] [.arr true .s3 l] (Is (.tuple [.slice ⟨1, 0, 0, 1, 0⟩ (sideM l u t).length, .int .i64 (outM l (grM l u t) u), .bool true]) [.arr true .s3 l, .arr false .int (sideM l u t)]) := by
  have h := specMinCut_call l u t hl
  rw [(mfL_yes ha).2.2.1, (mfL_yes ha).2.2.2, ha] at h
  exact h

theorem specCutF_call (l : List S3) (u t : Int) (ha : askB l u t = false) (hl : l.length ≤ 1048576) : ACall Try.prog 32 [.slice ⟨0, 0, 0, 3, 0⟩ l.length, .int .i64 u, .int .i64 t] [.arr true .s3 l] (Is (.tuple [.slice ⟨1, 0, 0, 1, 0⟩ 0, .int .i64 0, .bool false]) [.arr true .s3 l, .arr false .int ([])]) := by
  have h := specMinCut_call l u t hl
  rw [(mfL_no ha).2.2.1, (mfL_no ha).2.2.2, ha] at h
  exact h

theorem implFlowT_call (l : List S3) (u t : Int) (fl : List Int) (n : Nat) (hn : n = fl.length) (h : isFl l u t fl = true) (hl : l.length ≤ 1048576) (hf : n ≤ 1048576) : ACall Try.prog 24 [.slice ⟨0, 0, 0, 3, 0⟩ l.length, .int .i64 u, .int .i64 t, .slice ⟨1, 0, 0, 1, 0⟩ n] [.arr true .s3 l, .arr true .int fl] (Is (.tuple [.int .i64 (outM l fl u), .bool true]) [.arr true .s3 l, .arr true .int fl]) := by
  subst hn
  have h0 := implFlowOf_call l u t fl hl hf
  rw [flowM_yes h, h] at h0
  exact h0

theorem implFlowF_call (l : List S3) (u t : Int) (fl : List Int) (n : Nat) (hn : n = fl.length) (h : isFl l u t fl = false) (hl : l.length ≤ 1048576) (hf : n ≤ 1048576) : ACall Try.prog 24 [.slice ⟨0, 0, 0, 3, 0⟩ l.length, .int .i64 u, .int .i64 t, .slice ⟨1, 0, 0, 1, 0⟩ n] [.arr true .s3 l, .arr true .int fl] (Is (.tuple [.int .i64 0, .bool false]) [.arr true .s3 l, .arr true .int fl]) := by
  subst hn
  have h0 := implFlowOf_call l u t fl hl hf
  rw [flowM_no h, h] at h0
  exact h0

theorem implIsT_call (l : List S3) (u t : Int) (fl : List Int) (n : Nat) (hn : n = fl.length) (h : isFl l u t fl = true) (hl : l.length ≤ 1048576) (hf : n ≤ 1048576) : ACall Try.prog 19 [.slice ⟨0, 0, 0, 3, 0⟩ l.length, .int .i64 u, .int .i64 t, .slice ⟨1, 0, 0, 1, 0⟩ n] [.arr true .s3 l, .arr true .int fl] (Is (.tuple [.bool true, .bool true]) [.arr true .s3 l, .arr true .int fl]) := by
  subst hn
  have h0 := implIsFlow_call l u t fl hl hf
  rw [h, (isFl_ask h).1] at h0
  exact h0

theorem implIsF_call (l : List S3) (u t : Int) (fl : List Int) (n : Nat) (hn : n = fl.length) (h : isFl l u t fl = false) (hl : l.length ≤ 1048576) (hf : n ≤ 1048576) : ACall Try.prog 19 [.slice ⟨0, 0, 0, 3, 0⟩ l.length, .int .i64 u, .int .i64 t, .slice ⟨1, 0, 0, 1, 0⟩ n] [.arr true .s3 l, .arr true .int fl] (Is (.tuple [.bool false, .bool (flowOk l u t fl)]) [.arr true .s3 l, .arr true .int fl]) := by
  subst hn
  have h0 := implIsFlow_call l u t fl hl hf
  rw [h] at h0
  exact h0

theorem implAugT_call (l : List S3) (u t : Int) (fl : List Int) (n : Nat) (hn : n = fl.length) (h : isFl l u t fl = true) (hp : 0 < augM l fl u t) (hl : l.length ≤ 1048576) (hf : n ≤ 1048576) : ACall Try.prog 31 [.slice ⟨0, 0, 0, 3, 0⟩ l.length, .int .i64 u, .int .i64 t, .slice ⟨1, 0, 0, 1, 0⟩ n] [.arr true .s3 l, .arr true .int fl] (Is (.tuple [.slice ⟨2, 0, 0, 1, 0⟩ n, .int .i64 (augM l fl u t), .bool true]) [.arr true .s3 l, .arr true .int fl, .arr false .int (augO l fl u t)]) := by
  subst hn
  have h0 := implAugmentOnce_call l u t fl hl hf
  rw [(ao_yes h hp).1, (ao_yes h hp).2.1, (ao_yes h hp).2.2, augO_len h hp] at h0
  exact h0

theorem implAugZ_call (l : List S3) (u t : Int) (fl : List Int) (n : Nat) (hn : n = fl.length) (h : isFl l u t fl = true) (hp : ¬ 0 < augM l fl u t) (hl : l.length ≤ 1048576) (hf : n ≤ 1048576) : ACall Try.prog 31 [.slice ⟨0, 0, 0, 3, 0⟩ l.length, .int .i64 u, .int .i64 t, .slice ⟨1, 0, 0, 1, 0⟩ n] [.arr true .s3 l, .arr true .int fl] (Is (.tuple [.slice ⟨2, 0, 0, 1, 0⟩ 0, .int .i64 0, .bool false]) [.arr true .s3 l, .arr true .int fl, .arr false .int ([])]) := by
  subst hn
  have h0 := implAugmentOnce_call l u t fl hl hf
  rw [(ao_zero h hp).1, (ao_zero h hp).2.1, (ao_zero h hp).2.2] at h0
  exact h0

theorem implAugF_call (l : List S3) (u t : Int) (fl : List Int) (n : Nat) (hn : n = fl.length) (h : isFl l u t fl = false) (hl : l.length ≤ 1048576) (hf : n ≤ 1048576) : ACall Try.prog 31 [.slice ⟨0, 0, 0, 3, 0⟩ l.length, .int .i64 u, .int .i64 t, .slice ⟨1, 0, 0, 1, 0⟩ n] [.arr true .s3 l, .arr true .int fl] (Is (.tuple [.slice ⟨2, 0, 0, 1, 0⟩ 0, .int .i64 0, .bool false]) [.arr true .s3 l, .arr true .int fl, .arr false .int ([])]) := by
  subst hn
  have h0 := implAugmentOnce_call l u t fl hl hf
  rw [(ao_no h).1, (ao_no h).2.1, (ao_no h).2.2] at h0
  exact h0

theorem specFlowT_call (l : List S3) (u t : Int) (fl : List Int) (n : Nat) (hn : n = fl.length) (h : isFl l u t fl = true) (hl : l.length ≤ 1048576) (hf : n ≤ 1048576) : ACall Try.prog 23 [.slice ⟨0, 0, 0, 3, 0⟩ l.length, .int .i64 u, .int .i64 t, .slice ⟨1, 0, 0, 1, 0⟩ n] [.arr true .s3 l, .arr true .int fl] (Is (.tuple [.int .i64 (outM l fl u), .bool true]) [.arr true .s3 l, .arr true .int fl]) := by
  subst hn
  have h0 := specFlowOf_call l u t fl hl hf
  rw [flowM_yes h, h] at h0
  exact h0

theorem specFlowF_call (l : List S3) (u t : Int) (fl : List Int) (n : Nat) (hn : n = fl.length) (h : isFl l u t fl = false) (hl : l.length ≤ 1048576) (hf : n ≤ 1048576) : ACall Try.prog 23 [.slice ⟨0, 0, 0, 3, 0⟩ l.length, .int .i64 u, .int .i64 t, .slice ⟨1, 0, 0, 1, 0⟩ n] [.arr true .s3 l, .arr true .int fl] (Is (.tuple [.int .i64 0, .bool false]) [.arr true .s3 l, .arr true .int fl]) := by
  subst hn
  have h0 := specFlowOf_call l u t fl hl hf
  rw [flowM_no h, h] at h0
  exact h0

theorem specIsT_call (l : List S3) (u t : Int) (fl : List Int) (n : Nat) (hn : n = fl.length) (h : isFl l u t fl = true) (hl : l.length ≤ 1048576) (hf : n ≤ 1048576) : ACall Try.prog 17 [.slice ⟨0, 0, 0, 3, 0⟩ l.length, .int .i64 u, .int .i64 t, .slice ⟨1, 0, 0, 1, 0⟩ n] [.arr true .s3 l, .arr true .int fl] (Is (.tuple [.bool true, .bool true]) [.arr true .s3 l, .arr true .int fl]) := by
  subst hn
  have h0 := specIsFlow_call l u t fl hl hf
  rw [h, (isFl_ask h).1] at h0
  exact h0

theorem specIsF_call (l : List S3) (u t : Int) (fl : List Int) (n : Nat) (hn : n = fl.length) (h : isFl l u t fl = false) (hl : l.length ≤ 1048576) (hf : n ≤ 1048576) : ACall Try.prog 17 [.slice ⟨0, 0, 0, 3, 0⟩ l.length, .int .i64 u, .int .i64 t, .slice ⟨1, 0, 0, 1, 0⟩ n] [.arr true .s3 l, .arr true .int fl] (Is (.tuple [.bool false, .bool (flowOk l u t fl)]) [.arr true .s3 l, .arr true .int fl]) := by
  subst hn
  have h0 := specIsFlow_call l u t fl hl hf
  rw [h] at h0
  exact h0

theorem specAugT_call (l : List S3) (u t : Int) (fl : List Int) (n : Nat) (hn : n = fl.length) (h : isFl l u t fl = true) (hp : 0 < augM l fl u t) (hl : l.length ≤ 1048576) (hf : n ≤ 1048576) : ACall Try.prog 30 [.slice ⟨0, 0, 0, 3, 0⟩ l.length, .int .i64 u, .int .i64 t, .slice ⟨1, 0, 0, 1, 0⟩ n] [.arr true .s3 l, .arr true .int fl] (Is (.tuple [.slice ⟨2, 0, 0, 1, 0⟩ n, .int .i64 (augM l fl u t), .bool true]) [.arr true .s3 l, .arr true .int fl, .arr false .int (augO l fl u t)]) := by
  subst hn
  have h0 := specAugmentOnce_call l u t fl hl hf
  rw [(ao_yes h hp).1, (ao_yes h hp).2.1, (ao_yes h hp).2.2, augO_len h hp] at h0
  exact h0

theorem specAugZ_call (l : List S3) (u t : Int) (fl : List Int) (n : Nat) (hn : n = fl.length) (h : isFl l u t fl = true) (hp : ¬ 0 < augM l fl u t) (hl : l.length ≤ 1048576) (hf : n ≤ 1048576) : ACall Try.prog 30 [.slice ⟨0, 0, 0, 3, 0⟩ l.length, .int .i64 u, .int .i64 t, .slice ⟨1, 0, 0, 1, 0⟩ n] [.arr true .s3 l, .arr true .int fl] (Is (.tuple [.slice ⟨2, 0, 0, 1, 0⟩ 0, .int .i64 0, .bool false]) [.arr true .s3 l, .arr true .int fl, .arr false .int ([])]) := by
  subst hn
  have h0 := specAugmentOnce_call l u t fl hl hf
  rw [(ao_zero h hp).1, (ao_zero h hp).2.1, (ao_zero h hp).2.2] at h0
  exact h0

theorem specAugF_call (l : List S3) (u t : Int) (fl : List Int) (n : Nat) (hn : n = fl.length) (h : isFl l u t fl = false) (hl : l.length ≤ 1048576) (hf : n ≤ 1048576) : ACall Try.prog 30 [.slice ⟨0, 0, 0, 3, 0⟩ l.length, .int .i64 u, .int .i64 t, .slice ⟨1, 0, 0, 1, 0⟩ n] [.arr true .s3 l, .arr true .int fl] (Is (.tuple [.slice ⟨2, 0, 0, 1, 0⟩ 0, .int .i64 0, .bool false]) [.arr true .s3 l, .arr true .int fl, .arr false .int ([])]) := by
  subst hn
  have h0 := specAugmentOnce_call l u t fl hl hf
  rw [(ao_no h).1, (ao_no h).2.1, (ao_no h).2.2] at h0
  exact h0

theorem cutT_call (l : List S3) (s : List Int) (n : Nat) (hn : n = s.length) (hg : goodPipes l = true) (hs : someB s 8 = true) (hl : l.length ≤ 1048576) (hf : n ≤ 1048576) : ACall Try.prog 22 [.slice ⟨0, 0, 0, 3, 0⟩ l.length, .slice ⟨1, 0, 0, 1, 0⟩ n] [.arr true .s3 l, .arr true .int s] (Is (.tuple [.int .i64 (cutM l s), .bool true]) [.arr true .s3 l, .arr true .int s]) := by
  subst hn
  have h := implCutSize_call l s hl hf
  rw [(cut_yes hg hs).1, (cut_yes hg hs).2] at h
  exact h

theorem hasT_call (s : List Int) (x : Int) (n : Nat) (hn : n = s.length) (h : hasB s x = true) (hs : n ≤ 1048576) : ACall Try.prog 36 [.slice ⟨0, 0, 0, 1, 0⟩ n, .int .i64 x] [.arr true .int s] (Is (.bool true) [.arr true .int s]) := by
  subst hn
  have h0 := has_call s x hs
  rwa [h] at h0
theorem hasF_call (s : List Int) (x : Int) (n : Nat) (hn : n = s.length) (h : hasB s x = false) (hs : n ≤ 1048576) : ACall Try.prog 36 [.slice ⟨0, 0, 0, 1, 0⟩ n, .int .i64 x] [.arr true .int s] (Is (.bool false) [.arr true .int s]) := by
  subst hn
  have h0 := has_call s x hs
  rwa [h] at h0
theorem sameIntsE_call (a b : List Int) (n m : Nat) (hn : n = a.length) (hm : m = b.length) (h : a = b) (ha : n ≤ 1048576) : ACall Try.prog 35 [.slice ⟨0, 0, 0, 1, 0⟩ n, .slice ⟨1, 0, 0, 1, 0⟩ m] [.arr true .int a, .arr true .int b] (Is (.bool true) [.arr true .int a, .arr true .int b]) := by
  subst h hn hm
  have h := sameInts_call a a ha
  rwa [show eqB a a = true by rw [eqB_true]] at h
theorem ask_side {l : List S3} {u t : Int} (h : askB l u t = true) : (sideM l u t).length ≤ 8 := side_len (askB_spec h).1 (askB_spec h).2.1
theorem ask_len {l : List S3} {u t : Int} (h : askB l u t = true) : l.length ≤ 20 := goodPipes_len (askB_spec h).1

theorem selU_yes1 {more : List Int} {u t : Int} {k : Nat} (h : (k : Int) = u) : (selN (fun x => decide (x = u) || (decide (x ≠ t) && decide (x.toNat < more.length) && decide ((more.getD x.toNat 0).tmod 2 = 0))) (k + 1)) = selN (fun x => decide (x = u) || (decide (x ≠ t) && decide (x.toNat < more.length) && decide ((more.getD x.toNat 0).tmod 2 = 0))) k ++ [(k : Int)] := selN_yes (by rw [decide_eq_true h]; rfl)
theorem selU_yes2 {more : List Int} {u t : Int} {k : Nat} (h : ¬ (k : Int) = u) (h1 : ¬ (k : Int) = t) (h2 : k < more.length) (h3 : (more.getD k 0).tmod 2 = 0) : (selN (fun x => decide (x = u) || (decide (x ≠ t) && decide (x.toNat < more.length) && decide ((more.getD x.toNat 0).tmod 2 = 0))) (k + 1)) = selN (fun x => decide (x = u) || (decide (x ≠ t) && decide (x.toNat < more.length) && decide ((more.getD x.toNat 0).tmod 2 = 0))) k ++ [(k : Int)] := selN_yes (by simp only [Int.toNat_natCast]; rw [decide_eq_true h1, decide_eq_true h2, decide_eq_true h3]; simp)
theorem selU_no1 {more : List Int} {u t : Int} {k : Nat} (h : ¬ (k : Int) = u) (h1 : (k : Int) = t) : (selN (fun x => decide (x = u) || (decide (x ≠ t) && decide (x.toNat < more.length) && decide ((more.getD x.toNat 0).tmod 2 = 0))) (k + 1)) = selN (fun x => decide (x = u) || (decide (x ≠ t) && decide (x.toNat < more.length) && decide ((more.getD x.toNat 0).tmod 2 = 0))) k := selN_no (by rw [decide_eq_false h, decide_eq_false (fun c => c h1)]; rfl)
theorem selU_no2 {more : List Int} {u t : Int} {k : Nat} (h : ¬ (k : Int) = u) (h2 : ¬ k < more.length) : (selN (fun x => decide (x = u) || (decide (x ≠ t) && decide (x.toNat < more.length) && decide ((more.getD x.toNat 0).tmod 2 = 0))) (k + 1)) = selN (fun x => decide (x = u) || (decide (x ≠ t) && decide (x.toNat < more.length) && decide ((more.getD x.toNat 0).tmod 2 = 0))) k := selN_no (by simp only [Int.toNat_natCast]; rw [decide_eq_false h, decide_eq_false h2]; simp)
theorem selU_no3 {more : List Int} {u t : Int} {k : Nat} (h : ¬ (k : Int) = u) (h3 : ¬ (more.getD k 0).tmod 2 = 0) : (selN (fun x => decide (x = u) || (decide (x ≠ t) && decide (x.toNat < more.length) && decide ((more.getD x.toNat 0).tmod 2 = 0))) (k + 1)) = selN (fun x => decide (x = u) || (decide (x ≠ t) && decide (x.toNat < more.length) && decide ((more.getD x.toNat 0).tmod 2 = 0))) k := selN_no (by simp only [Int.toNat_natCast]; rw [decide_eq_false h, decide_eq_false h3]; simp)
theorem sub_app1 (a : List Int) (x : Int) : sub a 0 a.length ++ sub [x] 0 1 = a ++ [x] := by rw [sub_all]; rfl
theorem selU_some (more : List Int) (u t : Int) : someB (selN (fun x => decide (x = u) || (decide (x ≠ t) && decide (x.toNat < more.length) && decide ((more.getD x.toNat 0).tmod 2 = 0))) 8) 8 = true := by
  unfold selN
  exact some_mem (n := 8) ((rangeI_rise 8).filter _) fun x hx => rangeI_mem.1 (List.mem_filter.1 hx).1
theorem selU_has {more : List Int} {u t : Int} (hu : 0 ≤ u ∧ u ≤ 7) (hut : u ≠ t) : hasB (selN (fun x => decide (x = u) || (decide (x ≠ t) && decide (x.toNat < more.length) && decide ((more.getD x.toNat 0).tmod 2 = 0))) 8) u = true ∧ hasB (selN (fun x => decide (x = u) || (decide (x ≠ t) && decide (x.toNat < more.length) && decide ((more.getD x.toNat 0).tmod 2 = 0))) 8) t = false := by
  unfold selN
  refine ⟨hasB_iff.2 (List.mem_filter.2 ⟨rangeI_mem.2 (by omega), by simp⟩), hasB_false.2 fun h => ?_⟩
  have := (List.mem_filter.1 h).2
  simp [Ne.symm hut] at this
theorem selCut_call (l : List S3) (u t : Int) (more : List Int) (k : Nat) (hk : k = 8) (ha : askB l u t = true) (hl : l.length ≤ 1048576) : ACall Try.prog 22 [.slice ⟨0, 0, 0, 3, 0⟩ l.length, .slice ⟨1, 0, 0, 1, 0⟩ (selN (fun x => decide (x = u) || (decide (x ≠ t) && decide (x.toNat < more.length) && decide ((more.getD x.toNat 0).tmod 2 = 0))) k).length] [.arr true .s3 l, .arr true .int (selN (fun x => decide (x = u) || (decide (x ≠ t) && decide (x.toNat < more.length) && decide ((more.getD x.toNat 0).tmod 2 = 0))) k)] (Is (.tuple [.int .i64 (cutM l (selN (fun x => decide (x = u) || (decide (x ≠ t) && decide (x.toNat < more.length) && decide ((more.getD x.toNat 0).tmod 2 = 0))) k)), .bool true]) [.arr true .s3 l, .arr true .int (selN (fun x => decide (x = u) || (decide (x ≠ t) && decide (x.toNat < more.length) && decide ((more.getD x.toNat 0).tmod 2 = 0))) k)]) := by
  subst hk
  have hle := selN_le (fun x => decide (x = u) || (decide (x ≠ t) && decide (x.toNat < more.length) && decide ((more.getD x.toNat 0).tmod 2 = 0))) 8
  exact cutT_call l _ _ rfl (askB_spec ha).1 (selU_some more u t) hl (by omega)
theorem selCut_ge {l : List S3} {u t : Int} (more : List Int) {k : Nat} (hk : k = 8) (ha : askB l u t = true) : outM l (grM l u t) u ≤ cutM l (selN (fun x => decide (x = u) || (decide (x ≠ t) && decide (x.toNat < more.length) && decide ((more.getD x.toNat 0).tmod 2 = 0))) k) := by
  subst hk
  have hs := askB_spec ha
  have hh := selU_has (more := more) hs.2.1 hs.2.2.2
  exact flow_cut (flow_end ha).ok hh.1 hh.2

theorem sideCut_call (l : List S3) (u t : Int) (ha : askB l u t = true) (hl : l.length ≤ 1048576) : ACall Try.prog 22 [.slice ⟨0, 0, 0, 3, 0⟩ l.length, .slice ⟨1, 0, 0, 1, 0⟩ (sideM l u t).length] [.arr true .s3 l, .arr true .int (sideM l u t)] (Is (.tuple [.int .i64 (outM l (grM l u t) u), .bool true]) [.arr true .s3 l, .arr true .int (sideM l u t)]) := by
  have hsl := ask_side ha
  have h := cutT_call l (sideM l u t) _ rfl (askB_spec ha).1 (flow_end ha).rise hl (by omega)
  rwa [(flow_end ha).cut] at h

theorem lawFlow_call (code more : List Int) (hcode : ∀ x ∈ code, 0 ≤ x ∧ x ≤ 255) (hmore : ∀ x ∈ more, 0 ≤ x ∧ x ≤ 255) : ACall Try.prog 10 [.slice ⟨0, 0, 0, 1, 0⟩ code.length, .slice ⟨1, 0, 0, 1, 0⟩ more.length] [.arr true .byte code, .arr true .byte more] (Is (.bool true) [.arr true .byte code, .arr true .byte more]) := by
  refine ACall.walk T Try.func10 Try.ntmps10 Try.results10 rfl rfl rfl (Is.nv _ _) ?_
  repeat' (conv => whnf); first
    | refine AWP.regX (id := 1) T 4 rfl ?_
    | refine AWP.cond rfl (fun hb => absurd (of_decide_eq_true hb) (by omega)) (fun hb => ?_)
    | refine AWP.seq ?_
    | refine AWP.reg T rfl ?_
    | refine AWP.drw T none rfl rfl rfl ?_
    | refine AWP.dep T none rfl rfl rfl rfl ?_
    | refine AWP.block ?_
    | refine AWP.condT rfl ?_
    | refine AWP.condF rfl ?_
    | refine AWP.cond rfl (fun hb => ?_) (fun hb => ?_)
    | refine AWP.ret ?_
    | refine AWP.exit ?_
    | refine AWP.skip ?_
    | refine GuardB.t ?_
    | refine GuardB.f ?_
    | refine GuardB.mk (fun hb => ?_) (fun hb => ?_)
    | refine NilQ.mk (fun hb => ?_) ?_
    | refine VC.mk Nat.zero_lt_one ?_
    | refine VC.mk rfl ?_
    | refine ACall.useEx3 [0] (drawMaxFlow_call code hcode) rfl (.cons (.same rfl rfl) (.nil _)) rfl (fun l u t hl => boolSplit (askB l u t) (fun ha => ?_) (fun ha => ?_))
    | refine ACall.useIs [2] (implMaxT_call l u t ha ?_) rfl (.cons (.ro rfl rfl) (.nil _)) rfl ?_
    | refine ACall.useIs [2] (implCutT_call l u t ha ?_) rfl (.cons (.ro rfl rfl) (.nil _)) rfl ?_
    | refine ACall.useIs [2] (implMaxF_call l u t ha ?_) rfl (.cons (.ro rfl rfl) (.nil _)) rfl ?_
    | refine ACall.useIs [2] (implCutF_call l u t ha ?_) rfl (.cons (.ro rfl rfl) (.nil _)) rfl ?_
    | refine ACall.useIs [2] (specMaxT_call l u t ha ?_) rfl (.cons (.ro rfl rfl) (.nil _)) rfl ?_
    | refine ACall.useIs [2] (specCutT_call l u t ha ?_) rfl (.cons (.ro rfl rfl) (.nil _)) rfl ?_
    | refine ACall.useIs [2] (specMaxF_call l u t ha ?_) rfl (.cons (.ro rfl rfl) (.nil _)) rfl ?_
    | refine ACall.useIs [2] (specCutF_call l u t ha ?_) rfl (.cons (.ro rfl rfl) (.nil _)) rfl ?_
    | refine ACall.useIs [3, 4] (sameIntsE_call _ _ _ _ ?_ ?_ ?_ ?_) rfl (.cons (.ro rfl rfl) (.cons (.ro rfl rfl) (.nil _))) rfl ?_
    | refine ACall.useIs [5, 6] (sameIntsE_call _ _ _ _ ?_ ?_ ?_ ?_) rfl (.cons (.ro rfl rfl) (.cons (.ro rfl rfl) (.nil _))) rfl ?_
    | refine ACall.useIs [2] (implGoodPipes_call l ?_) rfl (.cons (.ro rfl rfl) (.nil _)) rfl ?_
    | refine ACall.useIs [2] (specGoodPipes_call l ?_) rfl (.cons (.ro rfl rfl) (.nil _)) rfl ?_
    | refine ACall.useIs [2, 3] (implIsT_call l u t (grM l u t) l.length (grM_len l u t).symm (flow_end ha).ok ?_ ?_) rfl (.cons (.ro rfl rfl) (.cons (.ro rfl rfl) (.nil _))) rfl ?_
    | refine ACall.useIs [2, 3] (implFlowT_call l u t (grM l u t) l.length (grM_len l u t).symm (flow_end ha).ok ?_ ?_) rfl (.cons (.ro rfl rfl) (.cons (.ro rfl rfl) (.nil _))) rfl ?_
    | refine ACall.useIs [2, 3] (implAugZ_call l u t (grM l u t) l.length (grM_len l u t).symm (flow_end ha).ok ?_ ?_ ?_) rfl (.cons (.ro rfl rfl) (.cons (.ro rfl rfl) (.nil _))) rfl ?_
    | refine ACall.useIs [2, 5] (sideCut_call l u t ha ?_) rfl (.cons (.ro rfl rfl) (.cons (.ro rfl rfl) (.nil _))) rfl ?_
    | refine ACall.useIs [5] (hasT_call _ u _ rfl (flow_end ha).hasU ?_) rfl (.cons (.ro rfl rfl) (.nil _)) rfl ?_
    | refine ACall.useIs [5] (hasF_call _ t _ rfl (flow_end ha).noT ?_) rfl (.cons (.ro rfl rfl) (.nil _)) rfl ?_
    | refine AWP.while (ι := Nat) (fun k => St.of [(1, .slice ⟨1, 0, 0, 1, 0⟩ more.length), (5, .slice ⟨2, 0, 0, 3, 0⟩ l.length), (6, .int .i64 u), (7, .int .i64 t), (9, .int .i64 (outM l (grM l u t) u)), (29, .slice ⟨3, 0, 0, 1, 0⟩ (selN (fun x => decide (x = u) || (decide (x ≠ t) && decide (x.toNat < more.length) && decide ((more.getD x.toNat 0).tmod 2 = 0))) k).length), (30, .int .i64 k)] [.arr true .byte code, .arr true .byte more, .arr false .s3 l, .arr false .int (selN (fun x => decide (x = u) || (decide (x ≠ t) && decide (x.toNat < more.length) && decide ((more.getD x.toNat 0).tmod 2 = 0))) k)]) (fun k => k ≤ 8) (fun k => 8 - k) 0 (Nat.zero_le _)
        (Weak.of [0, 1, 2, 8] (.cons rfl rfl (.cons rfl rfl (.cons rfl rfl (.cons rfl rfl (.cons rfl rfl (.s rfl ?_ rfl (.cons rfl rfl .nil))))))) (.cons (.same rfl rfl) (.cons (.same rfl rfl) (.cons (.same rfl rfl) (.cons (.arr rfl ?_) (.nil _))))) rfl) (fun k hk => ?_)
    | refine roundEnd (k + 1) ?_ ?_ (Weak.of [0, 1, 2, 5] (.cons rfl rfl (.cons rfl rfl (.cons rfl rfl (.cons rfl rfl (.cons rfl rfl (.s rfl ?_ rfl (.cons rfl rfl .nil))))))) (.cons (.same rfl rfl) (.cons (.same rfl rfl) (.cons (.same rfl rfl) (.cons (.arr rfl ?_) (.nil _))))) rfl)
    | refine roundEnd (k + 1) ?_ ?_ (Weak.of [0, 1, 2, 3] (.cons rfl rfl (.cons rfl rfl (.cons rfl rfl (.cons rfl rfl (.cons rfl rfl (.s rfl ?_ rfl (.cons rfl rfl .nil))))))) (.cons (.same rfl rfl) (.cons (.same rfl rfl) (.cons (.same rfl rfl) (.cons (.arr rfl ?_) (.nil _))))) rfl)
    | refine ACall.useIs [2, 3] (selCut_call l u t more k ?_ ha ?_) rfl (.cons (.ro rfl rfl) (.cons (.ro rfl rfl) (.nil _))) rfl ?_
    | refine XGoal.addW (o := ⟨_, .binOp .add _ _ _ _, _, _, _, _⟩) rfl ?_
    | refine XGoal.list rfl ?_
    | refine Ret.bool [0, 1] ?_ (.cons (.same rfl rfl) (.cons (.same rfl rfl) (.nil _))) rfl
    | refine VC.mk ?_ ?_
  all_goals try simp only [decide_eq_true_eq, decide_eq_false_iff_not, Bool.not_eq_true', Bool.not_eq_false', cond_true, cond_false, eqB_true, eqB_false] at *
  all_goals try simp only [in64, idxAdd_zero_left, Int.toNat_natCast, fillTo_length, Int.ofNat_lt, Int.ofNat_le, Int.natCast_inj] at *
  all_goals try have hal := ask_len ha
  all_goals try have hsl := ask_side ha
  all_goals try have hno := (flow_end ha).no
  all_goals try have hby := byte_at hmore k
  all_goals try have hll := selN_le (fun x => decide (x = u) || (decide (x ≠ t) && decide (x.toNat < more.length) && decide ((more.getD x.toNat 0).tmod 2 = 0))) k
  all_goals try simp only [List.length_append, List.length_set, sub_lenM, List.length_nil] at *
  all_goals first
    | omega
    | exact ⟨by omega, by omega⟩
    | exact Eq.refl true
    | rfl
    | exact (grM_len l u t).symm
    | (rw [hno]; exact Int.lt_irrefl 0)
    | (refine ⟨?_, ?_, ?_⟩ <;> first | omega | (simp; done))
    | (rw [selN_zero]; done)
    | (rw [selN_zero]; rfl)
    | (refine ⟨Nat.le_refl 1, ?_, ?_⟩ <;> omega)
    | (rw [selU_yes1 (by assumption), sub_app1]; done)
    | (rw [selU_yes1 (by assumption), List.length_append]; done)
    | (rw [selU_yes1 (by assumption), List.length_append]; rfl)
    | (rw [selU_yes2 (by omega) (by omega) (by omega) (by assumption), sub_app1]; done)
    | (rw [selU_yes2 (by omega) (by omega) (by omega) (by assumption), List.length_append]; done)
    | (rw [selU_yes2 (by omega) (by omega) (by omega) (by assumption), List.length_append]; rfl)
    | (rw [selU_no1 (by omega) (by omega)]; done)
    | (rw [selU_no2 (by omega) (by omega)]; done)
    | (rw [selU_no3 (by omega) (by assumption)]; done)
    | exact selCut_ge more (by omega) ha
    | (rw [eq_comm, decide_eq_true_eq]; have := selCut_ge more (by omega : k = 8) ha; omega)
    | (rw [decide_eq_true_eq]; have := selCut_ge more (by omega : k = 8) ha; omega)
    | (exfalso; simp at *; done)
    | (exfalso; omega)

theorem lawAugment2_call (code more : List Int) (hcode : ∀ x ∈ code, 0 ≤ x ∧ x ≤ 255) (hmore : ∀ x ∈ more, 0 ≤ x ∧ x ≤ 255) : ACall Try.prog 11 [.slice ⟨0, 0, 0, 1, 0⟩ code.length, .slice ⟨1, 0, 0, 1, 0⟩ more.length] [.arr true .byte code, .arr true .byte more] (Is (.bool true) [.arr true .byte code, .arr true .byte more]) := by
  refine ACall.walk T Try.func11 Try.ntmps11 Try.results11 rfl rfl rfl (Is.nv _ _) ?_
  repeat' (conv => whnf); first
    | refine AWP.regX (id := 1) T 4 rfl ?_
    | refine AWP.seq ?_
    | refine AWP.reg T rfl ?_
    | refine AWP.drw T none rfl rfl rfl ?_
    | refine AWP.dep T none rfl rfl rfl rfl ?_
    | refine AWP.block ?_
    | refine AWP.condT rfl ?_
    | refine AWP.condF rfl ?_
    | refine AWP.cond rfl (fun hb => ?_) (fun hb => ?_)
    | refine AWP.ret ?_
    | refine AWP.exit ?_
    | refine AWP.skip ?_
    | refine GuardB.t ?_
    | refine GuardB.f ?_
    | refine GuardB.mk (fun hb => ?_) (fun hb => ?_)
    | refine NilQ.mk (fun hb => ?_) ?_
    | refine VC.mk Nat.zero_lt_one ?_
    | refine VC.mk rfl ?_
    | refine ACall.useEx4 [0] (drawAugment_call code hcode) rfl (.cons (.same rfl rfl) (.nil _)) rfl (fun l u t fl hlf => boolSplit (isFl l u t fl) (fun h => dite (0 < augM l fl u t) (fun hp => ?_) (fun hp => ?_)) (fun h => ?_))
    | refine ACall.useEx2 [1] (drawCutSize_call more hmore) rfl (.cons (.same rfl rfl) (.nil _)) rfl (fun p sd hps => ?_)
    | refine ACall.useIs [2, 3] (implAugT_call l u t fl fl.length rfl h hp ?_ ?_) rfl (.cons (.ro rfl rfl) (.cons (.ro rfl rfl) (.nil _))) rfl ?_
    | refine ACall.useIs [2, 3] (implAugZ_call l u t fl fl.length rfl h hp ?_ ?_) rfl (.cons (.ro rfl rfl) (.cons (.ro rfl rfl) (.nil _))) rfl ?_
    | refine ACall.useIs [2, 3] (implAugF_call l u t fl fl.length rfl h ?_ ?_) rfl (.cons (.ro rfl rfl) (.cons (.ro rfl rfl) (.nil _))) rfl ?_
    | refine ACall.useIs [2, 3] (implFlowT_call l u t fl fl.length rfl h ?_ ?_) rfl (.cons (.ro rfl rfl) (.cons (.ro rfl rfl) (.nil _))) rfl ?_
    | refine ACall.useIs [2, 3] (implFlowF_call l u t fl fl.length rfl h ?_ ?_) rfl (.cons (.ro rfl rfl) (.cons (.ro rfl rfl) (.nil _))) rfl ?_
    | refine ACall.useIs [2, 3] (implIsT_call l u t fl fl.length rfl h ?_ ?_) rfl (.cons (.ro rfl rfl) (.cons (.ro rfl rfl) (.nil _))) rfl ?_
    | refine ACall.useIs [2, 3] (implIsF_call l u t fl fl.length rfl h ?_ ?_) rfl (.cons (.ro rfl rfl) (.cons (.ro rfl rfl) (.nil _))) rfl ?_
    | refine ACall.useIs [2, 3] (specAugT_call l u t fl fl.length rfl h hp ?_ ?_) rfl (.cons (.ro rfl rfl) (.cons (.ro rfl rfl) (.nil _))) rfl ?_
    | refine ACall.useIs [2, 3] (specAugZ_call l u t fl fl.length rfl h hp ?_ ?_) rfl (.cons (.ro rfl rfl) (.cons (.ro rfl rfl) (.nil _))) rfl ?_
    | refine ACall.useIs [2, 3] (specAugF_call l u t fl fl.length rfl h ?_ ?_) rfl (.cons (.ro rfl rfl) (.cons (.ro rfl rfl) (.nil _))) rfl ?_
    | refine ACall.useIs [2, 3] (specFlowT_call l u t fl fl.length rfl h ?_ ?_) rfl (.cons (.ro rfl rfl) (.cons (.ro rfl rfl) (.nil _))) rfl ?_
    | refine ACall.useIs [2, 3] (specFlowF_call l u t fl fl.length rfl h ?_ ?_) rfl (.cons (.ro rfl rfl) (.cons (.ro rfl rfl) (.nil _))) rfl ?_
    | refine ACall.useIs [2, 3] (specIsT_call l u t fl fl.length rfl h ?_ ?_) rfl (.cons (.ro rfl rfl) (.cons (.ro rfl rfl) (.nil _))) rfl ?_
    | refine ACall.useIs [2, 3] (specIsF_call l u t fl fl.length rfl h ?_ ?_) rfl (.cons (.ro rfl rfl) (.cons (.ro rfl rfl) (.nil _))) rfl ?_
    | refine ACall.useIs [4, 5] (sameIntsE_call _ _ _ _ ?_ ?_ ?_ ?_) rfl (.cons (.ro rfl rfl) (.cons (.ro rfl rfl) (.nil _))) rfl ?_
    | refine ACall.useIs [2, 4] (implFlowT_call l u t (augO l fl u t) fl.length (augO_len h hp).symm (aug_more h hp).1 ?_ ?_) rfl (.cons (.ro rfl rfl) (.cons (.ro rfl rfl) (.nil _))) rfl ?_
    | refine ACall.useIs [6, 7] (implCutSize_call p sd ?_ ?_) rfl (.cons (.ro rfl rfl) (.cons (.ro rfl rfl) (.nil _))) rfl ?_
    | refine ACall.useIs [5, 6] (implCutSize_call p sd ?_ ?_) rfl (.cons (.ro rfl rfl) (.cons (.ro rfl rfl) (.nil _))) rfl ?_
    | refine ACall.useIs [4, 5] (implCutSize_call p sd ?_ ?_) rfl (.cons (.ro rfl rfl) (.cons (.ro rfl rfl) (.nil _))) rfl ?_
    | refine ACall.useIs [6, 7] (specCutSize_call p sd ?_ ?_) rfl (.cons (.ro rfl rfl) (.cons (.ro rfl rfl) (.nil _))) rfl ?_
    | refine ACall.useIs [5, 6] (specCutSize_call p sd ?_ ?_) rfl (.cons (.ro rfl rfl) (.cons (.ro rfl rfl) (.nil _))) rfl ?_
    | refine ACall.useIs [4, 5] (specCutSize_call p sd ?_ ?_) rfl (.cons (.ro rfl rfl) (.cons (.ro rfl rfl) (.nil _))) rfl ?_
    | refine ACall.useIs [2] (implMaxT_call l u t (isFl_ask h).2 ?_) rfl (.cons (.ro rfl rfl) (.nil _)) rfl ?_
    | refine XGoal.addW (o := ⟨_, .binOp .add _ _ _ _, _, _, _, _⟩) rfl ?_
    | refine XGoal.list rfl ?_
    | refine Ret.bool [0, 1] ?_ (.cons (.same rfl rfl) (.cons (.same rfl rfl) (.nil _))) rfl
    | refine VC.mk ?_ ?_
  all_goals try simp only [decide_eq_true_eq, decide_eq_false_iff_not, Bool.not_eq_true', Bool.not_eq_false', cond_true, cond_false, eqB_true, eqB_false] at *
  all_goals try simp only [in64, idxAdd_zero_left, Int.toNat_natCast, fillTo_length, Int.ofNat_lt, Int.ofNat_le, Int.natCast_inj] at *
  all_goals try have hl1 := hlf.1
  all_goals try have hl2 := hlf.2
  all_goals try have hp1 := hps.1
  all_goals try have hp2 := hps.2
  all_goals try have har := aug_rng h
  all_goals try have ham := (aug_more h hp).2
  all_goals try have hmo := flow_most h
  all_goals try have hll := augO_len h hp
  all_goals first
    | omega
    | exact ⟨by omega, by omega⟩
    | exact Eq.refl true
    | rfl
    | (exfalso; rw [ham] at *; simp at *; done)
    | (exfalso; simp at *; done)
    | (exfalso; omega)

end YtgkpdnacfpdomaaAM
