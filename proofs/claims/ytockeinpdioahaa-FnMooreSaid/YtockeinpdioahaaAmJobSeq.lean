/- The numbers of a slice, gathered out of the library's iterator over it. Lines of the kit's worked proofs over iterators (slices.Values; filter and collect), turned to this program. -/
import Derived.RangeFuncBox
import Derived.RangeFuncLeaves
import Derived.Shelf.Abstract
import Derived.WalkKit
import Derived.OwnWalkIn
import Derived.TacticsInMore
import Derived.LoopNIn
import Derived.LoopIn
import Derived.Maps.AppendAt
import Derived.Test.YtockeinpdioahaaAmTabJobs
import Derived.Test.YtockeinpdioahaaAmNewRow
set_option linter.unusedVariables false
set_option linter.unusedSimpArgs false
namespace YtockeinpdioahaaAM
open Go Go.Proofs Go.RowKit Go.Shelf

attribute [local go_sem] Oper.semAt_some

/-- What has come when k rounds are over. -/
def uptoN {α : Type} (f : Nat → α) (k : Nat) : List α := (List.range k).map f
theorem uptoN_succ {α : Type} (f : Nat → α) (k : Nat) : uptoN f (k + 1) = uptoN f k ++ [f k] := by simp [uptoN, List.range_succ]
theorem uptoN_length {α : Type} (f : Nat → α) (k : Nat) : (uptoN f k).length = k := by simp [uptoN]
theorem uptoN_all (zs : List Int) : uptoN (fun j => zs[j]?.getD 0) zs.length = zs := by
  apply List.ext_getElem
  · simp [uptoN]
  · intro i h1 h2
    simp [uptoN, h2]

set_option maxRecDepth 100000 in
set_option maxHeartbeats 2000000 in
theorem vals1_in (F : Fence) (n : Nat) (h7 : F.fn 77) (hro : F.round = none) (hn : 1 ≤ n) (l n₀ bb bo b off len cap : Nat) (zs : List Int) (hreach : len * 8 ≤ 140737488351232) (hb : b < n₀) (J Jx : List Int → World → Prop)
    (hY : ∀ pre x W, J pre W → pre.length < len → YieldAt F (n - 1) Try.prog l #[.int .i64 x] W fun e W' =>
      (e = .returned (.bool true) ∧ J (pre ++ [x]) W' ∧ Below n₀ W W') ∨ (e = .returned (.bool false) ∧ Jx (pre ++ [x]) W'))
    (W : World) (hBs : W.cell? ⟨bb, bo, none⟩ = some (.slice (some ⟨b, off, none⟩) len cap)) (hc : ∀ j, j < len → W.cell? ⟨b, off + j, none⟩ = some (.int .i64 (zs[j]?.getD 0))) (h0 : J [] W) :
    CallsIn F n Try.prog 77 #[.func (.yield l) #[] #[], .pointer (some ⟨bb, bo, none⟩)] W fun e W' => (∃ v, e = .returned v) ∧
      ((∃ ys, ys = uptoN (fun j => zs[j]?.getD 0) len ∧ J ys W') ∨ (∃ pre, (∃ k, k ≤ len ∧ pre = uptoN (fun j => zs[j]?.getD 0) k) ∧ Jx pre W')) := by
  refine callsIn_of_wp Try.func77 rfl h7 ?_ hro
  simp only [Try.ntmps77, List.size_toArray, List.length_cons, List.length_nil, Nat.reduceAdd, Nat.reduceSub, Array.replicate_succ, Array.replicate_zero, List.push_toArray, List.append_toArray, List.nil_append, List.cons_append]
  gi_wp2
  gi_loopw [7] (fun i wr => ∃ k : Nat, k ≤ len ∧ i = .int .i64 k ∧ J (uptoN (fun j => zs[j]?.getD 0) k) wr ∧ Below n₀ W wr)
    (fun i _ => len - (intOf i).toNat)
  case atStart => exact ⟨0, Nat.zero_le _, rfl, h0, Below.refl _ _⟩
  case round =>
    obtain ⟨k, hk, rfl, hJs, hnx⟩ := hrel
    have hcx : k < len → wr.cell? ⟨b, off + k, none⟩ = some (.int .i64 (zs[k]?.getD 0)) := fun h => (hnx.cell (p := ⟨b, off + k, none⟩) hb).trans (hc k h)
    by_cases hlt : k < len
    · obtain ⟨fn, tmps, assign, body, hy, hR⟩ := hY _ (zs[k]?.getD 0) wr hJs (by rw [uptoN_length]; exact hlt)
      have hcx' := hcx hlt
      gi_wp2
      refine hR.mono ?_
      rintro e W3 (⟨rfl, hJ3, hk3⟩ | ⟨rfl, hJx3⟩)
      · gi_wp2
        go_roundw
        case rel => exact ⟨k + 1, by omega, by simp, by rw [uptoN_succ]; exact hJ3, hnx.trans hk3⟩
        case measure => simp [intOf]; omega
      · gi_wp2
        refine bodyPost_ret (results_none rfl _ _ _) rfl ?_
        exact ⟨⟨_, rfl⟩, .inr ⟨_, ⟨k + 1, by omega, (uptoN_succ _ _).symm⟩, hJx3⟩⟩
    · obtain rfl : k = len := by omega
      gi_wp2
      go_end0
      exact ⟨⟨_, rfl⟩, .inl ⟨_, rfl, hJs⟩⟩

set_option maxRecDepth 100000 in
set_option maxHeartbeats 1000000 in
theorem vals1_nil_in (F : Fence) (n : Nat) (h7 : F.fn 77) (hro : F.round = none) (l bb bo cap : Nat) (p : Option Addr) (J : List Int → World → Prop) (W : World) (hBs : W.cell? ⟨bb, bo, none⟩ = some (.slice p 0 cap)) (h0 : J [] W) :
    CallsIn F n Try.prog 77 #[.func (.yield l) #[] #[], .pointer (some ⟨bb, bo, none⟩)] W fun e W' => (∃ v, e = .returned v) ∧ J [] W' := by
  refine callsIn_of_wp Try.func77 rfl h7 ?_ hro
  simp only [Try.ntmps77, List.size_toArray, List.length_cons, List.length_nil, Nat.reduceAdd, Nat.reduceSub, Array.replicate_succ, Array.replicate_zero, List.push_toArray, List.append_toArray, List.nil_append, List.cons_append]
  gi_wp2
  gi_loopw [7] (fun i wr => i = .int .i64 0 ∧ J [] wr) (fun _ _ => 0)
  case atStart => exact ⟨rfl, h0⟩
  case round =>
    obtain ⟨rfl, hJs⟩ := hrel
    gi_wp2
    go_end0
    exact ⟨⟨_, rfl⟩, hJs⟩

/-- The slice value holds these numbers, in a block below n₀; or there are none. -/
def IntsAt (n₀ : Nat) (W : World) (sv : Value) (zs : List Int) : Prop :=
  (∃ p cap, sv = .slice p 0 cap ∧ zs = []) ∨ ∃ b off cap, sv = .slice (some ⟨b, off, none⟩) zs.length cap ∧ b < n₀ ∧ ∀ j, j < zs.length → W.cell? ⟨b, off + j, none⟩ = some (.int .i64 (zs[j]?.getD 0))
theorem IntsAt.below {n₀ : Nat} {A B : World} (h : Below n₀ A B) {sv : Value} {zs : List Int} : IntsAt n₀ A sv zs → IntsAt n₀ B sv zs
  | .inl e => .inl e
  | .inr ⟨b, off, cap, e, hb, hc⟩ => .inr ⟨b, off, cap, e, hb, fun j hj => (h.cell (p := ⟨b, off + j, none⟩) hb).trans (hc j hj)⟩

theorem vals_stops (F : Fence) (n : Nat) (h7 : F.fn 77) (hro : F.round = none) (hn : 1 ≤ n) (bb bo n₀ : Nat) (sv : Value) (zs : List Int) (hreach : zs.length * 8 ≤ 140737488351232) (w : World) (hBs : bb < w.heap.size) (hn₀ : n₀ ≤ w.heap.size)
    (hc : w.cell? ⟨bb, bo, none⟩ = some sv) (hI : IntsAt n₀ w sv zs) :
    SeqStopsK F n Try.prog 77 #[.pointer (some ⟨bb, bo, none⟩)] (fun x : Int => #[Value.int .i64 x]) (Below n₀) (fun ys => ys = zs) (fun pre => True) zs.length w := fun l J Jx W hW _ _ hY h0 => by
  have hc' := (hW.cell (p := ⟨bb, bo, none⟩) hBs).trans hc
  rcases hI.below (hW.mono hn₀) with ⟨p, cap, rfl, rfl⟩ | ⟨b, off, cap, rfl, hb, hcs⟩
  · exact (vals1_nil_in F n h7 hro l bb bo cap p J W hc' h0).mono fun e W' ⟨he, hj⟩ => ⟨he, .inl ⟨_, rfl, hj⟩⟩
  · refine (vals1_in F n h7 hro hn l n₀ bb bo b off zs.length cap zs hreach hb J Jx hY W hc' hcs h0).mono ?_
    rintro e W' ⟨he, ⟨ys, rfl, hj⟩ | ⟨pre, ⟨k, hk, rfl⟩, hj⟩⟩
    · exact ⟨he, .inl ⟨_, uptoN_all zs, hj⟩⟩
    · exact ⟨he, .inr ⟨_, trivial, hj⟩⟩

theorem Try.info3 : (Try.prog.info? 3).map (fun i => (i.zero, i.size, i.bytes)) = some (some (.int .i64 0), 1, 8) := by kernel_rfl

set_option maxRecDepth 100000 in
set_option maxHeartbeats 2000000 in
theorem appendSeq_in (F : Fence) (n : Nat) (h83 : F.fn 83) (h77 : F.fn 77) (hro : F.round = none) (hn : 3 ≤ n) (bb bo : Nat) (sv : Value) (zs : List Int) (hlen : zs.length ≤ maxLen) (hbytes : zs.length * 8 ≤ 140737488351232) (w : World) (hBs : bb < w.heap.size) (hcv : w.cell? ⟨bb, bo, none⟩ = some sv) (hIv : IntsAt w.heap.size w sv zs) :
    CallsIn F n Try.prog 83 #[.slice none 0 0, .func (.func 77) #[] #[.pointer (some ⟨bb, bo, none⟩)]] w fun e W' => ∃ v, e = .returned v ∧ W'.ownsRow w.heap.size 3 1 v zs.length (zs.map (Value.int .i64)) ∧ Below w.heap.size w W' := by
  have h1 : 1 ≤ n := by omega
  obtain ⟨i0, hi, hz0, hz1, hz2⟩ := info_parts Try.info3
  refine callsIn_of_wp_marks Try.func83 rfl h83 ?_ hro
  simp only [Try.ntmps83, List.size_toArray, List.length_cons, List.length_nil, Nat.reduceAdd, Nat.reduceSub, Array.replicate_succ, Array.replicate_zero, List.push_toArray, List.append_toArray, List.nil_append, List.cons_append]
  gi_wp2
  have bO := Boxed.new w 35 (.slice none 0 0)
  have hB0 : Below w.heap.size w (w.alloc (.cells #[.slice none 0 0] 35)) := (Below.refl _ w).alloc (Nat.le_refl _) _
  refine wpIn_rangeFunc_ownF hro h1 (gf := 77) (lb := #[.pointer (some ⟨bb, bo, none⟩)]) rfl h77 (enters_of Try.func77 (by kernel_rfl) rfl)
    (vals_stops F (n - 1) h77 hro (by omega) bb bo w.heap.size sv zs hbytes (w.alloc (.cells #[.slice none 0 0] 35)) (by simp; omega) (by simp) ((hB0.cell (p := ⟨bb, bo, none⟩) hBs).trans hcv) (hIv.below hB0)) belowK_t (belowK_b (by simp)) (Below.refl _ _) (fun _ => rfl)
    (fun pre W => (∃ v, Boxed W w.heap.size 35 v ∧ W.ownsRow w.heap.size 3 1 v pre.length (pre.map (Value.int .i64)) ∧ True) ∧ Below w.heap.size w W)
    (fun _ _ _ => False)
    (OwnFrom.and (Own.from (holdsRow_own w.heap.size w.heap.size 35 3 1 (fun pre : List Int => pre.length) (fun pre => pre.map (Value.int .i64)) (fun _ _ => True)) _) (ownFrom_below (Nat.le_refl _) (by simp)))
    (fun _ _ _ _ _ hs _ _ => hs)
    ⟨⟨_, bO, World.ownsRow_nil _ _ _ _, trivial⟩, hB0⟩
    (fun x => { tmps := #[.slice none 0 0, .func (.func 77) #[] #[.pointer (some ⟨bb, bo, none⟩)], .pointer (some ⟨w.heap.size, 0, none⟩), undef, .slice none 0 0, .int .i64 x, .func (.func 77) #[] #[.pointer (some ⟨bb, bo, none⟩)], .int .i64 x, undef, undef, undef, undef, undef], defers := [] }) ?assign ?body ?done ?stop
  case assign =>
    intro l x W K hK
    gi_wp2
    exact hK
  case body =>
    rintro l pre x W ⟨⟨v, hv, hrow, _⟩, hB⟩ hlt
    have hc := hv.cell
    gi_wp2_with (gi_at_builtin; refine wpListIn_append_own _ rfl _ _ 35 rfl w.heap.size 3 i0 (.int .i64 0) 1 8 Try.underlying35 hi hz0 hz1 hz2 rfl (by decide) _ _ _ rfl (hrow.alloc _) ⟨W.heap.size, 0, none⟩ 1 1 [.int .i64 x] rfl rfl (cell_one_new _ _ _) (by simp [Value.oneCell']) (by omega) (by omega) (by have := hB.size; simp; omega) ?_; intro v' w1 hown' hgrow _; obtain ⟨g', cap', rfl⟩ := ownsRow_succ hown'; obtain ⟨hv1, hv2, hr2, hk2, hb2⟩ := hv.appended (by decide) hrow hB.size (Nat.le_refl _) hown' hgrow; have hc1 := hv1.cell; have hf1 := hv1.frozen)
    exact ⟨hk2, hb2, ⟨_, hv2, by simpa using hr2, trivial⟩, hB.trans hb2⟩
  case done =>
    rintro D ys W hD rfl ⟨⟨v, hv, hrow, _⟩, hB⟩ hK
    have hc := hv.cell
    gi_wp2
    refine ⟨by simp, .inl ⟨_, _, rfl, run_takeDeferred hK, ?_⟩⟩
    exact ⟨_, results_tmp rfl _ _ _, v, rfl, ownsRow_putObj hrow _ hK rfl, hB.trans (belowK_b (w := w) (Nat.le_refl _) W D _ _ (by simp at hD; omega) hK rfl rfl)⟩
  case stop =>
    rintro D c pre W _ _ h _
    exact h.elim

/-- slices.AppendSeq at a nil slice and the iterator over a list. -/
theorem appendSeq_call (l : List Int) (hl : l.length ≤ 1048576) :
    ACall Try.prog 83 [.nilS, .func 77 [.ptr ⟨1, 0, 0, 1, 0⟩]] [.arr true .int l, .arr false (.raw 1) [[.slice ⟨0, 0, 0, 1, 0⟩ l.length]]] (Is (.slice ⟨2, 0, 0, 1, 0⟩ l.length) [.arr true .int l, .arr false (.raw 1) [[.slice ⟨0, 0, 0, 1, 0⟩ l.length]], .arr false .int l]) :=
  ACall.ofNew (t := 3) ⟨_, Try.func83, rfl, by kernel_rfl⟩ rfl rfl fun ρ w vals hs hsz hr => by
    have h0 := hr 0 .nilS (vals[0]'(by rw [hsz]; decide)) rfl (Array.getElem?_eq_getElem _)
    have h1 := hr 1 (.func 77 [.ptr ⟨1, 0, 0, 1, 0⟩]) (vals[1]'(by rw [hsz]; decide)) rfl (Array.getElem?_eq_getElem _)
    have hvals : vals = #[vals[0]'(by rw [hsz]; decide), vals[1]'(by rw [hsz]; decide)] := by
      apply Array.ext
      · simpa using hsz
      · intro i hi1 hi2
        have : i < 2 := hi2
        rcases Nat.lt_or_ge i 1 with h | h
        · obtain rfl : i = 0 := by omega
          rfl
        · obtain rfl : i = 1 := by omega
          rfl
    generalize vals[0]'(by rw [hsz]; decide) = v0 at h0 hvals
    generalize vals[1]'(by rw [hsz]; decide) = v1 at h1 hvals
    subst hvals
    cases h0
    cases h1 with
    | func _ _ ws hwl hw =>
    have hws : ws.size = 1 := hwl.symm
    have h2 := hw 0 (.ptr ⟨1, 0, 0, 1, 0⟩) (ws[0]'(by omega)) rfl (Array.getElem?_eq_getElem _)
    have hws2 : ws = #[ws[0]'(by omega)] := by
      apply Array.ext
      · simpa using hws
      · intro i hi1 hi2
        have : i < 1 := hi2
        obtain rfl : i = 0 := by omega
        rfl
    generalize ws[0]'(by omega) = u at h2 hws2
    subst hws2
    cases h2
    have hat : (⟨1, 0, 0, 1, 0⟩ : AAddr).at ρ = ⟨(ρ 1 0).block, (ρ 1 0).off, none⟩ := by simp [AAddr.at, AAddr.cell, Place.addr]
    rw [hat]
    have hR1 := hs.row 1 (.arr false (.raw 1) [[.slice ⟨0, 0, 0, 1, 0⟩ l.length]]) 0 [.slice ⟨0, 0, 0, 1, 0⟩ l.length] rfl rfl
    obtain ⟨sv, hsv, hrv, _⟩ := hR1.cell 0 _ rfl
    have hsv' : w.cell? ⟨(ρ 1 0).block, (ρ 1 0).off, none⟩ = some sv := hsv
    have hR := hs.row 0 (.arr true .int l) 0 (ints .i64 l) rfl (by simp only [AObj.row, if_true]; rw [flat_ints2])
    have hI : IntsAt w.heap.size w sv l := by
      cases hrv with
      | slice _ _ p cap _ hlc hc =>
      by_cases hn : l = []
      · subst hn
        exact .inl ⟨p, cap, rfl, rfl⟩
      · have hpos : 0 < l.length := List.length_pos_iff.2 hn
        obtain ⟨hp, hcr⟩ := hc.resolve_left (by omega)
        have hat0 : (⟨0, 0, 0, 1, 0⟩ : AAddr).at ρ = ⟨(ρ 0 0).block, (ρ 0 0).off, none⟩ := by simp [AAddr.at, AAddr.cell, Place.addr]
        rw [hat0] at hp
        subst hp
        refine .inr ⟨_, _, cap, rfl, ?_, fun j hj => ?_⟩
        · have hf := hR.fits
          simp only [ints, List.length_map] at hf
          exact hR.there (by omega)
        · obtain ⟨v, hv, hrv2, _⟩ := hR.cell j (.int .i64 (l[j]?.getD 0)) (by simp [ints, List.getElem?_map, List.getElem?_eq_getElem hj])
          cases hrv2
          exact hv
    have hblk : (ρ 1 0).block < w.heap.size := World.block_lt_of_cell? w _ hsv'
    have := appendSeq_in Fence.wide 3 trivial trivial rfl (Nat.le_refl _) (ρ 1 0).block (ρ 1 0).off sv l (by have : maxLen = maxLen := rfl; unfold maxLen; omega) (by omega) w hblk hsv' hI
    exact callsIn_wide.1 this
end YtockeinpdioahaaAM
