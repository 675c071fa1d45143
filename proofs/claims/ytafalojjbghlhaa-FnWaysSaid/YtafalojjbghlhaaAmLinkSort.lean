/- slices.Sort, slices.Compact and slices.Grow of numbers, as contracts of this framework. -/
import Derived.Shelf.Sort.Plain
import Derived.Shelf.Slices.CompactI
import Derived.Shelf.Spec.SlicesGrow
import Derived.Test.YtafalojjbghlhaaAmLinkLays
import Derived.Test.YtafalojjbghlhaaAmSortLinks
import Derived.Test.YtafalojjbghlhaaAmNewRow
import Derived.Test.YtafalojjbghlhaaAmLinkApart
set_option linter.unusedVariables false
set_option linter.unusedSimpArgs false
namespace YtafalojjbghlhaaAM
open Go Go.Proofs Go.Shelf Go.RowKit Go.Lib Go.Sort

theorem insA_perm (x : Int) (s : List Int) : (ins x s).Perm (x :: s) := by
  unfold ins
  refine List.perm_middle.trans (List.Perm.cons x ?_)
  have h : s.filter (fun y => decide (x < y)) = s.filter (fun y => !decide (y ≤ x)) := List.filter_congr fun y _ => by
    by_cases c : y ≤ x
    · simp [c]
    · simp [c]; omega
  rw [h]
  exact List.filter_append_perm _ _
theorem sortA_perm (l : List Int) : ∀ k, k ≤ l.length → (sortN l k).Perm (l.take k)
  | 0, _ => by rw [sortN_zero]; simp
  | k + 1, h => by
    rw [sortN_succ (by omega), List.take_succ_eq_append_getElem (by omega)]
    refine (insA_perm _ _).trans ?_
    rw [getD_get (by omega)]
    exact ((sortA_perm l k (by omega)).cons _).trans (List.perm_append_singleton _ _).symm
/-- In order. -/
def srtL (l : List Int) : List Int := if l.length ≤ 12 then sortI l else l.mergeSort fun x y => decide (x ≤ y)
theorem srtL_perm (l : List Int) : (srtL l).Perm l := by
  unfold srtL
  split
  · have := sortA_perm l l.length (Nat.le_refl _)
    rwa [List.take_of_length_le (Nat.le_refl _)] at this
  · exact List.mergeSort_perm _ _
theorem srtL_up (l : List Int) : (srtL l).Pairwise (· ≤ ·) := by
  unfold srtL
  split
  · exact sortI_up l
  · exact mergeSort_ok l
theorem srtL_len (l : List Int) : (srtL l).length = l.length := (srtL_perm l).length_eq
theorem srtL_compact (l : List Int) : decide (((Lib.compact (srtL l)).length : Int) = l.length) = decide l.Nodup := by
  rw [decide_eq_decide]
  have h := compact_nodup (srtL_up l)
  rw [srtL_len] at h
  constructor
  · intro e
    exact (srtL_perm l).nodup_iff.1 (h.1 (by omega))
  · intro e
    have := h.2 ((srtL_perm l).nodup_iff.2 e)
    omega
theorem bigSort_call (l : List Int) (n : Nat) (hl : n ≤ 1048576) (hn : n = l.length) : ACall Try.prog 66 [.slice ⟨0, 0, 0, 1, 0⟩ n] [.arr false .int l] (Is (.tuple []) [.arr false .int (srtL l)]) := by
  subst hn
  unfold srtL
  by_cases h : l.length ≤ 12
  · rw [if_pos h]; exact sort_call l _ h rfl
  · rw [if_neg h]
    exact ACall.ofPut (P := Try.prog) (f := 66) (l := l) (l' := l.mergeSort fun x y => decide (x ≤ y)) (xs := []) (m := none) ⟨_, Try.func66, rfl, by kernel_rfl⟩ (by simp) (fun k hk => by cases hk)
      (fun hne blk off cap w hH hb hc => by
        have := Any.slices_Sort_int layS_ok blk off cap l w hH hb (by omega)
        refine this.mono ?_
        rintro e w' ⟨rfl, q, os, rfl⟩
        exact ⟨rfl, q, os, rfl⟩)
      (fun h0 => by subst h0; simp at h)
theorem compact_le (l : List Int) : (Lib.compact l).length ≤ l.length := by
  have e : (Lib.compact l).length = ((List.range l.length).filter (Lib.keeps l.toArray)).length := by simp [Lib.compact, Lib.compactUpTo]
  rw [e]
  have := List.length_filter_le (Lib.keeps l.toArray) (List.range l.length)
  rwa [List.length_range] at this
/-- Only how long what is left is, is told. -/
theorem compact_call (l : List Int) (n : Nat) (hl : n ≤ 1048576) (hn : n = l.length) :
    ACall Try.prog 67 [.slice ⟨0, 0, 0, 1, 0⟩ n] [.arr false .int l] (Is (.slice ⟨0, 0, 0, 1, 0⟩ (Lib.compact l).length) [.arr false .int (Lib.compact l)]) := by
  subst hn
  have hle := compact_le l
  have h := (ACall.ofPut (P := Try.prog) (f := 67) (l := l) (l' := Lib.compact l ++ List.replicate (l.length - (Lib.compact l).length) 0) (xs := []) (m := some (Lib.compact l).length) ⟨_, Try.func67, rfl, by kernel_rfl⟩ (by simp; omega) (fun k hk => by cases hk; exact hle)
    (fun hne blk off cap w hH hb hc => by
      have := Any.slices_Compact_int layC_ok blk off cap l w hH (by omega) hc
      refine this.mono ?_
      rintro e w' ⟨rfl, q, rfl⟩
      refine ⟨rfl, q, #[], ?_⟩
      simp [grow]; rfl)
    (fun h0 p cap w => by
      subst h0
      have := Any.slices_Compact_int_empty layC_ok p cap w
      refine this.mono ?_
      rintro e w' ⟨rfl, rfl⟩
      exact ⟨rfl, rfl⟩)).cut0 (Lib.compact l).length
  have e1 : (Lib.compact l ++ List.replicate (l.length - (Lib.compact l).length) 0).take (Lib.compact l).length = Lib.compact l := by
    rw [List.take_append_of_le_length (Nat.le_refl _), List.take_length]
  rw [e1] at h
  exact h
theorem allocS_new (w : World) (o : Obj) : (w.alloc o).heap[w.heap.size]? = some o := by show (w.heap.push o)[w.heap.size]? = some o; simp
theorem Try.infoG : (Try.prog.info? 3).map (fun i => (i.zero, i.size, i.bytes)) = some (some (.int .i64 0), 1, 8) := by kernel_rfl
/-- Room made for a new list. -/
theorem grow_call (n : Nat) (hn : n ≤ 1048576) : ACall Try.prog 86 [.nilS, .int .i64 n] [] (Is (.slice ⟨0, 0, 0, 1, 0⟩ 0) [.arr false .int []]) :=
  ACall.ofNew (P := Try.prog) (f := 86) (args := [.nilS, .int .i64 n]) (H := []) (H' := [.arr false .int []]) (l := []) (t := 3) (N := 0) ⟨_, Try.func86, rfl, by kernel_rfl⟩ rfl rfl fun ρ w vals hs hsz hr => by
    have hsz2 : vals.size = 2 := hsz
    have h0 := hr 0 .nilS vals[0] rfl (Array.getElem?_eq_getElem (by omega))
    have h1 := hr 1 (.int .i64 n) vals[1] rfl (Array.getElem?_eq_getElem (by omega))
    have hv : vals = #[.slice none 0 0, .int .i64 n] := by
      apply Array.ext_getElem?
      intro k
      rcases k with _ | _ | k
      · rw [Array.getElem?_eq_getElem (by omega)]
        generalize vals[0] = u at h0
        cases h0
        rfl
      · rw [Array.getElem?_eq_getElem (by omega)]
        generalize vals[1] = u at h1
        cases h1
        rfl
      · rw [Array.getElem?_eq_none (by omega), Array.getElem?_eq_none (by simp)]
    subst hv
    obtain ⟨i0, hi0, hz0, hs0, hb0⟩ := info_parts Try.infoG
    rcases Nat.eq_zero_or_pos n with c | c
    · subst c
      have := Any8.slices_Grow_room layG_ok none 0 0 0 w (Nat.le_refl _) (by omega) (by omega) (by omega)
      refine this.mono ?_
      rintro e w' ⟨rfl, rfl⟩
      exact ⟨_, rfl, ⟨rfl, .inl ⟨rfl, rfl⟩⟩, Below.refl _ _⟩
    · have := Any8.slices_Grow_grow layG_ok i0 (.int .i64 0) hi0 hz0 (by omega) none 0 0 n [] w (Nat.le_refl _) (by omega) (by rw [hb0]; omega) (by omega) (by simp) (fun _ => rfl) (fun a h => by cases h)
      refine this.mono ?_
      rintro e w' ⟨rfl, rfl⟩
      have hge := grownCap_ge w (0 + n) 0 (layG.t 25)
      have hle := grownCap_le_maxLen w (0 + n) 0 (layG.t 25) (by unfold maxLen; omega)
      have hnew := allocS_new w.drew (.cells (([] : List Value).toArray ++ Builtin.zeroCells (Value.int .i64 0).cells (0 + n - 0) ++ Builtin.zeroCells (Value.int .i64 0).cells (grownCap w (0 + n) 0 (layG.t 25) - (0 + n))) (layG.t 25))
      refine ⟨_, rfl, ⟨rfl, .inr ⟨w.heap.size, _, _, rfl, Nat.le_refl _, hnew, Nat.zero_le _, hle, ?_, by simp⟩⟩, ((Below.refl _ _).drew).alloc (Nat.le_refl _) _⟩
      rw [Nat.zero_add] at *
      simp [Builtin.zeroCells, Value.cells]
      omega
end YtafalojjbghlhaaAM
