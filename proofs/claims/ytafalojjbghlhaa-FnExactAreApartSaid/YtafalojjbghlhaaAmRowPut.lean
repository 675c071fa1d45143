/- Contracts of the library that write over one list of numbers, as contracts of this framework. -/
import Derived.Test.YtafalojjbghlhaaAmRowClr
import Derived.Sort.Grow
set_option linter.unusedVariables false
set_option linter.unusedSimpArgs false
namespace YtafalojjbghlhaaAM
open Go Go.Sort
variable {P : Program}

def putV (m : Option Nat) (a : Option Addr) (cap : Nat) : Value := match m with | none => .tuple #[] | some m => .slice a m cap
def putR (m : Option Nat) : AV := match m with | none => .tuple [] | some m => .slice ⟨0, 0, 0, 1, 0⟩ m

theorem ACall.ofPut {f : FuncId} {l l' xs : List Int} {m : Option Nat} (ht : IsText P f) (hlen : l'.length = l.length) (hm : ∀ k, m = some k → k ≤ l.length)
    (h0 : l ≠ [] → ∀ (blk off cap : Nat) (w : World), Holds (Value.int .i64) w blk off l.toArray → blk < w.heap.size → l.length ≤ cap →
      Calls P f (#[.slice (some ⟨blk, off, none⟩) l.length cap] ++ (xs.map (Value.int .i64)).toArray) w fun e w' => e = .returned (putV m (some ⟨blk, off, none⟩) cap) ∧ ∃ q os, w' = grow (putRow (Value.int .i64) (Sort.ahead w q) blk off l'.toArray) os)
    (h1 : l = [] → ∀ (p : Option Addr) (cap : Nat) (w : World), Calls P f (#[.slice p 0 cap] ++ (xs.map (Value.int .i64)).toArray) w fun e w' => e = .returned (putV m p cap) ∧ w' = w) :
    ACall P f (.slice ⟨0, 0, 0, 1, 0⟩ l.length :: xs.map (.int .i64)) [.arr false .int l] (Is (putR m) [.arr false .int l']) where
  text := ht
  nv := Is.nv _ _
  run ρ w vals hs hsz hr := by
    have hR := hs.row 0 (.arr false .int l) 0 (ints .i64 l) rfl (by simp only [AObj.row, if_true]; rw [flat_ints2])
    have hfits := hR.fits
    simp only [ints, List.length_map] at hfits
    have hv0 : 0 < vals.size := by rw [hsz]; simp
    have hrel0 := hr 0 _ (vals[0]) rfl (Array.getElem?_eq_getElem hv0)
    have hxs : ∀ k, k < xs.length → vals[k + 1]? = some (.int .i64 (xs.getD k 0)) := fun k hk => by
      have hlt : k + 1 < vals.size := by rw [hsz]; simp; omega
      have := hr (k + 1) (.int .i64 (xs.getD k 0)) (vals[k + 1]) (by rw [List.getElem?_cons_succ, List.getElem?_map, List.getElem?_eq_getElem hk, getD_get hk]; rfl) (Array.getElem?_eq_getElem hlt)
      rw [Array.getElem?_eq_getElem hlt]
      generalize vals[k + 1] = u at this
      cases this
      rfl
    have hvals : vals = #[vals[0]] ++ (xs.map (Value.int .i64)).toArray := by
      apply Array.ext_getElem?
      intro k
      cases k with
      | zero => rw [Array.getElem?_eq_getElem hv0]; simp
      | succ k =>
        rcases Nat.lt_or_ge k xs.length with hk | hk
        · rw [hxs k hk, Array.getElem?_append_right (by simp)]
          simp [List.getElem?_map, List.getElem?_eq_getElem hk]
        · rw [Array.getElem?_eq_none (by rw [hsz]; simp; omega), Array.getElem?_eq_none (by simp; omega)]
    generalize vals[0] = v0 at hrel0 hvals
    subst hvals
    have hrelm : ∀ (p : Option Addr) (cap : Nat), l.length ≤ cap → (cap = 0 ∨ (p = some ((⟨0, 0, 0, 1, 0⟩ : AAddr).at ρ) ∧ (⟨0, 0, 0, 1, 0⟩ : AAddr).cell + cap * 1 ≤ (ρ 0 0).room)) → VRel ρ 1 (putR m) (putV m p cap) := fun p cap hlc hc => by
      cases m with
      | none => exact .tuple [] #[] rfl fun i a v h => by simp at h
      | some k => exact .slice _ k p cap (by simp) (by have := hm k rfl; omega) hc
    cases hrel0 with
    | slice _ _ p cap _ hlc hc =>
    by_cases hl : l = []
    · subst hl
      obtain rfl : l' = [] := List.eq_nil_of_length_eq_zero hlen
      refine (h1 rfl p cap w).mono ?_
      rintro e w' ⟨rfl, rfl⟩
      exact ⟨_, _, _, ρ, rfl, ⟨rfl, rfl⟩, hrelm p cap hlc hc, hs, Frame.refl _ _, .refl _ _, Nat.le_refl _, fun id o q h1 h2 h3 h4 => .inl ⟨id, o, q, h1, h2, h3, h4, rfl⟩, fun id o h1 h2 => by rw [List.getElem?_eq_none h1] at h2; cases h2⟩
    · have hpos : 0 < l.length := List.length_pos_iff.2 hl
      have hroom : 0 < (ρ 0 0).room := by omega
      obtain ⟨hp, hcr⟩ := hc.resolve_left (by omega)
      have hat : (⟨0, 0, 0, 1, 0⟩ : AAddr).at ρ = ⟨(ρ 0 0).block, (ρ 0 0).off, none⟩ := by simp [AAddr.at, AAddr.cell, Place.addr]
      rw [hat] at hp
      subst hp
      have hblk := hR.there hroom
      have hown := hR.own rfl
      have hH : Holds (Value.int .i64) w (ρ 0 0).block (ρ 0 0).off l.toArray := fun j hj => by
        have hj' : j < l.length := by simpa using hj
        obtain ⟨v, hv, hrv, _⟩ := hR.cell j (.int .i64 l[j]) (by simp [ints, hj'])
        cases hrv
        refine ⟨?_, (hown j (by omega)).2⟩
        rw [show (⟨(ρ 0 0).block, (ρ 0 0).off + j, none⟩ : Addr) = (ρ 0 0).addr j from rfl, hv, getElem!_pos l.toArray j hj]
        simp
      refine (h0 hl _ _ cap w hH hblk hlc).mono ?_
      rintro e w' ⟨rfl, q, os, rfl⟩
      -- the new world
      have hcellT : ∀ k, k < l'.length → (grow (putRow (Value.int .i64) (Sort.ahead w q) (ρ 0 0).block (ρ 0 0).off l'.toArray) os).cell? ((ρ 0 0).addr k) = some (.int .i64 (l'.getD k 0)) := fun k hk => by
        rw [cell?_grow _ _ _ (by show (ρ 0 0).block < _; simpa using hblk)]
        have := cell?_putRow (Value.int .i64) (Sort.ahead w q) (ρ 0 0).block (ρ 0 0).off l.toArray l'.toArray (holds_ahead _ _ _ _ _ _ hH) (by simpa using hlen) k (by simpa using hk)
        rw [show (ρ 0 0).addr k = ⟨(ρ 0 0).block, (ρ 0 0).off + k, none⟩ from rfl, this, getElem!_pos l'.toArray k (by simpa using hk), getD_get hk]
        simp
      have hcellO : ∀ a : Addr, a.block < w.heap.size → (a.block ≠ (ρ 0 0).block ∨ (ρ 0 0).off + l'.length ≤ a.off) → (grow (putRow (Value.int .i64) (Sort.ahead w q) (ρ 0 0).block (ρ 0 0).off l'.toArray) os).cell? a = w.cell? a := fun a ha hne => by
        rw [cell?_grow _ _ _ (by simpa using ha), cell?_putRow_other _ _ _ _ _ _ (by rcases hne with h | h; exact .inl h; exact .inr (.inr (by simpa using h)))]
        rfl
      have hfz : ∀ a : Addr, a.block < w.heap.size → (grow (putRow (Value.int .i64) (Sort.ahead w q) (ρ 0 0).block (ρ 0 0).off l'.toArray) os).frozen? a = w.frozen? a := fun a ha => by
        rw [frozen?_grow _ _ _ (by simpa using ha), frozen?_putRow]; rfl
      refine ⟨_, _, _, ρ, rfl, ⟨rfl, rfl⟩, hrelm _ cap hlc (.inr ⟨by rw [hat], hcr⟩), ⟨fun id o h => ?_, fun id o r cs h hr => ?_, fun id o r id' o' r' h h' hr hr' hro hne h0 h0' => ?_⟩, ⟨rfl, rfl, rfl, by simp, fun b hb hB => ?_⟩, .refl _ _, Nat.le_refl _, fun id o r h1 h2 h3 h4 => ?_, fun id o h1 h2 => by
        rw [List.getElem?_eq_none (show [AObj.arr false .int l'].length ≤ id from h1)] at h2; cases h2⟩
      · cases id with
        | zero => cases h; intro y hy; rfl
        | succ id => simp at h
      · cases id with
        | succ id => simp at h
        | zero =>
          cases h
          have e : r = 0 ∧ cs = ints .i64 l' := by
            simp only [AObj.row] at hr
            split at hr
            · rename_i e
              rw [flat_ints2] at hr
              exact ⟨e, (Option.some.inj hr).symm⟩
            · cases hr
          obtain ⟨rfl, rfl⟩ := e
          refine ⟨by simp only [ints, List.length_map]; omega, fun _ => by simp; omega, fun _ k hk => ?_, fun k c hk => ?_⟩
          · rw [hfz _ hblk]
            refine ⟨?_, (hown k hk).2⟩
            rcases Nat.lt_or_ge k l'.length with c | c
            · rw [hcellT k c]; rfl
            · rw [hcellO _ hblk (.inr (by show _ ≤ (ρ 0 0).off + k; omega))]; exact (hown k hk).1
          · simp only [ints, List.getElem?_map] at hk
            obtain ⟨y, hy, rfl⟩ := Option.map_eq_some_iff.1 hk
            obtain ⟨hk2, rfl⟩ := List.getElem?_eq_some_iff.1 hy
            exact ⟨_, hcellT k hk2, by rw [getD_get hk2]; exact .int _ _, rfl⟩
      · have e1 : id = 0 := by
          cases id with
          | zero => rfl
          | succ id => simp at h
        have e2 : id' = 0 := by
          cases id' with
          | zero => rfl
          | succ id' => simp at h'
        subst e1 e2
        cases h
        cases h'
        have f1 : r = 0 := by
          simp only [AObj.row] at hr
          split at hr
          · assumption
          · cases hr
        have f2 : r' = 0 := by
          simp only [AObj.row] at hr'
          split at hr'
          · assumption
          · cases hr'
        subst f1 f2
        exact absurd rfl hne
      · have hne : b ≠ (ρ 0 0).block := fun e => hB ⟨0, _, 0, rfl, rfl, rfl, hroom, e.symm⟩
        rw [heap_grow_old _ _ (by simpa using hb)]
        simp [putRow, mapBlock, Sort.ahead, Array.getElem?_modify, Ne.symm hne]
      · cases id with
        | succ id => simp at h1
        | zero =>
          cases h1
          have f1 : r = 0 := by
            simp only [AObj.row] at h3
            split at h3
            · assumption
            · cases h3
          subst f1
          exact .inl ⟨0, _, 0, rfl, rfl, rfl, hroom, rfl⟩
/-- Less of the list that is left. -/
theorem ACall.cut0 {f : FuncId} {args : List AV} {l l' : List Int} {r : AV} (h : ACall P f args [.arr false .int l] (Is r [.arr false .int l'])) (k : Nat) : ACall P f args [.arr false .int l] (Is r [.arr false .int (l'.take k)]) where
  text := h.text
  nv := Is.nv _ _
  run ρ w vals h1 h2 h3 := (h.run ρ w vals h1 h2 h3).mono fun e w' ⟨v, r', H', ρ', he, ⟨hk1, hk2⟩, hv, hs, hf, hag, hle, hwr, hnew⟩ => by
    subst hk1 hk2
    refine ⟨v, _, _, ρ', he, ⟨rfl, rfl⟩, hv, hs.cut (id := 0) rfl k, hf, hag, hle, fun id o q h1 h2 h3 h4 => ?_, fun id o h1 h2 => by
      rw [List.getElem?_eq_none (by simpa using h1)] at h2; cases h2⟩
    cases id with
    | succ id => simp at h1
    | zero =>
      cases h1
      refine hwr 0 _ q rfl rfl ?_ h4
      simp only [AObj.row] at h3 ⊢
      split at h3
      · rename_i e; rw [if_pos e]; rfl
      · cases h3
end YtafalojjbghlhaaAM
