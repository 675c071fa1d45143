/- Rows of numbers that come in, by themselves or in a struct. -/
import Derived.Test.YtafalojjbghlhaaAmRow
set_option linter.unusedVariables false
set_option linter.unusedSimpArgs false
namespace YtafalojjbghlhaaAM
open Go Go.ChangeShapes Go.WideShapes Go.ChangeAt Go.RowKit Go.Deep
variable {P : Program}

theorem flat_ints' (l : List Int) : l.flatMap Ty.int.enc = ints .i64 l := by
  induction l with
  | nil => rfl
  | cons a r ih => rw [List.flatMap_cons, ih]; rfl

theorem hdrs_length' (id : Nat) : ∀ (k : Nat) (l : List (List Int)), (hdrs id k l).length = l.length
  | _, [] => rfl
  | k, r :: rs => by simp [hdrs, hdrs_length' id (k + 1) rs]
theorem hdrs_get' (id : Nat) : ∀ (l : List (List Int)) (k q : Nat), (hdrs id k l)[q]? = (l[q]?).map fun r => .slice ⟨id, k + q + 1, 0, 1, 0⟩ r.length
  | [], k, q => by simp [hdrs]
  | r :: rs, k, 0 => by simp [hdrs]
  | r :: rs, k, q + 1 => by
    simp only [hdrs, List.getElem?_cons_succ, hdrs_get' id rs (k + 1) q]
    congr 1; funext r; congr 2; omega

/-- Rows that came in. -/
structure RowsIn (w : World) (v : Value) (ll : List (List Int)) (f : Nat → Place) : Prop where
  val : ∃ p cap, v = .slice p ll.length cap ∧ ll.length ≤ cap ∧ (cap = 0 ∨ (p = some ((f 0).addr 0) ∧ cap ≤ (f 0).room))
  room : ll.length ≤ (f 0).room
  there : 0 < (f 0).room → (f 0).block < w.heap.size
  head : ∀ k, k < ll.length → ∃ u, w.cell? ((f 0).addr k) = some u ∧ u.oneCell' = true ∧ SlIn w u .int (ll.getD k []) (f (k + 1))

theorem RowsIn.inO {w : World} {v : Value} {ll : List (List Int)} {f : Nat → Place} (h : RowsIn w v ll f) : InO w (.rows true ll) f where
  wf := trivial
  ro := rfl
  row ρ N id r cs hid hρ hr := by
    cases r with
    | zero =>
      have e : cs = hdrs id 0 ll := by
        simp only [AObj.row, if_true] at hr
        exact (Option.some.inj hr).symm
      subst e
      refine ⟨by rw [hdrs_length']; exact h.room, h.there, (fun h => by cases h), fun k c hk => ?_⟩
      rw [hdrs_get'] at hk
      obtain ⟨r, hr1, rfl⟩ := Option.map_eq_some_iff.1 hk
      have hkl := (List.getElem?_eq_some_iff.1 hr1).1
      obtain ⟨u, hu, h1, hs⟩ := h.head k hkl
      refine ⟨u, hu, ?_, h1⟩
      have e2 : ll.getD k [] = r := by rw [getD_get hkl]; exact (List.getElem?_eq_some_iff.1 hr1).2
      rw [e2] at hs
      obtain ⟨p, cap, rfl, hl, hc⟩ := hs.val
      refine .slice _ _ p cap hid hl ?_
      rcases hc with hc | ⟨hp, hr2⟩
      · exact .inl hc
      · refine .inr ⟨?_, ?_⟩
        · rw [hp]; simp [AAddr.at, AAddr.cell, hρ]
        · simp only [AAddr.cell, hρ]
          have hr3 : cap * 1 ≤ (f (k + 1)).room := hr2
          simp only [Nat.zero_add]
          omega
    | succ q =>
      rw [rows_row] at hr
      obtain ⟨l, hl, rfl⟩ := Option.map_eq_some_iff.1 hr
      have hkl := (List.getElem?_eq_some_iff.1 hl).1
      obtain ⟨u, hu, h1, hs⟩ := h.head q hkl
      have e2 : ll.getD q [] = l := by rw [getD_get hkl]; exact (List.getElem?_eq_some_iff.1 hl).2
      rw [e2] at hs
      have := hs.row ρ N
      rwa [flat_ints'] at this

theorem RowsIn.rel {w : World} {v : Value} {ll : List (List Int)} {f : Nat → Place} (h : RowsIn w v ll f) {ρ : Ren} {N id : Nat} (hid : id < N) (hρ : ρ id 0 = f 0) : VRel ρ N (.slice ⟨id, 0, 0, 1, 0⟩ ll.length) v := by
  obtain ⟨p, cap, rfl, hl, hc⟩ := h.val
  refine .slice _ _ p cap hid hl ?_
  rcases hc with hc | ⟨hp, hr⟩
  · exact .inl hc
  · refine .inr ⟨?_, ?_⟩
    · rw [hp]; simp [AAddr.at, AAddr.cell, hρ]
    · simp only [AAddr.cell, hρ]; omega

section
variable {H : Type} {enc : TypeId × Value → H} {W : World}

theorem open_ints_cell {e i : TypeId} {v : Value} {fuel : Nat} {x : DataW H × List MemPlace} (he : P.underlying e = some (.slice i)) (hi : P.underlying i = some (.int .i64)) (hc : P.cellsOf i = 1)
    (h : DataW.trod enc P W 0 (fun _ => true) true fuel e [v] = some x) : ∃ (l : List Int) (pl : Place), SlIn W v .int l pl ∧ l.length ≤ 9223372036854775807 ∧ v.oneCell' = true := by
  have hv : ∃ a len cap, v = .slice a len cap := by
    rcases open_slice he h with ⟨hcs, _⟩ | ⟨a, len, cap, m, n, D, Pl, hcs, _⟩
    · cases hcs; exact ⟨_, _, _, rfl⟩
    · cases hcs; exact ⟨_, _, _, rfl⟩
  obtain ⟨a, len, cap, rfl⟩ := hv
  obtain ⟨l, pl, h1, h2, _⟩ := open_int_slice (enc := enc) (W := W) (d := x.1) (p := x.2) he hi hc ⟨_, _, _, rfl⟩ ⟨fuel, h⟩
  exact ⟨l, pl, h1, h2, rfl⟩

theorem open_rows {t e i : TypeId} {cs : List Value} {fuel : Nat} {x : DataW H × List MemPlace} (ht : P.underlying t = some (.slice e)) (he : P.underlying e = some (.slice i)) (hi : P.underlying i = some (.int .i64)) (hce : P.cellsOf e = 1) (hci : P.cellsOf i = 1)
    (h : DataW.trod enc P W 0 (fun _ => true) true fuel t cs = some x) :
    ∃ (v : Value) (ll : List (List Int)) (f : Nat → Place), cs = [v] ∧ RowsIn W v ll f ∧ ll.length ≤ 9223372036854775807 ∧ ∀ l ∈ ll, l.length ≤ 9223372036854775807 := by
  rcases open_slice1 ht hce h with ⟨rfl, _⟩ | ⟨a, len, cap, m, n, V, D, Pl, rfl, _, hl, hm, hmm, _, hx⟩
  · refine ⟨_, [], fun _ => ⟨0, 0, 0⟩, rfl, ⟨⟨none, 0, rfl, Nat.le_refl _, .inl rfl⟩, Nat.le_refl _, fun h => absurd h (by simp), fun k hk => by simp at hk⟩, by simp, by simp⟩
  · simp only [if_true] at hmm
    subst hmm
    have each : ∀ k, k < m → ∃ q : List Int × Place, SlIn W (V k) .int q.1 q.2 ∧ q.1.length ≤ 9223372036854775807 ∧ (V k).oneCell' = true := fun k hk => by
      obtain ⟨l, pl, h1, h2, h3⟩ := open_ints_cell he hi hci (hx k hk).2
      exact ⟨(l, pl), h1, h2, h3⟩
    haveI : Inhabited (List Int × Place) := ⟨([], ⟨0, 0, 0⟩)⟩
    obtain ⟨G, hG⟩ := choose_lt each
    have hgd : ∀ k, k < len → ((List.range len).map fun k => (G k).1).getD k [] = (G k).1 := fun k hk => by
      simp [List.getD_eq_getElem?_getD, List.getElem?_map, List.getElem?_range hk]
    rcases Nat.eq_zero_or_pos m with h0 | h0
    · have hlen0 : len = 0 := by omega
      subst hlen0
      refine ⟨_, [], fun _ => ⟨0, 0, 0⟩, rfl, ⟨⟨some a, m, rfl, by simp, .inl h0⟩, Nat.le_refl _, fun h => absurd h (by simp), fun k hk => by simp at hk⟩, by simp, by simp⟩
    · have hs : a.spot = none := by
        have := (hx 0 h0).1
        have ha : a.add 0 = a := by unfold Addr.add; simp
        rw [ha] at this
        rw [spot_of_cell this]
      have hadd : ∀ k, (⟨a.block, a.off, m⟩ : Place).addr k = a.add k := fun k => (add_of_spot hs k).symm
      refine ⟨_, (List.range len).map fun k => (G k).1, fun r => match r with | 0 => ⟨a.block, a.off, m⟩ | k + 1 => (G k).2, rfl, ⟨⟨some a, m, by simp, by simpa using hl, .inr ⟨?_, Nat.le_refl _⟩⟩, by simpa using hl, fun _ => ?_, fun k hk => ?_⟩, ?_, fun l hl2 => ?_⟩
      · show some a = some ((⟨a.block, a.off, m⟩ : Place).addr 0)
        rw [hadd]; unfold Addr.add; simp
      · have := (hx 0 h0).1
        have ha : a.add 0 = a := by unfold Addr.add; simp
        rw [ha] at this
        exact World.block_lt_of_cell? W a this
      · have hk2 : k < len := by simpa using hk
        refine ⟨V k, ?_, (hG k (by omega)).2.2, ?_⟩
        · show W.cell? ((⟨a.block, a.off, m⟩ : Place).addr k) = some (V k)
          rw [hadd]; exact (hx k (by omega)).1
        · rw [hgd k hk2]; exact (hG k (by omega)).1
      · simp; exact lt_maxLen hl hm
      · obtain ⟨k, hk, rfl⟩ := List.mem_map.1 hl2
        exact (hG k (by have := List.mem_range.1 hk; omega)).2.1

/-- A [][]int that came in. -/
theorem open_rows_value {t e i : TypeId} {v : Value} {d : DataW H} {p : List MemPlace} (ht : P.underlying t = some (.slice e)) (he : P.underlying e = some (.slice i)) (hi : P.underlying i = some (.int .i64)) (hce : P.cellsOf e = 1) (hci : P.cellsOf i = 1)
    (hv : ∃ a len cap, v = .slice a len cap) (h : DataW.Trod enc P W 0 (fun _ => true) true t v d p) :
    ∃ (ll : List (List Int)) (f : Nat → Place), RowsIn W v ll f ∧ ll.length ≤ 9223372036854775807 ∧ ∀ l ∈ ll, l.length ≤ 9223372036854775807 := by
  obtain ⟨a, len, cap, rfl⟩ := hv
  obtain ⟨fuel, hf⟩ := h
  obtain ⟨v, ll, f, hcs, h1, h2, h3⟩ := open_rows ht he hi hce hci hf
  have e : v = .slice a len cap := by
    have : (Value.slice a len cap).cells = #[.slice a len cap] := rfl
    rw [this] at hcs
    simpa using hcs.symm
  subst e
  exact ⟨ll, f, h1, h2, h3⟩

/-- A struct of two numbers and rows. -/
theorem open_pair_value {t e i : TypeId} {f0 f1 f2 : Field} {v : Value} {d : DataW H} {p : List MemPlace} (hst : P.underlying t = some (.struct #[f0, f1, f2])) (hct : P.cellsOf t = 3) (o0 : f0.offset = 0) (o1 : f1.offset = 1) (o2 : f2.offset = 2)
    (ht0 : P.underlying f0.type = some (.int .i64)) (ht1 : P.underlying f1.type = some (.int .i64)) (c0 : P.cellsOf f0.type = 1) (c1 : P.cellsOf f1.type = 1) (c2 : P.cellsOf f2.type = 1)
    (ht : P.underlying f2.type = some (.slice e)) (he : P.underlying e = some (.slice i)) (hi : P.underlying i = some (.int .i64)) (hce : P.cellsOf e = 1) (hci : P.cellsOf i = 1)
    (hv : ∃ cs, v = .agg cs) (h : DataW.Trod enc P W 0 (fun _ => true) true t v d p) :
    ∃ (n m : Int) (u : Value) (ll : List (List Int)) (f : Nat → Place), v = .agg #[.int .i64 n, .int .i64 m, u] ∧ RowsIn W u ll f ∧ ll.length ≤ 9223372036854775807 ∧ ∀ l ∈ ll, l.length ≤ 9223372036854775807 := by
  obtain ⟨cs, rfl⟩ := hv
  obtain ⟨fuel, hf⟩ := h
  obtain ⟨xs, n, _, _, hl, hxl, hget⟩ := DataW.trod_struct hst hf
  have e : (Value.agg cs).cells = cs := rfl
  rw [e] at hl hget
  rw [hct] at hl
  have g0 := hget 0 f0 rfl
  have g1 := hget 1 f1 rfl
  have g2 := hget 2 f2 rfl
  rw [o0, c0] at g0
  rw [o1, c1] at g1
  rw [o2, c2] at g2
  have hxl3 : xs.length = 3 := hxl
  rw [List.getElem?_eq_getElem (by omega)] at g0 g1 g2
  obtain ⟨a, ha, _⟩ := DataW.trod_int ht0 g0
  obtain ⟨b, hb, _⟩ := DataW.trod_int ht1 g1
  obtain ⟨u, ll, f, hu, h1, h2, h3⟩ := open_rows ht he hi hce hci g2
  refine ⟨a, b, u, ll, f, ?_, h1, h2, h3⟩
  obtain ⟨L⟩ := cs
  match L, hl, ha, hb, hu with
  | [x, y, z], _, ha, hb, hu =>
    simp at ha hb hu
    subst ha hb hu
    rfl

theorem pairV_rel {id : Nat} {n m : Int} {u : Value} {ll : List (List Int)} {f : Nat → Place} (h : RowsIn W u ll f) {ρ : Ren} {N : Nat} (hid : id < N) (hρ : ρ id 0 = f 0) :
    VRel ρ N (.agg [.int .i64 n, .int .i64 m, .slice ⟨id, 0, 0, 1, 0⟩ ll.length]) (.agg #[.int .i64 n, .int .i64 m, u]) :=
  .agg _ _ rfl fun i a v ha hv => by
    match i, ha, hv with
    | 0, ha, hv => cases ha; cases hv; exact .int _ _
    | 1, ha, hv => cases ha; cases hv; exact .int _ _
    | 2, ha, hv => cases ha; cases hv; exact h.rel hid hρ
    | i + 3, ha, hv => simp at ha
end
end YtafalojjbghlhaaAM
