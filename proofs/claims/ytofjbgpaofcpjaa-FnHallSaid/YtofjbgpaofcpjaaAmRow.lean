/- From a row's premises to a heap of told objects, and from a contract to the row's end. -/
import Derived.Test.YtofjbgpaofcpjaaAmPlain
import Derived.ProofKit
import Derived.Deep.Slices
import Derived.Carry
set_option linter.unusedVariables false
set_option linter.unusedSimpArgs false
namespace YtofjbgpaofcpjaaAM
open Go Go.ChangeShapes Go.WideShapes Go.ChangeAt Go.RowKit Go.Deep
variable {P : Program}

/-- An object that is only read lies in a world at these places. -/
structure InO (w : World) (o : AObj) (f : Nat → Place) : Prop where
  wf : o.wf
  ro : o.ro = true
  row : ∀ (ρ : Ren) (N id r : Nat) (cs : List AV), id < N → (∀ r, ρ id r = f r) → o.row id r = some cs → RowH ρ N w (f r) true cs

def renOf (l : List (AObj × (Nat → Place))) : Ren := fun id r => match l[id]? with | some x => x.2 r | none => ⟨0, 0, 0⟩

theorem HSim.ofRo {w : World} (l : List (AObj × (Nat → Place))) (h : ∀ x ∈ l, InO w x.1 x.2) : HSim (renOf l) (l.map (·.1)) w := by
  have get : ∀ (id : Nat) (o : AObj), (l.map (·.1))[id]? = some o → ∃ x, l[id]? = some x ∧ x.1 = o ∧ InO w x.1 x.2 := fun id o ho => by
    rw [List.getElem?_map] at ho
    obtain ⟨x, hx, rfl⟩ := Option.map_eq_some_iff.1 ho
    exact ⟨x, hx, rfl, h x (List.mem_of_getElem? hx)⟩
  refine ⟨fun id o ho => ?_, fun id o r cs ho hr => ?_, fun id o r id' o' r' ho ho' hr hr' hro => ?_⟩
  · obtain ⟨x, _, rfl, hi⟩ := get id o ho; exact hi.wf
  · obtain ⟨x, hx, rfl, hi⟩ := get id o ho
    have hf : ∀ r, renOf l id r = x.2 r := fun r => by simp only [renOf, hx]
    rw [hf, hi.ro]
    exact hi.row _ _ id r cs (by have := (List.getElem?_eq_some_iff.1 hx).1; simpa using this) hf hr
  · obtain ⟨x, _, rfl, hi⟩ := get id o ho
    rw [hi.ro] at hro; cases hro

/-- A slice that came in. -/
structure SlIn (w : World) (v : Value) (τ : Ty) (l : List τ.El) (pl : Place) : Prop where
  wf : ∀ x ∈ l, (τ.enc x).length = τ.n
  val : ∃ p cap, v = .slice p l.length cap ∧ l.length ≤ cap ∧ (cap = 0 ∨ (p = some (pl.addr 0) ∧ cap * τ.n ≤ pl.room))
  row : ∀ (ρ : Ren) (N : Nat), RowH ρ N w pl true (l.flatMap τ.enc)

theorem SlIn.inO {w : World} {v : Value} {τ : Ty} {l : List τ.El} {pl : Place} (h : SlIn w v τ l pl) : InO w (.arr true τ l) (fun _ => pl) where
  wf := h.wf
  ro := rfl
  row ρ N id r cs _ _ hr := by
    simp only [AObj.row] at hr
    split at hr
    · cases hr; exact h.row ρ N
    · cases hr

theorem SlIn.rel {w : World} {v : Value} {τ : Ty} {l : List τ.El} {pl : Place} (h : SlIn w v τ l pl) {ρ : Ren} {N id : Nat} (hid : id < N) (hρ : ρ id 0 = pl) : VRel ρ N (.slice ⟨id, 0, 0, τ.n, 0⟩ l.length) v := by
  obtain ⟨p, cap, rfl, hl, hc⟩ := h.val
  refine .slice _ _ p cap hid hl ?_
  rcases hc with hc | ⟨hp, hr⟩
  · exact .inl hc
  · refine .inr ⟨?_, ?_⟩
    · rw [hp]; simp [AAddr.at, AAddr.cell, hρ]
    · simp only [AAddr.cell, hρ]; omega

theorem spot_of_cell {w : World} {a : Addr} {v : Value} (h : w.cell? a = some v) : a = ⟨a.block, a.off, none⟩ := by
  obtain ⟨b, o, s⟩ := a
  cases s with
  | none => rfl
  | some x =>
    unfold World.cell? at h
    split at h <;> simp at h

theorem add_of_spot {a : Addr} (h : a.spot = none) (k : Nat) : a.add k = ⟨a.block, a.off + k, none⟩ := by
  obtain ⟨b, o, s⟩ := a
  simp only at h
  subst h
  unfold Addr.add
  split
  · rename_i e; subst e; rfl
  · rfl

/-- A slice whose cells are told by a list, n cells an element. -/
theorem slIn_of {w : World} {a : Addr} {len cap : Nat} {τ : Ty} (hn : 0 < τ.n) {l : List τ.El} (hlen : l.length = len) (hle : len ≤ cap) (hwf : ∀ x ∈ l, (τ.enc x).length = τ.n)
    (hall : ∀ k, k < cap * τ.n → ∃ v, w.cell? (a.add k) = some v)
    (hcell : ∀ (k : Nat) (c : AV), (l.flatMap τ.enc)[k]? = some c → ∃ v, w.cell? (a.add k) = some v ∧ v.oneCell' = true ∧ ∀ ρ N, VRel ρ N c v) : ∃ pl, SlIn w (.slice (some a) len cap) τ l pl := by
  rcases Nat.eq_zero_or_pos cap with h0 | h0
  · subst h0
    have : l = [] := List.eq_nil_of_length_eq_zero (by omega)
    subst this
    refine ⟨⟨0, 0, 0⟩, by simp, ⟨_, 0, by rw [← hlen], by simp, .inl rfl⟩, fun ρ N => ⟨by simp, fun h => absurd h (by simp), (fun h => by cases h), fun k c hc => by simp at hc⟩⟩
  · obtain ⟨v0, hv0⟩ := hall 0 (Nat.mul_pos h0 hn)
    have ha : a.add 0 = a := by unfold Addr.add; simp
    rw [ha] at hv0
    have hs : a.spot = none := by rw [spot_of_cell hv0]
    have hadd : ∀ k, (⟨a.block, a.off, cap * τ.n⟩ : Place).addr k = a.add k := fun k => (add_of_spot hs k).symm
    refine ⟨⟨a.block, a.off, cap * τ.n⟩, hwf, ⟨some a, cap, by rw [hlen], by omega, .inr ⟨by rw [hadd, ha], Nat.le_refl _⟩⟩, fun ρ N => ⟨?_, fun _ => World.block_lt_of_cell? w a hv0, (fun h => by cases h), fun k c hc => ?_⟩⟩
    · rw [flat_length τ.enc l hwf]; exact Nat.mul_le_mul_right _ (by omega)
    · obtain ⟨v, h1, h2, h3⟩ := hcell k c hc
      exact ⟨v, by rw [hadd]; exact h1, h3 ρ N, h2⟩

theorem slIn_nil (w : World) (τ : Ty) : SlIn w (.slice none 0 0) τ [] ⟨0, 0, 0⟩ :=
  ⟨by simp, ⟨none, 0, rfl, by simp, .inl rfl⟩, fun ρ N => ⟨by simp, fun h => absurd h (by simp), (fun h => by cases h), fun k c hc => by simp at hc⟩⟩

theorem wf64 {n : Int} (h : (Lit.int .i64 n).wf = true) : in64 n := by
  simp only [Lit.wf, Bool.and_eq_true, decide_eq_true_eq] at h
  exact h

section
variable {H : Type} {enc : TypeId × Value → H} {W : World}

theorem lt_maxLen {n cap : Nat} (h : n ≤ cap) (hm : cap ≤ maxLen) : n ≤ 9223372036854775807 := by
  unfold maxLen at hm; omega

/-- A []int that came in. -/
theorem open_int_slice {t e : TypeId} {v : Value} {d : DataW H} {p : List MemPlace} (ht : P.underlying t = some (.slice e)) (he : P.underlying e = some (.int .i64)) (hc : P.cellsOf e = 1)
    (hv : ∃ a len cap, v = .slice a len cap) (h : DataW.Trod enc P W 0 (fun _ => true) true t v d p) : ∃ (l : List Int) (pl : Place), SlIn W v .int l pl ∧ l.length ≤ 9223372036854775807 ∧ ∀ x ∈ l, in64 x := by
  obtain ⟨a0, len0, cap0, rfl⟩ := hv
  obtain ⟨fuel, hf⟩ := h
  rcases open_ints ht he hc hf with ⟨hcs, _⟩ | ⟨a, len, cap, zs, hcs, _, hl, hm, hz, _, hcell, hwz⟩
  · simp [Value.cells] at hcs
    obtain ⟨rfl, rfl, rfl⟩ := hcs
    exact ⟨[], _, slIn_nil W .int, by simp, by simp⟩
  · simp [Value.cells] at hcs
    obtain ⟨rfl, rfl, rfl⟩ := hcs
    simp only [if_true] at hz
    have hfm : ∀ l : List Int, l.flatMap (Ty.enc .int) = l.map (.int .i64) := fun l => by
      induction l with
      | nil => rfl
      | cons x l ih => rw [List.flatMap_cons, ih]; rfl
    obtain ⟨pl, hp⟩ := slIn_of (w := W) (a := a) (len := len0) (cap := cap0) (τ := .int) (by decide) (l := zs.take len0) (by simp; omega) hl (fun _ _ => rfl)
      (fun k hk => ⟨_, hcell k (by simp at hk; omega)⟩) (fun k c hk => by
        rw [hfm, List.getElem?_map] at hk
        obtain ⟨x, hx, rfl⟩ := Option.map_eq_some_iff.1 hk
        have hk1 : k < zs.length := by have := (List.getElem?_eq_some_iff.1 hx).1; simp at this; omega
        refine ⟨_, hcell k hk1, rfl, fun ρ N => ?_⟩
        have : zs.getD k 0 = x := by
          rw [List.getElem?_take] at hx
          split at hx
          · simp [List.getD, hx]
          · cases hx
        rw [this]; exact .int _ _)
    exact ⟨_, pl, hp, lt_maxLen (by simp; omega) hm, fun x hx => wf64 (hwz x (List.mem_of_mem_take hx))⟩

/-- A []byte that came in. -/
theorem open_byte_slice {t e : TypeId} {v : Value} {d : DataW H} {p : List MemPlace} (ht : P.underlying t = some (.slice e)) (he : P.underlying e = some (.int .u8)) (hc : P.cellsOf e = 1)
    (hv : ∃ a len cap, v = .slice a len cap) (h : DataW.Trod enc P W 0 (fun _ => true) true t v d p) : ∃ (l : List Int) (pl : Place), SlIn W v .byte l pl ∧ l.length ≤ 9223372036854775807 ∧ ∀ x ∈ l, 0 ≤ x ∧ x ≤ 255 := by
  obtain ⟨a0, len0, cap0, rfl⟩ := hv
  obtain ⟨fuel, hf⟩ := h
  rcases open_ints ht he hc hf with ⟨hcs, _⟩ | ⟨a, len, cap, zs, hcs, _, hl, hm, hz, _, hcell, hwz⟩
  · simp [Value.cells] at hcs
    obtain ⟨rfl, rfl, rfl⟩ := hcs
    exact ⟨[], _, slIn_nil W .byte, by simp, by simp⟩
  · simp [Value.cells] at hcs
    obtain ⟨rfl, rfl, rfl⟩ := hcs
    simp only [if_true] at hz
    have hfm : ∀ l : List Int, l.flatMap (Ty.enc .byte) = l.map (.int .u8) := fun l => by
      induction l with
      | nil => rfl
      | cons x l ih => rw [List.flatMap_cons, ih]; rfl
    obtain ⟨pl, hp⟩ := slIn_of (w := W) (a := a) (len := len0) (cap := cap0) (τ := .byte) (by decide) (l := zs.take len0) (by simp; omega) hl (fun _ _ => rfl)
      (fun k hk => ⟨_, hcell k (by simp at hk; omega)⟩) (fun k c hk => by
        rw [hfm, List.getElem?_map] at hk
        obtain ⟨x, hx, rfl⟩ := Option.map_eq_some_iff.1 hk
        have hk1 : k < zs.length := by have := (List.getElem?_eq_some_iff.1 hx).1; simp at this; omega
        refine ⟨_, hcell k hk1, rfl, fun ρ N => ?_⟩
        have : zs.getD k 0 = x := by
          rw [List.getElem?_take] at hx
          split at hx
          · simp [List.getD, hx]
          · cases hx
        rw [this]; exact .int _ _)
    refine ⟨_, pl, hp, lt_maxLen (by simp; omega) hm, fun x hx => ?_⟩
    have := hwz x (List.mem_of_mem_take hx)
    simp only [Lit.wf, Bool.and_eq_true, decide_eq_true_eq] at this
    exact this

/-- A struct of whole numbers, one cell each, read: its cells. -/
theorem int_fields {e : TypeId} {fs : Array Field} {fuel : Nat} {cs : List Value} {x : DataW H × List MemPlace} {base : Nat} {sp : Nat → Bool} {held : Bool} (he : P.underlying e = some (.struct fs)) (hce : P.cellsOf e = fs.size)
    (hf : ∀ (i : Nat) (f : Field), fs[i]? = some f → f.offset = i ∧ P.underlying f.type = some (.int .i64) ∧ P.cellsOf f.type = 1)
    (h : DataW.trod enc P W base sp held fuel e cs = some x) : cs.length = fs.size ∧ ∀ i, i < fs.size → ∃ n, cs[i]? = some (.int .i64 n) ∧ in64 n := by
  obtain ⟨xs, n, _, _, hl, hxl, hget⟩ := DataW.trod_struct he h
  refine ⟨by rw [hl, hce], fun i hi => ?_⟩
  have hfi : fs[i]? = some fs[i] := by simp [hi]
  obtain ⟨ho, hu, hc⟩ := hf i _ hfi
  have := hget i _ hfi
  rw [ho, hc] at this
  rw [List.getElem?_eq_getElem (by omega)] at this
  obtain ⟨m, hm, _, hw⟩ := DataW.trod_int hu this
  refine ⟨m, ?_, wf64 hw⟩
  have h1 : ((cs.drop i).take 1)[0]? = some (.int .i64 m) := by rw [hm]; rfl
  rw [List.getElem?_take] at h1
  simpa using h1

/-- A slice of structs of n whole numbers that came in; 'mk': an element out of its numbers. -/
theorem open_struct_slice {t e : TypeId} {fs : Array Field} {v : Value} {d : DataW H} {p : List MemPlace} {τ : Ty} (ht : P.underlying t = some (.slice e)) (he : P.underlying e = some (.struct fs)) (hce : P.cellsOf e = fs.size) (hn : τ.n = fs.size) (h0 : 0 < fs.size)
    (hf : ∀ (i : Nat) (f : Field), fs[i]? = some f → f.offset = i ∧ P.underlying f.type = some (.int .i64) ∧ P.cellsOf f.type = 1) (mk : (Nat → Int) → τ.El) (hmk : ∀ g : Nat → Int, τ.enc (mk g) = (List.range τ.n).map fun i => .int .i64 (g i))
    (hv : ∃ a len cap, v = .slice a len cap) (h : DataW.Trod enc P W 0 (fun _ => true) true t v d p) : ∃ (l : List τ.El) (pl : Place), SlIn W v τ l pl ∧ l.length ≤ 9223372036854775807 ∧ ∀ x ∈ l, ∀ c ∈ τ.enc x, ∃ n, c = .int .i64 n ∧ in64 n := by
  obtain ⟨a0, len0, cap0, rfl⟩ := hv
  obtain ⟨fuel, hfu⟩ := h
  rcases open_slice ht hfu with ⟨hcs, _⟩ | ⟨a, len, cap, m, n, D, Pl, hcs, _, hl, hm, hmm, _, hx⟩
  · simp [Value.cells] at hcs
    obtain ⟨rfl, rfl, rfl⟩ := hcs
    exact ⟨[], _, slIn_nil W τ, by simp, by simp⟩
  · simp [Value.cells] at hcs
    obtain ⟨rfl, rfl, rfl⟩ := hcs
    simp only [if_true] at hmm
    subst hmm
    have each : ∀ i, i < m → ∃ g : Nat → Int, ∀ j, j < fs.size → W.cell? (a.add (i * fs.size + j)) = some (.int .i64 (g j)) ∧ in64 (g j) := fun i hi => by
      obtain ⟨cs', h1, h2⟩ := hx i hi
      rw [hce] at h1
      obtain ⟨_, hlen, hcell⟩ := World.cells?_some h1
      obtain ⟨_, hfl⟩ := int_fields he hce hf h2
      obtain ⟨g, hg⟩ := choose_lt (α := Int) hfl
      refine ⟨g, fun j hj => ?_⟩
      have := hcell j hj
      rw [add_add, (hg j hj).1] at this
      exact ⟨this, (hg j hj).2⟩
    haveI : Inhabited (Nat → Int) := ⟨fun _ => 0⟩
    obtain ⟨G, hG⟩ := choose_lt each
    have hnp : 0 < τ.n := by rw [hn]; exact h0
    have hwf : ∀ x ∈ (List.range len0).map (fun i => mk (G i)), (τ.enc x).length = τ.n := fun x hx => by
      obtain ⟨i, _, rfl⟩ := List.mem_map.1 hx
      rw [hmk]; simp
    obtain ⟨pl, hp⟩ := slIn_of (w := W) (a := a) (len := len0) (cap := m) (τ := τ) hnp (l := (List.range len0).map fun i => mk (G i)) (by simp) hl hwf
      (fun k hk => by
        have h1 : k / fs.size < m := by rw [hn] at hk; exact Nat.div_lt_of_lt_mul (by rw [Nat.mul_comm]; exact hk)
        have := (hG (k / fs.size) h1 (k % fs.size) (Nat.mod_lt _ h0)).1
        rw [Nat.div_add_mod'] at this
        exact ⟨_, this⟩)
      (fun k c hk => by
        rw [flat_get τ.enc hnp _ hwf, List.getElem?_map] at hk
        have hk1 : k / τ.n < len0 := by
          rcases Nat.lt_or_ge (k / τ.n) len0 with hlt | hge
          · exact hlt
          · rw [List.getElem?_eq_none (by simpa using hge)] at hk; simp at hk
        rw [List.getElem?_range hk1] at hk
        simp only [Option.map_some, Option.bind_some, hmk] at hk
        rw [List.getElem?_map, List.getElem?_range (Nat.mod_lt _ hnp)] at hk
        simp only [Option.map_some, Option.some.injEq] at hk
        subst hk
        have := (hG (k / fs.size) (by rw [← hn]; omega) (k % fs.size) (Nat.mod_lt _ h0)).1
        rw [Nat.div_add_mod'] at this
        refine ⟨_, this, rfl, fun ρ N => ?_⟩
        rw [hn]; exact .int _ _)
    refine ⟨_, pl, hp, lt_maxLen (by simpa using hl) hm, fun x hx c hc => ?_⟩
    obtain ⟨i, hi, rfl⟩ := List.mem_map.1 hx
    rw [hmk] at hc
    obtain ⟨j, hj, rfl⟩ := List.mem_map.1 hc
    refine ⟨_, rfl, (hG i (by have := List.mem_range.1 hi; omega) j (by rw [← hn]; exact List.mem_range.1 hj)).2⟩

theorem open_s3_slice {t e : TypeId} {fs : Array Field} {v : Value} {d : DataW H} {p : List MemPlace} (ht : P.underlying t = some (.slice e)) (he : P.underlying e = some (.struct fs)) (hce : P.cellsOf e = 3) (hsz : fs.size = 3)
    (hf : ∀ (i : Nat) (f : Field), fs[i]? = some f → f.offset = i ∧ P.underlying f.type = some (.int .i64) ∧ P.cellsOf f.type = 1)
    (hv : ∃ a len cap, v = .slice a len cap) (h : DataW.Trod enc P W 0 (fun _ => true) true t v d p) : ∃ (l : List S3) (pl : Place), SlIn W v .s3 l pl ∧ l.length ≤ 9223372036854775807 ∧ ∀ x ∈ l, in64 x.a ∧ in64 x.b ∧ in64 x.c := by
  obtain ⟨l, pl, h1, h2, h3⟩ := open_struct_slice (τ := .s3) ht he (by rw [hce, hsz]) (by rw [hsz]) (by omega) hf (fun g => ⟨g 0, g 1, g 2⟩) (fun g => rfl) hv h
  refine ⟨l, pl, h1, h2, fun x hx => ?_⟩
  have get : ∀ n, AV.int .i64 n ∈ Ty.enc .s3 x → in64 n := fun n hn => by
    obtain ⟨m, hm, hi⟩ := h3 x hx _ hn
    cases hm; exact hi
  exact ⟨get _ (by simp [Ty.enc]), get _ (by simp [Ty.enc]), get _ (by simp [Ty.enc])⟩

theorem open_s2_slice {t e : TypeId} {fs : Array Field} {v : Value} {d : DataW H} {p : List MemPlace} (ht : P.underlying t = some (.slice e)) (he : P.underlying e = some (.struct fs)) (hce : P.cellsOf e = 2) (hsz : fs.size = 2)
    (hf : ∀ (i : Nat) (f : Field), fs[i]? = some f → f.offset = i ∧ P.underlying f.type = some (.int .i64) ∧ P.cellsOf f.type = 1)
    (hv : ∃ a len cap, v = .slice a len cap) (h : DataW.Trod enc P W 0 (fun _ => true) true t v d p) : ∃ (l : List S2) (pl : Place), SlIn W v .s2 l pl ∧ l.length ≤ 9223372036854775807 ∧ ∀ x ∈ l, in64 x.a ∧ in64 x.b := by
  obtain ⟨l, pl, h1, h2, h3⟩ := open_struct_slice (τ := .s2) ht he (by rw [hce, hsz]) (by rw [hsz]) (by omega) hf (fun g => ⟨g 0, g 1⟩) (fun g => rfl) hv h
  refine ⟨l, pl, h1, h2, fun x hx => ?_⟩
  have get : ∀ n, AV.int .i64 n ∈ Ty.enc .s2 x → in64 n := fun n hn => by
    obtain ⟨m, hm, hi⟩ := h3 x hx _ hn
    cases hm; exact hi
  exact ⟨get _ (by simp [Ty.enc]), get _ (by simp [Ty.enc])⟩
theorem okWide_agg {w : World} {r : Reach} {base : Nat} {t : TypeId} {v : Value} {fs : Array Field} (ht : P.underlying t = some (.struct fs)) (h : Value.okWide P w r base t v) : ∃ cs, v = .agg cs := by
  unfold Value.okWide at h
  rw [ht] at h
  obtain ⟨cs, h, _⟩ := h
  exact ⟨cs, h⟩

/-- A struct of three numbers by value. -/
theorem open_s3_value {t : TypeId} {fs : Array Field} {v : Value} {d : DataW H} {p : List MemPlace} (ht : P.underlying t = some (.struct fs)) (hce : P.cellsOf t = 3) (hsz : fs.size = 3)
    (hf : ∀ (i : Nat) (f : Field), fs[i]? = some f → f.offset = i ∧ P.underlying f.type = some (.int .i64) ∧ P.cellsOf f.type = 1)
    (hv : ∃ cs, v = .agg cs) (h : DataW.Trod enc P W 0 (fun _ => true) true t v d p) : ∃ x : S3, v = .agg #[.int .i64 x.a, .int .i64 x.b, .int .i64 x.c] := by
  obtain ⟨cs, rfl⟩ := hv
  obtain ⟨fuel, hfu⟩ := h
  obtain ⟨hl, hg⟩ := int_fields ht (by rw [hce, hsz]) hf hfu
  rw [hsz] at hl hg
  obtain ⟨a, ha, _⟩ := hg 0 (by omega)
  obtain ⟨b, hb, _⟩ := hg 1 (by omega)
  obtain ⟨c, hc, _⟩ := hg 2 (by omega)
  refine ⟨⟨a, b, c⟩, ?_⟩
  have hcs : cs.toList = [.int .i64 a, .int .i64 b, .int .i64 c] := by
    have e : (Value.agg cs).cells = cs := rfl
    rw [e] at hl ha hb hc
    apply List.ext_getElem?
    intro i
    match i with
    | 0 => exact ha
    | 1 => exact hb
    | 2 => exact hc
    | i + 3 => rw [List.getElem?_eq_none (by omega), List.getElem?_eq_none (by simp)]
  rw [show cs = #[.int .i64 a, .int .i64 b, .int .i64 c] by cases cs; simp_all]
end

/-! ### From a contract to the call -/
theorem below_of_frame {W w' : World} {B : Nat → Prop} (h : Frame W B w') (hB : ∀ b, ¬ B b) : Below W.heap.size W w' := ⟨h.os, h.tape, h.output, h.size, fun k hk => h.block k hk (hB k)⟩

theorem calls_law {f : FuncId} {args : List AV} {H H1 : List AObj} {b : Bool} (h : ACall P f args H (Is (.bool b) H1)) {ρ : Ren} {W : World} {vals : Array Value} (hs : HSim ρ H W) (hro : ∀ o ∈ H, o.ro = true) (hl : vals.size = args.length)
    (hr : ∀ (i : Nat) (a : AV) (v : Value), args[i]? = some a → vals[i]? = some v → VRel ρ H.length a v) :
    Calls P f vals W fun e W' => e = .returned (.bool b) ∧ Below W.heap.size W W' :=
  (h.run ρ W vals hs hl hr).mono fun e w' hc => by
    obtain ⟨v, r, H', ρ', rfl, ⟨rfl, rfl⟩, hv, _, hfr, _⟩ := hc
    cases hv
    exact ⟨rfl, below_of_frame hfr fun b ⟨id, o, r, h1, h2, _⟩ => by rw [hro o (List.mem_of_getElem? h1)] at h2; cases h2⟩

theorem s3V_rel (x : S3) {ρ : Ren} {N : Nat} : VRel ρ N (.agg [.int .i64 x.a, .int .i64 x.b, .int .i64 x.c]) (.agg #[.int .i64 x.a, .int .i64 x.b, .int .i64 x.c]) :=
  .agg _ _ rfl fun i a v ha hv => by
    match i, ha, hv with
    | 0, ha, hv => cases ha; cases hv; exact .int _ _
    | 1, ha, hv => cases ha; cases hv; exact .int _ _
    | 2, ha, hv => cases ha; cases hv; exact .int _ _
    | i + 3, ha, hv => simp at ha
end YtofjbgpaofcpjaaAM
