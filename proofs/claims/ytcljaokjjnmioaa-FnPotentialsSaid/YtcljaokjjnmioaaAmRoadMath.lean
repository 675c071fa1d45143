/- Cheapest ways over roads (Bellman and Ford; Johnson), in plain Lean. -/
import Derived.Test.YtcljaokjjnmioaaAmRoadModels
import Derived.Test.YtcljaokjjnmioaaAmPutModels
set_option linter.unusedVariables false
set_option linter.unusedSimpArgs false
namespace YtcljaokjjnmioaaAM

/-- A way of n roads from s to v that costs x: f tells the nodes, g the costs so far. -/
structure Way (l : List S3) (s v : Int) (n : Nat) (x : Int) (f g : Nat → Int) : Prop where
  f0 : f 0 = s
  fn : f n = v
  g0 : g 0 = 0
  gn : g n = x
  step : ∀ i, i < n → ∃ r ∈ l, r.a = f i ∧ r.b = f (i + 1) ∧ g (i + 1) = g i + r.c
def HasWay (l : List S3) (s v : Int) (n : Nat) (x : Int) : Prop := ∃ f g, Way l s v n x f g
theorem HasWay.nil (l : List S3) (s : Int) : HasWay l s s 0 0 := ⟨fun _ => s, fun _ => 0, rfl, rfl, rfl, rfl, fun i hi => by omega⟩
theorem HasWay.snoc {l : List S3} {s v : Int} {n : Nat} {x : Int} (h : HasWay l s v n x) {r : S3} (hr : r ∈ l) (ha : r.a = v) : HasWay l s r.b (n + 1) (x + r.c) := by
  obtain ⟨f, g, h⟩ := h
  refine ⟨fun k => if k ≤ n then f k else r.b, fun k => if k ≤ n then g k else x + r.c, by simp [h.f0], by simp; omega, by simp [h.g0], by simp; omega, fun i hi => ?_⟩
  rcases Nat.lt_or_ge i n with c | c
  · obtain ⟨q, h1, h2, h3, h4⟩ := h.step i c
    refine ⟨q, h1, ?_, ?_, ?_⟩
    · rw [if_pos (by omega)]; exact h2
    · rw [if_pos (by omega)]; exact h3
    · rw [if_pos (by omega), if_pos (by omega)]; exact h4
  · obtain rfl : i = n := by omega
    refine ⟨r, hr, ?_, ?_, ?_⟩
    · rw [if_pos (by omega), h.fn]; exact ha
    · rw [if_neg (by omega)]
    · rw [if_neg (by omega), if_pos (by omega), h.gn]
/-- The last road of a way. -/
theorem HasWay.last {l : List S3} {s v : Int} {n : Nat} {x : Int} (h : HasWay l s v (n + 1) x) : ∃ (u y : Int) (r : S3), HasWay l s u n y ∧ r ∈ l ∧ r.a = u ∧ r.b = v ∧ x = y + r.c := by
  obtain ⟨f, g, h⟩ := h
  obtain ⟨r, h1, h2, h3, h4⟩ := h.step n (by omega)
  exact ⟨f n, g n, r, ⟨f, g, h.f0, rfl, h.g0, rfl, fun i hi => h.step i (by omega)⟩, h1, h2, by rw [h3]; exact h.fn, by rw [← h4]; exact h.gn.symm⟩
theorem HasWay.zero {l : List S3} {s v : Int} {x : Int} (h : HasWay l s v 0 x) : s = v ∧ x = 0 := by
  obtain ⟨f, g, h⟩ := h
  exact ⟨by rw [← h.f0]; exact h.fn, by rw [← h.gn]; exact h.g0⟩
theorem HasWay.append {l : List S3} {s u : Int} {n : Nat} {x : Int} (h1 : HasWay l s u n x) : ∀ {m : Nat} {v y : Int}, HasWay l u v m y → HasWay l s v (n + m) (x + y)
  | 0, v, y, h2 => by
    obtain ⟨rfl, rfl⟩ := h2.zero
    simpa using h1
  | m + 1, v, y, h2 => by
    obtain ⟨w, z, r, h3, hr, ha, hb, rfl⟩ := h2.last
    have := (HasWay.append h1 h3).snoc hr ha
    rw [hb] at this
    rw [show x + (z + r.c) = x + z + r.c by omega]
    exact this
/-- p bears each road. -/
def Feas (l : List S3) (p : Int → Int) : Prop := ∀ r ∈ l, p r.b ≤ p r.a + r.c
theorem Feas.way {l : List S3} {p : Int → Int} (h : Feas l p) : ∀ {n : Nat} {s v x : Int}, HasWay l s v n x → p v ≤ p s + x
  | 0, s, v, x, hw => by
    obtain ⟨rfl, rfl⟩ := hw.zero; omega
  | n + 1, s, v, x, hw => by
    obtain ⟨u, y, r, h1, hr, ha, hb, rfl⟩ := hw.last
    have := h.way h1
    have := h r hr
    subst ha hb
    omega
/-- Of nine nodes two are the same. -/
theorem pigeon (f : Nat → Int) (h : ∀ i, i ≤ 8 → 0 ≤ f i ∧ f i < 8) : ∃ i j, i < j ∧ j ≤ 8 ∧ f i = f j := by
  by_cases hc : ∃ i j, i < j ∧ j ≤ 8 ∧ f i = f j
  · exact hc
  · exfalso
    have hn : ((List.range 9).map f).Nodup := by
      rw [List.nodup_iff_pairwise_ne, List.pairwise_map]
      refine (List.pairwise_lt_range).imp_of_mem fun {a b} ha hb hab e => hc ⟨a, b, hab, ?_, e⟩
      have := List.mem_range.1 hb; omega
    have := nod_len 8 _ hn fun x hx => by
      obtain ⟨i, hi, rfl⟩ := List.mem_map.1 hx
      have := List.mem_range.1 hi
      exact h i (by omega)
    simp at this
/-- A way of eight roads or more goes round somewhere: without that it costs no more. -/
theorem HasWay.cut {l : List S3} {p : Int → Int} (hp : Feas l p) (hl : ∀ r ∈ l, (0 ≤ r.a ∧ r.a < 8) ∧ (0 ≤ r.b ∧ r.b < 8)) {s v : Int} {n : Nat} {x : Int} (h : HasWay l s v n x) (hn : 8 ≤ n) :
    ∃ m y, m < n ∧ y ≤ x ∧ HasWay l s v m y := by
  obtain ⟨f, g, h⟩ := h
  have hr : ∀ i, i ≤ 8 → 0 ≤ f i ∧ f i < 8 := fun i hi => by
    rcases Nat.lt_or_ge i n with c | c
    · obtain ⟨r, h1, h2, _⟩ := h.step i c
      rw [← h2]; exact (hl r h1).1
    · obtain rfl : i = n := by omega
      obtain ⟨r, h1, _, h3, _⟩ := h.step (i - 1) (by omega)
      rw [show i - 1 + 1 = i by omega] at h3
      rw [← h3]; exact (hl r h1).2
  obtain ⟨i, j, hij, hj, e⟩ := pigeon f hr
  have w1 : HasWay l s (f i) i (g i) := ⟨f, g, h.f0, rfl, h.g0, rfl, fun k hk => h.step k (by omega)⟩
  have sh : ∀ a b, a ≤ b → b ≤ n → HasWay l (f a) (f b) (b - a) (g b - g a) := fun a b hab hb =>
    ⟨fun k => f (a + k), fun k => g (a + k) - g a, rfl, by simp [show a + (b - a) = b by omega], by simp, by simp [show a + (b - a) = b by omega], fun k hk => by
      obtain ⟨r, h1, h2, h3, h4⟩ := h.step (a + k) (by omega)
      exact ⟨r, h1, h2, h3, by show g (a + (k + 1)) - g a = g (a + k) - g a + r.c; rw [show a + (k + 1) = a + k + 1 by omega, h4]; omega⟩⟩
  have w2 := sh j n (by omega) (by omega)
  have hc := hp.way (sh i j (by omega) (by omega))
  rw [h.fn, h.gn, ← e] at w2
  refine ⟨i + (n - j), g i + (x - g j), by omega, ?_, w1.append w2⟩
  rw [← e] at hc
  omega
theorem HasWay.short {l : List S3} {p : Int → Int} (hp : Feas l p) (hl : ∀ r ∈ l, (0 ≤ r.a ∧ r.a < 8) ∧ (0 ≤ r.b ∧ r.b < 8)) {s v : Int} : ∀ (n : Nat) {x : Int}, HasWay l s v n x → ∃ m y, m ≤ 7 ∧ y ≤ x ∧ HasWay l s v m y := by
  intro n
  induction n using Nat.strongRecOn with
  | ind n ih =>
    intro x h
    rcases Nat.lt_or_ge n 8 with c | c
    · exact ⟨n, x, by omega, by omega, h⟩
    · obtain ⟨m, y, h1, h2, h3⟩ := h.cut hp hl c
      obtain ⟨m', y', h4, h5, h6⟩ := ih m h1 h3
      exact ⟨m', y', h4, by omega, h6⟩
/-! ### The rounds -/
abbrev cAt (c : List Int) (v : Int) : Int := c.getD v.toNat 0
theorem goodRoads_mem {l : List S3} (h : goodRoads l = true) {r : S3} (hr : r ∈ l) : (0 ≤ r.a ∧ r.a < 8) ∧ (0 ≤ r.b ∧ r.b < 8) ∧ (-100 ≤ r.c ∧ r.c ≤ 100) ∧ r.a ≠ r.b := by
  obtain ⟨k, hk, rfl⟩ := List.getElem_of_mem hr
  have := goodRoad_iff.1 (goodRoads_get h hk)
  omega
/-- Costs that are those of ways from s, or Far. -/
structure FromS (l : List S3) (s : Int) (N : Nat) (c : List Int) : Prop where
  len : c.length = 8
  hi : ∀ v, 0 ≤ v → v < 8 → cAt c v ≤ Far
  way : ∀ v, 0 ≤ v → v < 8 → cAt c v = Far ∨ ∃ n, n ≤ N ∧ HasWay l s v n (cAt c v)
theorem cAt_set {c : List Int} {u v x : Int} (hl : c.length = 8) (hu : 0 ≤ u ∧ u < 8) (hv : 0 ≤ v ∧ v < 8) : cAt (c.set u.toNat x) v = if u = v then x else cAt c v := by
  unfold cAt
  rw [getD_set]
  by_cases h : u = v
  · subst h; rw [if_pos ⟨rfl, by omega⟩, if_pos rfl]
  · rw [if_neg (by omega), if_neg h]
theorem relax_cases (c : List Int) (ch : Bool) (r : S3) : (relax (c, ch) r = (c, ch) ∧ (cAt c r.a = Far ∨ cAt c r.b ≤ cAt c r.a + r.c)) ∨ (relax (c, ch) r = (c.set r.b.toNat (cAt c r.a + r.c), true) ∧ cAt c r.a ≠ Far ∧ cAt c r.a + r.c < cAt c r.b) := by
  unfold relax cAt
  split
  · rename_i h; exact .inr ⟨rfl, h.1, h.2⟩
  · rename_i h
    refine .inl ⟨rfl, ?_⟩
    by_cases h1 : c.getD r.a.toNat 0 = Far
    · exact .inl h1
    · exact .inr (by simp only [] at h; have := fun h2 => h ⟨h1, h2⟩; omega)
section
variable {l : List S3} {s : Int}
theorem FromS.relax (hg : goodRoads l = true) {N : Nat} {c : List Int} (h : FromS l s N c) (ch : Bool) {r : S3} (hr : r ∈ l) : FromS l s (N + 1) (YtcljaokjjnmioaaAM.relax (c, ch) r).1 := by
  obtain ⟨ha, hb, _⟩ := goodRoads_mem hg hr
  have mono : ∀ v, 0 ≤ v → v < 8 → cAt c v = Far ∨ ∃ n, n ≤ N + 1 ∧ HasWay l s v n (cAt c v) := fun v h0 h8 => (h.way v h0 h8).imp_right fun ⟨n, hn, hw⟩ => ⟨n, by omega, hw⟩
  rcases relax_cases c ch r with ⟨e, _⟩ | ⟨e, h1, h2⟩
  · rw [e]; exact ⟨h.len, h.hi, mono⟩
  · rw [e]
    refine ⟨by simp [h.len], fun v h0 h8 => ?_, fun v h0 h8 => ?_⟩
    · rw [cAt_set h.len hb ⟨h0, h8⟩]
      split
      · have := h.hi r.b hb.1 hb.2; omega
      · exact h.hi v h0 h8
    · rw [cAt_set h.len hb ⟨h0, h8⟩]
      split
      · rename_i e2
        subst e2
        obtain ⟨n, hn, hw⟩ := (h.way r.a ha.1 ha.2).resolve_left h1
        exact .inr ⟨n + 1, by omega, hw.snoc hr rfl⟩
      · exact mono v h0 h8
/-- Costs only fall. -/
def Lower (c d : List Int) : Prop := ∀ v, 0 ≤ v → v < 8 → cAt d v ≤ cAt c v
theorem Lower.refl (c : List Int) : Lower c c := fun _ _ _ => Int.le_refl _
theorem Lower.trans {a b c : List Int} (h : Lower a b) (k : Lower b c) : Lower a c := fun v h0 h8 => Int.le_trans (k v h0 h8) (h v h0 h8)
theorem relax_lower (hg : goodRoads l = true) {c : List Int} (hl : c.length = 8) (ch : Bool) {r : S3} (hr : r ∈ l) : Lower c (relax (c, ch) r).1 ∧ (relax (c, ch) r).1.length = 8 := by
  obtain ⟨ha, hb, _⟩ := goodRoads_mem hg hr
  rcases relax_cases c ch r with ⟨e, _⟩ | ⟨e, h1, h2⟩
  · rw [e]; exact ⟨.refl _, hl⟩
  · rw [e]
    refine ⟨fun v h0 h8 => ?_, by simp [hl]⟩
    rw [cAt_set hl hb ⟨h0, h8⟩]
    split
    · rename_i e2; subst e2; omega
    · exact Int.le_refl _
/-- The costs after k roads of a round. -/
abbrev rdK (l : List S3) (c : List Int) (k : Nat) : List Int × Bool := foldTo relax (c, false) l k
theorem rdK_succ (c : List Int) {k : Nat} (hk : k < l.length) : rdK l c (k + 1) = relax ((rdK l c k).1, (rdK l c k).2) l[k] := foldTo_succ _ _ _ hk
theorem rdK_low (hg : goodRoads l = true) {c : List Int} (hl : c.length = 8) : ∀ k, k ≤ l.length → Lower c (rdK l c k).1 ∧ (rdK l c k).1.length = 8
  | 0, _ => by rw [rdK, foldTo_zero]; exact ⟨.refl _, hl⟩
  | k + 1, hk => by
    have ih := rdK_low hg hl k (by omega)
    rw [rdK_succ c (by omega)]
    have := relax_lower hg ih.2 (rdK l c k).2 (List.getElem_mem (by omega : k < l.length))
    exact ⟨ih.1.trans this.1, this.2⟩
theorem rdK_from (hg : goodRoads l = true) {N : Nat} {c : List Int} (h : FromS l s N c) : ∀ k, k ≤ l.length → FromS l s (N + k) (rdK l c k).1
  | 0, _ => by rw [rdK, foldTo_zero]; exact h
  | k + 1, hk => by
    rw [rdK_succ c (by omega)]
    exact (rdK_from hg h k (by omega)).relax hg _ (List.getElem_mem (by omega : k < l.length))
/-- What a round does to the end of each road, of the cost at its start. -/
theorem rdK_edge (hg : goodRoads l = true) {c : List Int} (hl : c.length = 8) : ∀ k, k ≤ l.length → ∀ j (hj : j < l.length), j < k → ∀ y, y < Far → cAt c l[j].a ≤ y → cAt (rdK l c k).1 l[j].b ≤ y + l[j].c
  | 0, _, j, hj, h, y, _, _ => by omega
  | k + 1, hk, j, hj, hjk, y, hy, hc => by
    have low := rdK_low hg hl k (by omega)
    have hk2 : k < l.length := by omega
    obtain ⟨ha, hb, _⟩ := goodRoads_mem hg (List.getElem_mem hj)
    have nx := relax_lower hg low.2 (rdK l c k).2 (List.getElem_mem hk2)
    rw [rdK_succ c hk2]
    rcases Nat.lt_or_ge j k with h | h
    · have ih := rdK_edge hg hl k (by omega) j hj h y hy hc
      exact Int.le_trans (nx.1 _ hb.1 hb.2) ih
    · obtain rfl : j = k := by omega
      have h1 : cAt (rdK l c j).1 l[j].a ≤ y := Int.le_trans (low.1 _ ha.1 ha.2) hc
      rcases relax_cases (rdK l c j).1 (rdK l c j).2 l[j] with ⟨e, h2⟩ | ⟨e, h2, h3⟩
      · rw [e]
        rcases h2 with h2 | h2
        · omega
        · show cAt (rdK l c j).1 l[j].b ≤ _; omega
      · rw [e]
        show cAt ((rdK l c j).1.set l[j].b.toNat _) l[j].b ≤ _
        rw [cAt_set low.2 hb hb, if_pos rfl]
        omega
/-- A round in which nothing turned. -/
theorem rdK_still (hg : goodRoads l = true) {c : List Int} : ∀ k, k ≤ l.length → (rdK l c k).2 = false → (rdK l c k).1 = c ∧ ∀ j (hj : j < l.length), j < k → cAt c l[j].a = Far ∨ cAt c l[j].b ≤ cAt c l[j].a + l[j].c
  | 0, _, _ => by rw [rdK, foldTo_zero]; exact ⟨rfl, fun j hj h => by omega⟩
  | k + 1, hk, h => by
    have hk2 : k < l.length := by omega
    rw [rdK_succ c hk2] at h ⊢
    rcases relax_cases (rdK l c k).1 (rdK l c k).2 l[k] with ⟨e, h2⟩ | ⟨e, h2, h3⟩
    · rw [e] at h ⊢
      obtain ⟨i1, i2⟩ := rdK_still hg k (by omega) h
      refine ⟨i1, fun j hj hjk => ?_⟩
      rcases Nat.lt_or_ge j k with hc | hc
      · exact i2 j hj hc
      · obtain rfl : j = k := by omega
        rw [i1] at h2; exact h2
    · rw [e] at h; cases h
/-- A round in which something turned: some cost fell to that of a way. -/
theorem rdK_turn (hg : goodRoads l = true) {N : Nat} {c : List Int} (hc : FromS l s N c) : ∀ k, k ≤ l.length → (rdK l c k).2 = true → ∃ v, (0 ≤ v ∧ v < 8) ∧ cAt (rdK l c k).1 v < cAt c v
  | 0, _, h => by rw [rdK, foldTo_zero] at h; cases h
  | k + 1, hk, h => by
    have hk2 : k < l.length := by omega
    have low := rdK_low hg hc.len k (by omega)
    obtain ⟨ha, hb, _⟩ := goodRoads_mem hg (List.getElem_mem hk2)
    rw [rdK_succ c hk2] at h ⊢
    have nx := relax_lower hg low.2 (rdK l c k).2 (List.getElem_mem hk2)
    rcases relax_cases (rdK l c k).1 (rdK l c k).2 l[k] with ⟨e, h2⟩ | ⟨e, h2, h3⟩
    · rw [e] at h ⊢
      exact rdK_turn hg hc k (by omega) h
    · refine ⟨l[k].b, hb, ?_⟩
      rw [e]
      show cAt ((rdK l c k).1.set l[k].b.toNat _) l[k].b < _
      rw [cAt_set low.2 hb hb, if_pos rfl]
      have := low.1 l[k].b hb.1 hb.2
      omega
/-- c knows of each way of at most j roads. -/
def Knows (l : List S3) (s : Int) (c : List Int) (j : Nat) : Prop := ∀ n, n ≤ j → ∀ v x, HasWay l s v n x → cAt c v ≤ x
theorem way_range (hg : goodRoads l = true) (hs : 0 ≤ s ∧ s < 8) : ∀ {n : Nat} {v x : Int}, HasWay l s v n x → 0 ≤ v ∧ v < 8
  | 0, v, x, h => by obtain ⟨rfl, _⟩ := h.zero; exact hs
  | n + 1, v, x, h => by
    obtain ⟨u, y, r, _, hr, _, hb, _⟩ := h.last
    rw [← hb]
    exact (goodRoads_mem hg hr).2.1
theorem way_cost (hg : goodRoads l = true) : ∀ {n : Nat} {s v x : Int}, HasWay l s v n x → -100 * (n : Int) ≤ x ∧ x ≤ 100 * (n : Int)
  | 0, s, v, x, h => by obtain ⟨_, rfl⟩ := h.zero; omega
  | n + 1, s, v, x, h => by
    obtain ⟨u, y, r, h1, hr, _, hb, rfl⟩ := h.last
    have := way_cost hg h1
    have := (goodRoads_mem hg hr).2.2.1
    omega
theorem Knows.next (hg : goodRoads l = true) (hs : 0 ≤ s ∧ s < 8) {c : List Int} (hl : c.length = 8) {j : Nat} (hj : j ≤ 1000) (h : Knows l s c j) : Knows l s (rdK l c l.length).1 (j + 1) := by
  intro n hn v x hw
  have low := rdK_low hg hl l.length (Nat.le_refl _)
  rcases Nat.lt_or_ge n (j + 1) with hc | hc
  · have := way_range hg hs hw
    exact Int.le_trans (low.1 v this.1 this.2) (h n (by omega) v x hw)
  · obtain rfl : n = j + 1 := by omega
    obtain ⟨u, y, r, h1, hr, ha, hb, rfl⟩ := hw.last
    obtain ⟨k, hk, rfl⟩ := List.getElem_of_mem hr
    have h2 := h j (Nat.le_refl _) u y h1
    have h3 := way_cost hg h1
    subst ha hb
    exact rdK_edge hg hl l.length (Nat.le_refl _) k hk hk y (by unfold Far; omega) h2
/-- The costs are the least ones: each is a way's, and no way is cheaper. -/
structure Least (l : List S3) (s : Int) (N : Nat) (c : List Int) : Prop where
  from' : FromS l s N c
  knows : ∀ n v x, HasWay l s v n x → cAt c v ≤ x
theorem Knows.all (hg : goodRoads l = true) {p : Int → Int} (hp : Feas l p) {c : List Int} {j : Nat} (hj : 7 ≤ j) (h : Knows l s c j) : ∀ n v x, HasWay l s v n x → cAt c v ≤ x := fun n v x hw => by
  obtain ⟨m, y, h1, h2, h3⟩ := HasWay.short hp (fun r hr => ⟨(goodRoads_mem hg hr).1, (goodRoads_mem hg hr).2.1⟩) n hw
  exact Int.le_trans (h m (by omega) v y h3) h2
/-- Nothing turns any more where the costs are the least. -/
theorem Least.still (hg : goodRoads l = true) {N : Nat} {c : List Int} (h : Least l s N c) : (rdK l c l.length).2 = false := by
  cases e : (rdK l c l.length).2 with
  | false => rfl
  | true =>
    obtain ⟨v, hv, hlt⟩ := rdK_turn hg h.from' l.length (Nat.le_refl _) e
    have hf := rdK_from hg h.from' l.length (Nat.le_refl _)
    rcases hf.way v hv.1 hv.2 with h1 | ⟨n, _, hw⟩
    · have := h.from'.hi v hv.1 hv.2; omega
    · have := h.knows n v _ hw; omega
/-- Where nothing turned, and the start is known, each way's cost is known. -/
theorem rest_knows (hg : goodRoads l = true) {p : Int → Int} (hp : Feas l p) {c : List Int} {j : Nat} (hk : Knows l s c j) (h2 : ∀ i (hi : i < l.length), i < l.length → cAt c l[i].a = Far ∨ cAt c l[i].b ≤ cAt c l[i].a + l[i].c) :
    ∀ n v x, HasWay l s v n x → cAt c v ≤ x := by
  have h7 : Knows l s c 7 := by
    intro n
    induction n with
    | zero => exact fun _ v x hw => hk 0 (Nat.zero_le _) v x hw
    | succ n ih =>
      intro hn v x hw
      obtain ⟨u, y, r, h3, hr, ha, hb, rfl⟩ := hw.last
      obtain ⟨k, hk3, rfl⟩ := List.getElem_of_mem hr
      have h4 := ih (by omega) u y h3
      have h5 := way_cost hg h3
      subst ha hb
      rcases h2 k hk3 hk3 with h8 | h8
      · unfold Far at h8; omega
      · omega
  exact h7.all hg hp (Nat.le_refl _)
/-- The rounds come to rest, at the least costs. -/
theorem settle_least (hg : goodRoads l = true) (hs : 0 ≤ s ∧ s < 8) {p : Int → Int} (hp : Feas l p) : ∀ (m j : Nat) (c : List Int), j + (m + 1) = 9 → FromS l s (20 * j) c → Knows l s c j → (settleM l (m + 1) c).2 = true ∧ Least l s 180 (settleM l (m + 1) c).1 := by
  intro m
  induction m with
  | zero =>
    intro j c hj hf hk
    obtain rfl : j = 8 := by omega
    have hL : Least l s (20 * 8) c := ⟨hf, hk.all hg hp (by omega)⟩
    have e := hL.still hg
    obtain ⟨h1, _⟩ := rdK_still hg l.length (Nat.le_refl _) e
    have e1 : (foldTo relax (c, false) l l.length).2 = false := e
    have e2 : (foldTo relax (c, false) l l.length).1 = c := h1
    simp only [settleM, e1, e2]
    exact ⟨trivial, ⟨⟨hf.len, hf.hi, fun v h0 h8 => (hf.way v h0 h8).imp_right fun ⟨n, hn, hw⟩ => ⟨n, by omega, hw⟩⟩, hL.knows⟩⟩
  | succ m ih =>
    intro j c hj hf hk
    cases e : (rdK l c l.length).2 with
    | false =>
      obtain ⟨h1, h2⟩ := rdK_still hg l.length (Nat.le_refl _) e
      have e1 : (foldTo relax (c, false) l l.length).2 = false := e
      have e2 : (foldTo relax (c, false) l l.length).1 = c := h1
      rw [settleM]
      simp only [e1, e2]
      exact ⟨trivial, ⟨⟨hf.len, hf.hi, fun v h0 h8 => (hf.way v h0 h8).imp_right fun ⟨n, hn, hw⟩ => ⟨n, by omega, hw⟩⟩, rest_knows hg hp hk h2⟩⟩
    | true =>
      have e1 : (foldTo relax (c, false) l l.length).2 = true := e
      have hf2 := rdK_from hg hf l.length (Nat.le_refl _)
      have hl := goodRoads_len hg
      rw [settleM]
      simp only [e1]
      refine ih (j + 1) _ (by omega) ⟨hf2.len, hf2.hi, fun v h0 h8 => (hf2.way v h0 h8).imp_right fun ⟨n, hn, hw⟩ => ⟨n, by omega, hw⟩⟩ (hk.next hg hs hf.len (by omega))
/-- From any start that bears itself: what the rounds leave at rest bears each road. -/
theorem settle_feas (hg : goodRoads l = true) : ∀ (m : Nat) (c : List Int), c.length = 8 → (settleM l m c).2 = true → ∀ r ∈ l, cAt (settleM l m c).1 r.a = Far ∨ cAt (settleM l m c).1 r.b ≤ cAt (settleM l m c).1 r.a + r.c
  | 0, c, _, h => by simp [settleM] at h
  | m + 1, c, hl, h => by
    have low := rdK_low hg hl l.length (Nat.le_refl _)
    cases e : (rdK l c l.length).2 with
    | false =>
      obtain ⟨h1, h2⟩ := rdK_still hg l.length (Nat.le_refl _) e
      have e1 : (foldTo relax (c, false) l l.length).2 = false := e
      have e2 : (foldTo relax (c, false) l l.length).1 = c := h1
      rw [settleM]
      simp only [e1, e2]
      intro r hr
      obtain ⟨k, hk, rfl⟩ := List.getElem_of_mem hr
      exact h2 k hk hk
    | true =>
      have e1 : (foldTo relax (c, false) l l.length).2 = true := e
      rw [settleM] at h ⊢
      simp only [e1] at h ⊢
      exact settle_feas hg m _ low.2 h
theorem settle_low (hg : goodRoads l = true) : ∀ (m : Nat) (c : List Int), c.length = 8 → Lower c (settleM l m c).1
  | 0, c, _ => .refl _
  | m + 1, c, hl => by
    have low := rdK_low hg hl l.length (Nat.le_refl _)
    rw [settleM]
    split
    · exact low.1.trans (settle_low hg m _ low.2)
    · exact low.1
end
/-! ### What the functions tell -/
theorem zeros_cAt (v : Int) : cAt zeros v = 0 := zeros_getD _
theorem pot_feas {l : List S3} (h : fine l = true) : Feas l (fun v => cAt (potOf l) v) ∧ ∀ v, 0 ≤ v → v < 8 → cAt (potOf l) v ≤ 0 := by
  have hg := fine_good h
  have h2 : (settleM l 9 zeros).2 = true := by simp [fine] at h; exact h.2
  have low := settle_low hg 9 zeros rfl
  rw [potOf_fine h]
  refine ⟨fun r hr => ?_, fun v h0 h8 => by have := low v h0 h8; rw [zeros_cAt] at this; exact this⟩
  obtain ⟨ha, _⟩ := goodRoads_mem hg hr
  rcases settle_feas hg 9 zeros rfl h2 r hr with h3 | h3
  · have := low r.a ha.1 ha.2
    rw [zeros_cAt] at this
    unfold Far at h3; omega
  · exact h3
end YtcljaokjjnmioaaAM
