/- An abstract heap over the kit's worlds: objects with literal names, each told by a list of abstract cells; the relation to a world, and how it lives through allocations and stores. -/
import Derived.Deep.AppendSrc
import Derived.Deep.MidRow
import Derived.Deep.Upon
import Derived.Orders
import Derived.Tactics
import Derived.Below
import Derived.Laws.MakeOwn
import Derived.OwnWalk
import Derived.Deep.OwnRows
set_option linter.unusedVariables false
set_option linter.unusedSimpArgs false
namespace YtofjbgpaofcpjaaAM
open Go

/-- A place among abstract objects: element 'idx' (of 'esz' cells each), cell 'fld' in it, of row 'row' of object 'id'. -/
structure AAddr where
  id : Nat
  row : Nat
  idx : Nat
  esz : Nat
  fld : Nat

/-- Two and three whole numbers; a number, a bool, a number: the structs that elements are. -/
structure S2 where
  a : Int
  b : Int
  deriving DecidableEq
structure S3 where
  a : Int
  b : Int
  c : Int
  deriving DecidableEq
structure Hop where
  a : Int
  b : Bool
  c : Int
  deriving DecidableEq

/-- Arrays that are values. -/
inductive Vec where
  | ints (l : List Int)
  | bools (l : List Bool)
  | hops (l : List Hop)

/-- Abstract values. -/
inductive AV where
  | undef
  | int (k : IntKind) (n : Int)
  | bool (b : Bool)
  | ptr (a : AAddr)
  | slice (a : AAddr) (len : Nat)
  | cslice (a : AAddr) (len cap : Nat)
  | nilS
  | nilF
  | agg (vs : List AV)
  | vec (x : Vec)
  | tuple (vs : List AV)
  | func (f : FuncId) (cap : List AV)

def AV.scalar : AV → Bool
  | .int .. | .bool _ | .nilS | .nilF | .undef => true
  | _ => false

mutual
def AV.bd (N : Nat) : AV → Bool
  | .ptr a | .slice a _ | .cslice a _ _ => Nat.blt a.id N
  | .agg vs | .tuple vs | .func _ vs => AV.bdL N vs
  | _ => true
def AV.bdL (N : Nat) : List AV → Bool
  | [] => true
  | v :: r => AV.bd N v && AV.bdL N r
end

theorem AV.bd_scalar {N : Nat} {v : AV} (h : v.scalar = true) : v.bd N = true := by
  cases v <;> simp_all [AV.scalar, AV.bd]

theorem AV.bdL_iff {N : Nat} {vs : List AV} : AV.bdL N vs = true ↔ ∀ v ∈ vs, v.bd N = true := by
  induction vs with
  | nil => simp [AV.bdL]
  | cons v r ih => simp [AV.bdL, ih]

def Vec.cells : Vec → List AV
  | .ints l => l.map (.int .i64)
  | .bools l => l.map .bool
  | .hops l => l.flatMap fun x => [.int .i64 x.a, .bool x.b, .int .i64 x.c]
theorem Vec.scalar {x : Vec} {v : AV} (h : v ∈ x.cells) : v.scalar = true := by
  cases x <;> simp only [Vec.cells, List.mem_map, List.mem_flatMap] at h
  · obtain ⟨y, _, rfl⟩ := h; rfl
  · obtain ⟨y, _, rfl⟩ := h; rfl
  · obtain ⟨y, _, h⟩ := h
    simp only [List.mem_cons, List.not_mem_nil, or_false] at h
    rcases h with rfl | rfl | rfl <;> rfl
theorem Vec.bd (x : Vec) (N : Nat) : (AV.agg x.cells).bd N = true := by
  simp only [AV.bd, AV.bdL_iff]
  exact fun v h => AV.bd_scalar (Vec.scalar h)

/-- Where a row lies: its block, its first cell, how many cells it may take. -/
structure Place where
  block : Nat
  off : Nat
  room : Nat

abbrev Ren := Nat → Nat → Place

def Place.addr (p : Place) (k : Nat) : Addr := ⟨p.block, p.off + k, none⟩
def AAddr.cell (a : AAddr) : Nat := a.idx * a.esz + a.fld
def AAddr.at (a : AAddr) (ρ : Ren) : Addr := (ρ a.id a.row).addr a.cell

theorem Place.addr_block (p : Place) (k : Nat) : (p.addr k).block = p.block := rfl

inductive VRel (ρ : Ren) (N : Nat) : AV → Value → Prop
  | undef (v : Value) : VRel ρ N .undef v
  | int (k : IntKind) (n : Int) : VRel ρ N (.int k n) (.int k n)
  | bool (b : Bool) : VRel ρ N (.bool b) (.bool b)
  | ptr (a : AAddr) (h : a.id < N) : VRel ρ N (.ptr a) (.pointer (some (a.at ρ)))
  | slice (a : AAddr) (len : Nat) (p : Option Addr) (cap : Nat) (h : a.id < N) (hl : len ≤ cap)
      (hc : cap = 0 ∨ (p = some (a.at ρ) ∧ a.cell + cap * a.esz ≤ (ρ a.id a.row).room)) : VRel ρ N (.slice a len) (.slice p len cap)
  | cslice (a : AAddr) (len : Nat) (p : Option Addr) (cap : Nat) (h : a.id < N) (hl : len ≤ cap)
      (hc : len = 0 ∨ p = some (a.at ρ)) : VRel ρ N (.cslice a len cap) (.slice p len cap)
  | nilS : VRel ρ N .nilS (.slice none 0 0)
  | nilF : VRel ρ N .nilF .nilFunc
  | agg (vs : List AV) (ws : Array Value) (hl : vs.length = ws.size)
      (h : ∀ (i : Nat) (a : AV) (v : Value), vs[i]? = some a → ws[i]? = some v → VRel ρ N a v) : VRel ρ N (.agg vs) (.agg ws)
  | vec (x : Vec) (v : Value) (h : VRel ρ N (.agg x.cells) v) : VRel ρ N (.vec x) v
  | tuple (vs : List AV) (ws : Array Value) (hl : vs.length = ws.size)
      (h : ∀ (i : Nat) (a : AV) (v : Value), vs[i]? = some a → ws[i]? = some v → VRel ρ N a v) : VRel ρ N (.tuple vs) (.tuple ws)
  | func (f : FuncId) (vs : List AV) (ws : Array Value) (hl : vs.length = ws.size)
      (h : ∀ (i : Nat) (a : AV) (v : Value), vs[i]? = some a → ws[i]? = some v → VRel ρ N a v) : VRel ρ N (.func f vs) (.func (.func f) #[] ws)

/-- Names below N mean the same. -/
def Agree (N : Nat) (ρ ρ' : Ren) : Prop := ∀ id, id < N → ∀ r, ρ' id r = ρ id r

theorem Agree.refl (N : Nat) (ρ : Ren) : Agree N ρ ρ := fun _ _ _ => rfl
theorem Agree.trans {N : Nat} {a b c : Ren} (h : Agree N a b) (k : Agree N b c) : Agree N a c := fun id hi r => (k id hi r).trans (h id hi r)
theorem Agree.mono {N M : Nat} {a b : Ren} (h : Agree N a b) (hm : M ≤ N) : Agree M a b := fun id hi r => h id (Nat.lt_of_lt_of_le hi hm) r

theorem AAddr.at_agree {N : Nat} {ρ ρ' : Ren} (h : Agree N ρ ρ') {a : AAddr} (ha : a.id < N) : a.at ρ' = a.at ρ := by
  unfold AAddr.at; rw [h _ ha]

theorem VRel.mono {ρ ρ' : Ren} {N N' : Nat} (hA : Agree N ρ ρ') (hN : N ≤ N') {a : AV} {v : Value} (h : VRel ρ N a v) : VRel ρ' N' a v := by
  induction h with
  | undef v => exact .undef v
  | int k n => exact .int k n
  | bool b => exact .bool b
  | ptr a h => rw [← AAddr.at_agree hA h]; exact .ptr a (by omega)
  | slice a len p cap h hl hc => exact .slice a len p cap (by omega) hl (by rw [AAddr.at_agree hA h, hA _ h]; exact hc)
  | cslice a len p cap h hl hc => exact .cslice a len p cap (by omega) hl (by rw [AAddr.at_agree hA h]; exact hc)
  | nilS => exact .nilS
  | nilF => exact .nilF
  | agg vs ws hl h ih => exact .agg vs ws hl ih
  | vec x v h ih => exact .vec x v ih
  | tuple vs ws hl h ih => exact .tuple vs ws hl ih
  | func f vs ws hl h ih => exact .func f vs ws hl ih

/-- What names only objects below M may be read there. -/
theorem VRel.narrow {ρ : Ren} {N M : Nat} {a : AV} {v : Value} (h : VRel ρ N a v) (hb : a.bd M = true) : VRel ρ M a v := by
  induction h with
  | undef v => exact .undef v
  | int k n => exact .int k n
  | bool b => exact .bool b
  | ptr a h => exact .ptr a (by simpa [AV.bd] using hb)
  | slice a len p cap h hl hc => exact .slice a len p cap (by simpa [AV.bd] using hb) hl hc
  | cslice a len p cap h hl hc => exact .cslice a len p cap (by simpa [AV.bd] using hb) hl hc
  | nilS => exact .nilS
  | nilF => exact .nilF
  | vec x v h ih => exact .vec x v (ih (Vec.bd x M))
  | agg vs ws hl h ih => exact .agg vs ws hl fun i a v ha hv => ih i a v ha hv (AV.bdL_iff.1 (by simpa [AV.bd] using hb) _ (List.mem_of_getElem? ha))
  | tuple vs ws hl h ih => exact .tuple vs ws hl fun i a v ha hv => ih i a v ha hv (AV.bdL_iff.1 (by simpa [AV.bd] using hb) _ (List.mem_of_getElem? ha))
  | func f vs ws hl h ih => exact .func f vs ws hl fun i a v ha hv => ih i a v ha hv (AV.bdL_iff.1 (by simpa [AV.bd] using hb) _ (List.mem_of_getElem? ha))

/-- The kinds of elements. -/
inductive Ty where
  | int
  | bool
  | byte
  | s2
  | s3
  | hop
  | raw (n : Nat)
  deriving DecidableEq

@[reducible] def Ty.El : Ty → Type
  | .int => Int
  | .bool => Bool
  | .byte => Int
  | .s2 => S2
  | .s3 => S3
  | .hop => Hop
  | .raw _ => List AV

@[reducible] def Ty.n : Ty → Nat
  | .int => 1
  | .bool => 1
  | .byte => 1
  | .s2 => 2
  | .s3 => 3
  | .hop => 3
  | .raw n => n

def Ty.enc : (τ : Ty) → τ.El → List AV
  | .int, x => [.int .i64 x]
  | .bool, x => [.bool x]
  | .byte, x => [.int .u8 x]
  | .s2, x => [.int .i64 x.a, .int .i64 x.b]
  | .s3, x => [.int .i64 x.a, .int .i64 x.b, .int .i64 x.c]
  | .hop, x => [.int .i64 x.a, .bool x.b, .int .i64 x.c]
  | .raw _, x => x

def Ty.d : (τ : Ty) → τ.El
  | .int => (0 : Int)
  | .bool => false
  | .byte => (0 : Int)
  | .s2 => ⟨0, 0⟩
  | .s3 => ⟨0, 0, 0⟩
  | .hop => ⟨0, false, 0⟩
  | .raw _ => []

def Ty.dec : (τ : Ty) → List AV → τ.El
  | .int, [.int _ x] => x
  | .bool, [.bool x] => x
  | .byte, [.int _ x] => x
  | .s2, [.int _ x, .int _ y] => ⟨x, y⟩
  | .s3, [.int _ x, .int _ y, .int _ z] => ⟨x, y, z⟩
  | .hop, [.int _ x, .bool y, .int _ z] => ⟨x, y, z⟩
  | .raw _, l => l
  | τ, _ => τ.d

inductive AObj where
  | dead
  | arr (ro : Bool) (τ : Ty) (l : List τ.El)
  | rows (ro : Bool) (ll : List (List Int))

def AObj.ro : AObj → Bool
  | .dead => true
  | .arr ro _ _ => ro
  | .rows ro _ => ro

def hdrs (id : Nat) : Nat → List (List Int) → List AV
  | _, [] => []
  | i, r :: rs => .slice ⟨id, i + 1, 0, 1, 0⟩ r.length :: hdrs id (i + 1) rs

def ints (k : IntKind) (l : List Int) : List AV := l.map (.int k)

/-- The rows of an object: each a list of abstract cells. -/
def AObj.row (id : Nat) : AObj → Nat → Option (List AV)
  | .dead, _ => none
  | .arr _ τ l, r => if r = 0 then some (l.flatMap τ.enc) else none
  | .rows _ ll, r => if r = 0 then some (hdrs id 0 ll) else (ll[r - 1]?).map (ints .i64)

def AObj.wf : AObj → Prop
  | .arr _ τ l => ∀ x ∈ l, (τ.enc x).length = τ.n
  | _ => True

def Own (w : World) (p : Place) : Prop := ∀ k, k < p.room → (w.cell? (p.addr k)).isSome = true ∧ w.frozen? (p.addr k) = false

structure RowH (ρ : Ren) (N : Nat) (w : World) (p : Place) (ro : Bool) (cs : List AV) : Prop where
  fits : cs.length ≤ p.room
  there : 0 < p.room → p.block < w.heap.size
  own : ro = false → Own w p
  cell : ∀ (k : Nat) (c : AV), cs[k]? = some c → ∃ v, w.cell? (p.addr k) = some v ∧ VRel ρ N c v ∧ v.oneCell' = true

structure HSim (ρ : Ren) (H : List AObj) (w : World) : Prop where
  wf : ∀ (id : Nat) (o : AObj), H[id]? = some o → o.wf
  row : ∀ (id : Nat) (o : AObj) (r : Nat) (cs : List AV), H[id]? = some o → o.row id r = some cs → RowH ρ H.length w (ρ id r) o.ro cs
  apart : ∀ (id : Nat) (o : AObj) (r : Nat) (id' : Nat) (o' : AObj) (r' : Nat), H[id]? = some o → H[id']? = some o' → (o.row id r).isSome = true → (o'.row id' r').isSome = true →
    o.ro = false → (id, r) ≠ (id', r') → 0 < (ρ id r).room → 0 < (ρ id' r').room → (ρ id r).block ≠ (ρ id' r').block

/-! ### Elements and cells -/
theorem flat_get {α : Type} {n : Nat} (f : α → List AV) (hn : 0 < n) : ∀ (l : List α), (∀ x ∈ l, (f x).length = n) → ∀ q : Nat, (l.flatMap f)[q]? = (l[q / n]?).bind fun x => (f x)[q % n]?
  | [], _, q => by simp
  | x :: l, h, q => by
    have hx : (f x).length = n := h x (by simp)
    have ih := flat_get f hn l (fun y hy => h y (by simp [hy]))
    rw [List.flatMap_cons]
    rcases Nat.lt_or_ge q n with hq | hq
    · rw [List.getElem?_append_left (by omega), Nat.div_eq_of_lt hq, Nat.mod_eq_of_lt hq]; simp
    · rw [List.getElem?_append_right (by omega), hx, ih]
      have h1 : q / n = (q - n) / n + 1 := by rw [Nat.div_eq_sub_div hn hq]
      have h2 : q % n = (q - n) % n := by rw [Nat.mod_eq_sub_mod hq]
      rw [h1, h2]; simp

theorem flat_length {α : Type} {n : Nat} (f : α → List AV) : ∀ (l : List α), (∀ x ∈ l, (f x).length = n) → (l.flatMap f).length = l.length * n
  | [], _ => by simp
  | x :: l, h => by
    rw [List.flatMap_cons, List.length_append, h x (by simp), flat_length f l (fun y hy => h y (by simp [hy])), List.length_cons, Nat.succ_mul]; omega

theorem flat_at {α : Type} {n : Nat} (f : α → List AV) {l : List α} (h : ∀ x ∈ l, (f x).length = n) {i k : Nat} {x : α} (hi : l[i]? = some x) (hk : k < n) : (l.flatMap f)[i * n + k]? = (f x)[k]? := by
  rw [flat_get f (by omega) l h, show (i * n + k) / n = i from by rw [Nat.mul_comm, Nat.mul_add_div (by omega), Nat.div_eq_of_lt hk]; omega,
    show (i * n + k) % n = k from by rw [Nat.mul_comm, Nat.mul_add_mod, Nat.mod_eq_of_lt hk], hi]
  rfl

/-! ### Worlds -/
/-- What was there reads as before. -/
structure Keeps (w w' : World) : Prop where
  size : w.heap.size ≤ w'.heap.size
  cell : ∀ a : Addr, a.block < w.heap.size → w'.cell? a = w.cell? a
  frozen : ∀ a : Addr, a.block < w.heap.size → w'.frozen? a = w.frozen? a

theorem Keeps.refl (w : World) : Keeps w w := ⟨Nat.le_refl _, fun _ _ => rfl, fun _ _ => rfl⟩
theorem Keeps.trans {a b c : World} (h : Keeps a b) (k : Keeps b c) : Keeps a c :=
  ⟨Nat.le_trans h.size k.size, fun x hx => (k.cell x (Nat.lt_of_lt_of_le hx h.size)).trans (h.cell x hx), fun x hx => (k.frozen x (Nat.lt_of_lt_of_le hx h.size)).trans (h.frozen x hx)⟩
theorem Keeps.drew (w : World) : Keeps w w.drew := ⟨Nat.le_refl _, fun _ _ => rfl, fun _ _ => rfl⟩
theorem Keeps.alloc (w : World) (o : Obj) : Keeps w (w.alloc o) :=
  ⟨by simp, fun a ha => World.cell?_alloc_lt w o a ha, fun a ha => World.frozen?_alloc_old w o a (by omega)⟩

theorem cell_lt {w : World} {a : Addr} (h : (w.cell? a).isSome = true) : a.block < w.heap.size := by
  obtain ⟨u, hu⟩ := Option.isSome_iff_exists.1 h
  exact World.block_lt_of_cell? w a hu

theorem Own.keeps {w w' : World} {p : Place} (h : Own w p) (k : Keeps w w') : Own w' p := fun j hj => by
  have hb := cell_lt (h j hj).1
  rw [k.cell _ hb, k.frozen _ hb]
  exact h j hj

theorem RowH.keeps {ρ ρ' : Ren} {N N' : Nat} {w w' : World} {p : Place} {ro : Bool} {cs : List AV} (h : RowH ρ N w p ro cs) (k : Keeps w w') (hA : Agree N ρ ρ') (hN : N ≤ N') : RowH ρ' N' w' p ro cs where
  fits := h.fits
  there hr := Nat.lt_of_lt_of_le (h.there hr) k.size
  own hr := (h.own hr).keeps k
  cell j c hc := by
    obtain ⟨v, hv, hr, h1⟩ := h.cell j c hc
    exact ⟨v, by rw [k.cell _ (World.block_lt_of_cell? w _ hv)]; exact hv, hr.mono hA hN, h1⟩

theorem HSim.keeps {ρ : Ren} {H : List AObj} {w w' : World} (h : HSim ρ H w) (k : Keeps w w') : HSim ρ H w' :=
  ⟨h.wf, fun id o r cs ho hr => (h.row id o r cs ho hr).keeps k (.refl _ _) (Nat.le_refl _), h.apart⟩

/-! ### A new object -/
def Ren.put (ρ : Ren) (N : Nat) (f : Nat → Place) : Ren := fun id r => if id = N then f r else ρ id r
theorem Ren.put_agree (ρ : Ren) (N : Nat) (f : Nat → Place) : Agree N ρ (ρ.put N f) := fun id hi r => by simp [Ren.put, Nat.ne_of_lt hi]
theorem Ren.put_same (ρ : Ren) (N : Nat) (f : Nat → Place) (r : Nat) : ρ.put N f N r = f r := by simp [Ren.put]
theorem Ren.put_lt {ρ : Ren} {N id : Nat} (f : Nat → Place) (h : id < N) (r : Nat) : ρ.put N f id r = ρ id r := by simp [Ren.put, Nat.ne_of_lt h]

theorem snoc_get {α : Type} {H : List α} {o x : α} {id : Nat} (h : (H ++ [o])[id]? = some x) : (id < H.length ∧ H[id]? = some x) ∨ (id = H.length ∧ x = o) := by
  rcases Nat.lt_trichotomy id H.length with hl | hl | hl
  · rw [List.getElem?_append_left hl] at h; exact .inl ⟨hl, h⟩
  · subst hl; simp at h; exact .inr ⟨rfl, h.symm⟩
  · rw [List.getElem?_append_right (by omega)] at h
    rw [List.getElem?_eq_none (by simp; omega)] at h; cases h

/-- The general law of a new object: its rows lie apart from all else. -/
theorem HSim.snoc {ρ : Ren} {H : List AObj} {w w' : World} (h : HSim ρ H w) (k : Keeps w w') (o : AObj) (f : Nat → Place) (hwf : o.wf)
    (hrow : ∀ r cs, o.row H.length r = some cs → RowH (ρ.put H.length f) (H.length + 1) w' (f r) o.ro cs)
    (hin : ∀ r r', (o.row H.length r).isSome = true → (o.row H.length r').isSome = true → o.ro = false → r ≠ r' → 0 < (f r).room → 0 < (f r').room → (f r).block ≠ (f r').block)
    (hout : ∀ id o' r r', H[id]? = some o' → (o'.row id r').isSome = true → (o.row H.length r).isSome = true → (o.ro = false ∨ o'.ro = false) → 0 < (f r).room → 0 < (ρ id r').room → (f r).block ≠ (ρ id r').block) :
    HSim (ρ.put H.length f) (H ++ [o]) w' where
  wf id x hx := by
    rcases snoc_get hx with ⟨_, hx⟩ | ⟨_, rfl⟩
    · exact h.wf id x hx
    · exact hwf
  row id x r cs hx hr := by
    rw [List.length_append, List.length_singleton]
    rcases snoc_get hx with ⟨hl, hx⟩ | ⟨rfl, rfl⟩
    · rw [Ren.put_lt f hl]; exact (h.row id x r cs hx hr).keeps k (Ren.put_agree ρ _ f) (by omega)
    · rw [Ren.put_same]; exact hrow r cs hr
  apart id x r id' x' r' hx hx' hr hr' hro hne h0 h0' := by
    rcases snoc_get hx with ⟨hl, hx1⟩ | ⟨rfl, rfl⟩ <;> rcases snoc_get hx' with ⟨hl', hx1'⟩ | ⟨rfl, rfl⟩
    · rw [Ren.put_lt f hl] at h0 ⊢; rw [Ren.put_lt f hl'] at h0' ⊢; exact h.apart id x r id' x' r' hx1 hx1' hr hr' hro hne h0 h0'
    · rw [Ren.put_lt f hl] at h0 ⊢; rw [Ren.put_same] at h0' ⊢; exact (hout id x r' r hx1 hr hr' (.inr hro) h0' h0).symm
    · rw [Ren.put_lt f hl'] at h0' ⊢; rw [Ren.put_same] at h0 ⊢; exact hout id' x' r r' hx1' hr' hr (.inl hro) h0 h0'
    · rw [Ren.put_same] at h0 h0' ⊢; rw [Ren.put_same]; exact hin r r' hr hr' hro (fun e => hne (by rw [e])) h0 h0'

/-- A row's block is there. -/
theorem HSim.block_lt {ρ : Ren} {H : List AObj} {w : World} (h : HSim ρ H w) {id : Nat} {o : AObj} {r : Nat} (ho : H[id]? = some o) (hr : (o.row id r).isSome = true) (h0 : 0 < (ρ id r).room) : (ρ id r).block < w.heap.size := by
  obtain ⟨cs, hcs⟩ := Option.isSome_iff_exists.1 hr
  exact (h.row id o r cs ho hcs).there h0

/-- A new block for a new object of one row. -/
theorem HSim.alloc {ρ : Ren} {H : List AObj} {w : World} (h : HSim ρ H w) (o : AObj) (cs : List AV) (c : Array Value) (t : TypeId) (hwf : o.wf) (h0 : o.row H.length 0 = some cs) (h1 : ∀ r, r ≠ 0 → o.row H.length r = none)
    (hlen : cs.length ≤ c.size) (hrel : ∀ (k : Nat) (a : AV), cs[k]? = some a → ∃ v, c[k]? = some v ∧ VRel ρ H.length a v ∧ v.oneCell' = true) :
    HSim (ρ.put H.length fun _ => ⟨w.heap.size, 0, c.size⟩) (H ++ [o]) (w.alloc (.cells c t)) := by
  have hcell : ∀ k, (w.alloc (.cells c t)).cell? (Place.addr ⟨w.heap.size, 0, c.size⟩ k) = c[k]? := fun k => by
    simp [Place.addr]
  have hz : ∀ r, (o.row H.length r).isSome = true → r = 0 := fun r hr => by
    rcases Nat.eq_zero_or_pos r with e | e
    · exact e
    · rw [h1 r (by omega)] at hr; cases hr
  refine h.snoc (Keeps.alloc w _) o _ hwf (fun r cs' hr => ?_) (fun r r' hr hr' _ hne => absurd ((hz r hr).trans (hz r' hr').symm) hne) (fun id o' r r' ho' hr' hr _ _ h0' => ?_)
  · obtain rfl : r = 0 := hz r (by rw [hr]; rfl)
    rw [h0] at hr; cases hr
    refine ⟨hlen, fun _ => by simp, fun _ k hk => ?_, fun k a ha => ?_⟩
    · rw [hcell]
      exact ⟨by simp at hk; simp [hk], by simp [Place.addr]⟩
    · obtain ⟨v, hv, hr, h1⟩ := hrel k a ha
      exact ⟨v, by rw [hcell]; exact hv, hr.mono (Ren.put_agree ρ _ _) (by omega), h1⟩
  · have := h.block_lt ho' hr' h0'
    show w.heap.size ≠ _
    omega

/-- A new object that takes no memory. -/
theorem HSim.ghost {ρ : Ren} {H : List AObj} {w : World} (h : HSim ρ H w) (o : AObj) (hwf : o.wf) (h0 : ∀ r cs, o.row H.length r = some cs → cs = []) :
    HSim (ρ.put H.length fun _ => ⟨0, 0, 0⟩) (H ++ [o]) w := by
  refine h.snoc (Keeps.refl w) o _ hwf (fun r cs hr => ?_) (fun r r' _ _ _ _ h => absurd h (by simp)) (fun id o' r r' _ _ _ _ h => absurd h (by simp))
  obtain rfl := h0 r cs hr
  exact ⟨by simp, fun h => absurd h (by simp), fun _ k hk => absurd hk (by simp), fun k c hc => by simp at hc⟩

/-! ### What is given up -/
def AObj.asRo : AObj → AObj
  | .dead => .dead
  | .arr _ τ l => .arr true τ l
  | .rows _ ll => .rows true ll
def AObj.bd (N : Nat) (id : Nat) (o : AObj) : Prop := ∀ r cs, o.row id r = some cs → ∀ c ∈ cs, c.bd N = true
/-- o' tells no more than o. -/
def AObj.le (o' o : AObj) : Prop := o' = .dead ∨ o' = o ∨ o' = o.asRo

theorem AObj.row_asRo (o : AObj) (id r : Nat) : o.asRo.row id r = o.row id r := by cases o <;> rfl
theorem AObj.ro_asRo (o : AObj) : o.asRo.ro = true := by cases o <;> rfl
theorem AObj.le_row {o' o : AObj} (h : o'.le o) {id r : Nat} {cs : List AV} (hr : o'.row id r = some cs) : o.row id r = some cs ∧ (o'.ro = false → o.ro = false) := by
  rcases h with rfl | rfl | rfl
  · simp [AObj.row] at hr
  · exact ⟨hr, fun e => e⟩
  · exact ⟨by rw [← AObj.row_asRo]; exact hr, fun h => by rw [AObj.ro_asRo] at h; cases h⟩
theorem AObj.le_wf {o' o : AObj} (h : o'.le o) (hw : o.wf) : o'.wf := by
  rcases h with rfl | rfl | rfl
  · trivial
  · exact hw
  · cases o <;> simp_all [AObj.asRo, AObj.wf]
theorem AObj.le_refl (o : AObj) : o.le o := .inr (.inl rfl)

theorem HSim.weaken {ρ : Ren} {H H' : List AObj} {w : World} (h : HSim ρ H w) (hle : ∀ (id : Nat) (o' : AObj), H'[id]? = some o' → o' = .dead ∨ ∃ o, H[id]? = some o ∧ o'.le o ∧ o'.bd H'.length id) : HSim ρ H' w := by
  have key : ∀ (id : Nat) (o' : AObj) (r : Nat) (cs : List AV), H'[id]? = some o' → o'.row id r = some cs → ∃ o, H[id]? = some o ∧ o.row id r = some cs ∧ (o'.ro = false → o.ro = false) ∧ o'.bd H'.length id := fun id o' r cs ho hr => by
    rcases hle id o' ho with rfl | ⟨o, h1, h2, h3⟩
    · simp [AObj.row] at hr
    · exact ⟨o, h1, (AObj.le_row h2 hr).1, (AObj.le_row h2 hr).2, h3⟩
  refine ⟨fun id o' ho => ?_, fun id o' r cs ho hr => ?_, fun id o' r id' o'' r' ho ho' hr hr' hro hne h0 h0' => ?_⟩
  · rcases hle id o' ho with rfl | ⟨o, h1, h2, _⟩
    · trivial
    · exact AObj.le_wf h2 (h.wf id o h1)
  · obtain ⟨o, h1, h2, h3, h4⟩ := key id o' r cs ho hr
    have hH := h.row id o r cs h1 h2
    refine ⟨hH.fits, hH.there, fun e => hH.own (h3 e), fun k c hc => ?_⟩
    obtain ⟨v, hv, hr', h1'⟩ := hH.cell k c hc
    exact ⟨v, hv, hr'.narrow (h4 r cs hr c (List.mem_of_getElem? hc)), h1'⟩
  · obtain ⟨cs, hcs⟩ := Option.isSome_iff_exists.1 hr
    obtain ⟨cs', hcs'⟩ := Option.isSome_iff_exists.1 hr'
    obtain ⟨o, h1, h2, h3, _⟩ := key id o' r cs ho hcs
    obtain ⟨oo, h1', h2', h3', _⟩ := key id' o'' r' cs' ho' hcs'
    exact h.apart id o r id' oo r' h1 h1' (by rw [h2]; rfl) (by rw [h2']; rfl) (h3 hro) hne h0 h0'

/-! ### A store -/
theorem size_setCells (b : Nat) : ∀ (vs : List Value) (o : Nat) (w : World), (w.setCells b o vs).heap.size = w.heap.size
  | [], _, _ => rfl
  | v :: vs, o, w => by rw [World.setCells, size_setCells b vs]; simp

/-- The cells of one row that may be written turn; nothing else does. -/
theorem HSim.store {ρ : Ren} {H : List AObj} {w : World} (h : HSim ρ H w) {id : Nat} {o o' : AObj} {r : Nat} {cs cs' : List AV} (ho : H[id]? = some o) (hr : o.row id r = some cs) (hro : o.ro = false)
    (hwf : o'.wf) (hro' : o'.ro = false) (hr' : o'.row id r = some cs') (hother : ∀ r', r' ≠ r → o'.row id r' = o.row id r') (hlen : cs'.length = cs.length)
    (k : Nat) (vs : List Value) (hk : k + vs.length ≤ cs.length) (hout : ∀ j, j < k ∨ k + vs.length ≤ j → cs'[j]? = cs[j]?)
    (hin : ∀ (j : Nat) (c : AV), j < vs.length → cs'[k + j]? = some c → ∃ v, vs[j]? = some v ∧ VRel ρ H.length c v ∧ v.oneCell' = true) :
    HSim ρ (H.set id o') (w.setCells (ρ id r).block ((ρ id r).off + k) vs) := by
  have hH := h.row id o r cs ho hr
  have hown := hH.own hro
  have hfits := hH.fits
  generalize hp : ρ id r = p at *
  have hsz : (w.setCells p.block (p.off + k) vs).heap.size = w.heap.size := size_setCells ..
  have hfz : ∀ x : Addr, (w.setCells p.block (p.off + k) vs).frozen? x = w.frozen? x := World.frozen?_setCells p.block vs (p.off + k) w
  have hoth : ∀ x : Addr, x.block ≠ p.block → (w.setCells p.block (p.off + k) vs).cell? x = w.cell? x := fun x hx =>
    World.cell?_setCells_out p.block vs (p.off + k) w x (fun e _ => absurd e hx)
  have hsome : ∀ x : Addr, (w.cell? x).isSome = true → ((w.setCells p.block (p.off + k) vs).cell? x).isSome = true := World.isSome_setCells p.block vs (p.off + k) w
  have hownk : ∀ q : Place, Own w q → Own (w.setCells p.block (p.off + k) vs) q := fun q hq j hj => ⟨hsome _ (hq j hj).1, by rw [hfz]; exact (hq j hj).2⟩
  have hset : ∀ (j : Nat) (x : AObj), (H.set id o')[j]? = some x → (j = id ∧ x = o') ∨ (j ≠ id ∧ H[j]? = some x) := fun j x hx => by
    rw [List.getElem?_set] at hx
    by_cases e : id = j
    · rw [if_pos e] at hx
      split at hx
      · exact .inl ⟨e.symm, (Option.some.inj hx).symm⟩
      · cases hx
    · rw [if_neg e] at hx; exact .inr ⟨fun h => e h.symm, hx⟩
  -- a row elsewhere
  have hrest : ∀ (j : Nat) (x : AObj) (q : Nat) (cx : List AV), H[j]? = some x → x.row j q = some cx → (j, q) ≠ (id, r) → RowH ρ H.length (w.setCells p.block (p.off + k) vs) (ρ j q) x.ro cx := fun j x q cx hx hq hne => by
    have hX := h.row j x q cx hx hq
    refine ⟨hX.fits, fun e => by rw [hsz]; exact hX.there e, fun e => hownk _ (hX.own e), fun i c hc => ?_⟩
    obtain ⟨v, hv, hr1, h1⟩ := hX.cell i c hc
    refine ⟨v, ?_, hr1, h1⟩
    have h0 : 0 < (ρ j q).room := by have := (List.getElem?_eq_some_iff.1 hc).1; have := hX.fits; omega
    rcases Nat.eq_zero_or_pos vs.length with e | e
    · obtain rfl := List.eq_nil_of_length_eq_zero e
      exact hv
    · have hb := h.apart id o r j x q ho hx (by rw [hr]; rfl) (by rw [hq]; rfl) hro (fun e => hne e.symm) (by rw [hp]; omega) h0
      rw [hp] at hb
      rw [hoth _ (by rw [Place.addr_block]; exact fun e => hb e.symm)]; exact hv
  refine ⟨fun j x hx => ?_, fun j x q cx hx hq => ?_, fun j x q j' x' q' hx hx' hq hq' hxro hne h0 h0' => ?_⟩
  · rcases hset j x hx with ⟨rfl, rfl⟩ | ⟨_, hx⟩
    · exact hwf
    · exact h.wf j x hx
  · rw [List.length_set]
    rcases hset j x hx with ⟨rfl, rfl⟩ | ⟨hj, hx⟩
    · by_cases e : q = r
      · subst e
        rw [hr'] at hq; cases hq
        rw [hp]
        refine ⟨by omega, fun e => by rw [hsz]; exact hH.there e, fun _ => hownk _ hown, fun i c hc => ?_⟩
        have hi : i < cs.length := by have := (List.getElem?_eq_some_iff.1 hc).1; omega
        by_cases hb : i < k ∨ k + vs.length ≤ i
        · rw [hout i hb] at hc
          obtain ⟨v, hv, hr1, h1⟩ := hH.cell i c hc
          refine ⟨v, ?_, hr1, h1⟩
          rw [World.cell?_setCells_out p.block vs (p.off + k) w _ (fun _ _ => by simp only [Place.addr]; omega)]; exact hv
        · obtain ⟨v, hv, hr1, h1⟩ := hin (i - k) c (by omega) (by rw [show k + (i - k) = i by omega]; exact hc)
          refine ⟨v, ?_, hr1, h1⟩
          have hlt : i - k < vs.length := by omega
          have hget := World.cell?_setCells_in p.block vs (p.off + k) w (fun j hj => by
            have := (hown (k + j) (by omega)).1
            simpa [Place.addr, Nat.add_assoc] using this) (i - k) hlt
          rw [List.getElem?_eq_getElem hlt] at hv
          rw [show p.addr i = ⟨p.block, p.off + k + (i - k), none⟩ by simp only [Place.addr]; congr 1; omega, hget]; exact hv
      · rw [hother q e] at hq
        rw [hro', ← hro]
        exact hrest j o q cx ho hq (fun e' => e (by simpa using e'))
    · exact hrest j x q cx hx hq (fun e' => hj (by simpa using congrArg Prod.fst e'))
  · have back : ∀ (j : Nat) (x : AObj) (q : Nat), (H.set id o')[j]? = some x → (x.row j q).isSome = true → ∃ y, H[j]? = some y ∧ (y.row j q).isSome = true ∧ (x.ro = false → y.ro = false) := fun j x q hx hq => by
      rcases hset j x hx with ⟨rfl, rfl⟩ | ⟨hj, hx⟩
      · refine ⟨o, ho, ?_, fun _ => hro⟩
        by_cases e : q = r
        · subst e; rw [hr]; rfl
        · rw [← hother q e]; exact hq
      · exact ⟨x, hx, hq, fun e => e⟩
    obtain ⟨y, hy, hyq, hyr⟩ := back j x q hx hq
    obtain ⟨y', hy', hyq', _⟩ := back j' x' q' hx' hq'
    exact h.apart j y q j' y' q' hy hy' hyq hyq' (hyr hxro) hne h0 h0'
end YtofjbgpaofcpjaaAM
