/- The abstract steps of the operations, and that they are sound. -/
import Derived.Test.YtnfcnocoehkgoaaAmBase
import Derived.Laws.Small
import Derived.Laws.Slices
import Derived.Laws.Tables
import Derived.BigFrame
import Derived.BigCall
set_option linter.unusedVariables false
set_option linter.unusedSimpArgs false
namespace YtnfcnocoehkgoaaAM
open Go

/-! ### States -/
structure St where
  t : Nat → AV
  h : List AObj

def St.put (st : St) (d : Option Nat) (v : AV) : St :=
  match d with
  | none => st
  | some d => ⟨fun k => if k = d then v else st.t k, st.h⟩

structure Frame (w0 : World) (B : Nat → Prop) (w : World) : Prop where
  os : w.os = w0.os
  tape : w.tape = w0.tape
  output : w.output = w0.output
  size : w0.heap.size ≤ w.heap.size
  block : ∀ b, b < w0.heap.size → ¬ B b → w.heap[b]? = w0.heap[b]?

theorem Frame.refl (w : World) (B : Nat → Prop) : Frame w B w := ⟨rfl, rfl, rfl, Nat.le_refl _, fun _ _ _ => rfl⟩
theorem Frame.drew {w0 w : World} {B : Nat → Prop} (h : Frame w0 B w) : Frame w0 B w.drew := ⟨h.os, h.tape, h.output, h.size, h.block⟩
theorem Frame.alloc {w0 w : World} {B : Nat → Prop} (h : Frame w0 B w) (o : Obj) : Frame w0 B (w.alloc o) :=
  ⟨h.os, h.tape, h.output, by have := h.size; simp; omega, fun b hb hB => by rw [← h.block b hb hB]; exact Go.RowKit.Below.heap_alloc w o b (Nat.lt_of_lt_of_le hb h.size)⟩
theorem tape_setCells (b : Nat) : ∀ (vs : List Value) (o : Nat) (w : World), (w.setCells b o vs).tape = w.tape
  | [], _, _ => rfl
  | v :: vs, o, w => by rw [World.setCells, tape_setCells b vs]; rfl
theorem Frame.setCells {w0 w : World} {B : Nat → Prop} (h : Frame w0 B w) (b o : Nat) (vs : List Value) (hb : B b ∨ w0.heap.size ≤ b) : Frame w0 B (w.setCells b o vs) :=
  ⟨(World.os_setCells w b o vs).trans h.os, (tape_setCells b vs o w).trans h.tape, (World.output_setCells w b o vs).trans h.output, by rw [size_setCells]; exact h.size,
   fun c hc hB => by
    rw [World.heap_setCells_other w b o vs (Nat.lt_of_lt_of_le hc h.size) (fun e => by subst e; rcases hb with hb | hb; exact hB hb; omega)]
    exact h.block c hc hB⟩
theorem Frame.trans {w0 w1 w2 : World} {B C : Nat → Prop} (h : Frame w0 B w1) (k : Frame w1 C w2) (hC : ∀ b, C b → B b ∨ w0.heap.size ≤ b) : Frame w0 B w2 :=
  ⟨k.os.trans h.os, k.tape.trans h.tape, k.output.trans h.output, Nat.le_trans h.size k.size, fun b hb hB =>
    (k.block b (Nat.lt_of_lt_of_le hb h.size) (fun hc => by rcases hC b hc with h1 | h1; exact hB h1; omega)).trans (h.block b hb hB)⟩

/-- The fixed sides of a function's run: how many temporaries, how many objects came in, the world and the places at the entry, the blocks that may be written. -/
structure Cx where
  n : Nat
  n0 : Nat
  w0 : World
  B : Nat → Prop
  ρ0 : Ren

def Wr (cx : Cx) (ρ : Ren) (H : List AObj) : Prop :=
  ∀ (id : Nat) (o : AObj) (r : Nat), H[id]? = some o → o.ro = false → (o.row id r).isSome = true → 0 < (ρ id r).room → cx.B (ρ id r).block ∨ cx.w0.heap.size ≤ (ρ id r).block

structure Sim (cx : Cx) (ρ : Ren) (st : St) (a : Act) (w : World) : Prop where
  tm : ∀ k, VRel ρ st.h.length (st.t k) (a.tmps.getD k undef)
  sz : a.tmps.size = cx.n
  df : a.defers = []
  hs : HSim ρ st.h w
  fr : Frame cx.w0 cx.B w
  ag : Agree cx.n0 cx.ρ0 ρ
  nn : cx.n0 ≤ st.h.length
  wr : Wr cx ρ st.h

theorem Act.getD_put (a : Act) (d k : Nat) (v : Value) (hd : d < a.tmps.size) : (a.put (some d) v).tmps.getD k undef = if k = d then v else a.tmps.getD k undef := by
  simp only [Act.put, Array.getD_eq_getD_getElem?, Array.getElem?_setIfInBounds]
  by_cases h : d = k
  · subst h; simp [hd]
  · simp [h, Ne.symm h]

/-- The temporaries turn; the memory does not. -/
theorem Sim.put {cx : Cx} {ρ : Ren} {st : St} {a : Act} {w : World} (h : Sim cx ρ st a w) (d : Option Nat) (hd : ∀ k, d = some k → k < cx.n) {v : AV} {u : Value} (hv : VRel ρ st.h.length v u) : Sim cx ρ (st.put d v) (a.put d u) w := by
  cases d with
  | none => exact h
  | some d =>
    have hd' := hd d rfl
    refine ⟨fun k => ?_, by simp [Act.put, h.sz], h.df, h.hs, h.fr, h.ag, h.nn, h.wr⟩
    rw [Act.getD_put a d k u (by rw [h.sz]; exact hd')]
    simp only [St.put]
    split
    · exact hv
    · exact h.tm k

/-- Memory grows by one object. -/
theorem Sim.grow {cx : Cx} {ρ : Ren} {st : St} {a : Act} {w w' : World} (h : Sim cx ρ st a w) (o : AObj) (f : Nat → Place) (hs : HSim (ρ.put st.h.length f) (st.h ++ [o]) w') (hf : Frame cx.w0 cx.B w')
    (hwr : ∀ r, o.ro = false → (o.row st.h.length r).isSome = true → 0 < (f r).room → cx.B (f r).block ∨ cx.w0.heap.size ≤ (f r).block) : Sim cx (ρ.put st.h.length f) ⟨st.t, st.h ++ [o]⟩ a w' := by
  refine ⟨fun k => (h.tm k).mono (Ren.put_agree ρ _ f) (by simp), h.sz, h.df, hs, hf, h.ag.trans ((Ren.put_agree ρ _ f).mono h.nn), by simp; exact Nat.le_succ_of_le h.nn, ?_⟩
  intro id x r hx hro hr h0
  rcases snoc_get hx with ⟨hl, hx⟩ | ⟨rfl, rfl⟩
  · rw [Ren.put_lt f hl] at h0 ⊢; exact h.wr id x r hx hro hr h0
  · rw [Ren.put_same] at h0 ⊢; exact hwr r hro hr h0

theorem Sim.world {cx : Cx} {ρ : Ren} {st : St} {a : Act} {w w' : World} (h : Sim cx ρ st a w) (k : Keeps w w') (hf : Frame cx.w0 cx.B w') : Sim cx ρ st a w' :=
  ⟨h.tm, h.sz, h.df, h.hs.keeps k, hf, h.ag, h.nn, h.wr⟩
theorem Sim.drew {cx : Cx} {ρ : Ren} {st : St} {a : Act} {w : World} (h : Sim cx ρ st a w) : Sim cx ρ st a w.drew := h.world (Keeps.drew w) h.fr.drew

/-! ### Types -/
inductive TK where
  | int (k : IntKind)
  | bool
  | slice (e : TypeId)
  | array (n : Nat) (e : TypeId)
  | struct (fs : List (Nat × TypeId))
  | ptr
  | func
  | other

structure TI where
  k : TK
  size : Nat
  bytes : Nat
  zero : List AV

def TK.agg : TK → Bool
  | .array .. | .struct .. => true
  | _ => false

def TK.fits : TK → TypeDesc → Prop
  | .int k, d => d = .int k
  | .bool, d => d = .bool
  | .slice e, d => d = .slice e
  | .array n e, d => d = .array n e
  | .struct fs, d => ∃ f : Array Field, d = .struct f ∧ f.toList.map (fun x => (x.offset, x.type)) = fs
  | .ptr, d => ∃ e, d = .pointer e
  | .func, d => ∃ a b c, d = .func a b c
  | .other, _ => False

structure TyFact (P : Program) (t : TypeId) (ti : TI) : Prop where
  und : ∃ d, P.underlying t = some d ∧ ti.k.fits d
  info : ∃ i z, P.info? t = some i ∧ i.size = ti.size ∧ i.bytes = ti.bytes ∧ i.zero = some z ∧ z.cells.size = ti.size
  pos : 0 < ti.bytes
  zlen : ti.zero.length = ti.size
  zero : ∀ i z, P.info? t = some i → i.zero = some z → ∀ (k : Nat) (c : AV), ti.zero[k]? = some c → ∃ v, z.cells[k]? = some v ∧ v.oneCell' = true ∧ ∀ ρ N, VRel ρ N c v

/-- What an element of a slice or an array is told by. -/
inductive ER where
  | ty (τ : Ty)
  | row

/-- Structs of three whole numbers that are held against each other field by field. -/
def SEq (P : Program) (t : TypeId) : Prop := ∀ (w : World) (x y : Operand) (a1 a2 a3 b1 b2 b3 : Int),
  (do eqGuard .neq t x y (.agg #[.int .i64 a1, .int .i64 a2, .int .i64 a3]) (.agg #[.int .i64 b1, .int .i64 b2, .int .i64 b3]); binOp .neq t (.agg #[.int .i64 a1, .int .i64 a2, .int .i64 a3]) (.agg #[.int .i64 b1, .int .i64 b2, .int .i64 b3]) : Sem Value).run P w = .ok (.bool (!(decide (a1 = b1) && decide (a2 = b2) && decide (a3 = b3)))) w
structure Tab (P : Program) where
  ty : TypeId → Option TI
  ok : ∀ t ti, ty t = some ti → TyFact P t ti
  er : TypeId → Option ER
  sq : TypeId → Bool := fun _ => false
  sqOk : ∀ t, sq t = true → SEq P t := by intro t h; cases h

/-! ### Judgements that stop the unfolding -/
structure VC (p q : Prop) : Prop where
  vc : p
  k : q
structure Guard (b : Bool) (p q : Prop) : Prop where
  yes : b = true → p
  no : b = false → q

inductive Res where
  | ok (v : AV)
  | vc (p : Prop) (v : AV)
  | bad

def in64 (n : Int) : Prop := -9223372036854775808 ≤ n ∧ n ≤ 9223372036854775807

def constAV : Value → AV
  | .int k n => .int k n
  | .bool b => .bool b
  | .slice none 0 0 => .nilS
  | .nilFunc => .nilF
  | _ => .undef

def ev (t : Nat → AV) : Operand → AV
  | .tmp k => t k
  | .const v => constAV v
  | .func f => .func f []
  | .global _ => .undef

def getL {α : Type} : List α → Nat → Option α
  | [], _ => none
  | a :: _, 0 => some a
  | _ :: l, n + 1 => getL l n

theorem getL_eq {α : Type} (l : List α) : ∀ n, getL l n = l[n]? := by
  induction l with
  | nil => intro n; simp [getL]
  | cons a l ih => intro n; cases n <;> simp [getL, ih]

/-- Whole numbers: 'int' by a condition that it fits; the other kinds as they wrap. -/
def arith (k : IntKind) (n : Int) : Res :=
  match k with
  | .i64 => .vc (in64 n) (.int .i64 n)
  | k => .ok (.int k (k.wrap n))

def binInt (op : BinOp) (k : IntKind) (a b : Int) : Res :=
  match op with
  | .add => arith k (a + b)
  | .sub => arith k (a - b)
  | .mul => arith k (a * b)
  | .quo => .vc (b ≠ 0) (.int k (k.wrap (a.tdiv b)))
  | .rem => .vc (b ≠ 0) (.int k (a.tmod b))
  | .and => .ok (.int k (k.wrap (BitVec.ofInt k.bits a &&& BitVec.ofInt k.bits b).toNat))
  | .or => .ok (.int k (k.wrap (BitVec.ofInt k.bits a ||| BitVec.ofInt k.bits b).toNat))
  | .xor => .ok (.int k (k.wrap (BitVec.ofInt k.bits a ^^^ BitVec.ofInt k.bits b).toNat))
  | .eql => .ok (.bool (decide (a = b)))
  | .neq => .ok (.bool (!decide (a = b)))
  | .lss => .ok (.bool (decide (a < b)))
  | .leq => .ok (.bool (decide (a ≤ b)))
  | .gtr => .ok (.bool (decide (b < a)))
  | .geq => .ok (.bool (decide (b ≤ a)))
  | _ => .bad

def shift (op : BinOp) (k : IntKind) (a b : Int) : Res :=
  match op with
  | .shl => .vc (0 ≤ b) (.int k (k.wrap (a * 2 ^ (min b.toNat k.bits))))
  | .shr => .vc (0 ≤ b) (.int k (a.fdiv (2 ^ (min b.toNat k.bits))))
  | _ => .bad

def idxAdd (i : Nat) (n : Nat) : Nat :=
  match i with
  | 0 => n
  | i + 1 => i + 1 + n
/-- Places beside a place. -/
def AAddr.fadd (a : AAddr) (k : Nat) : AAddr := match a with | ⟨id, row, idx, esz, fld⟩ => ⟨id, row, idx, esz, fld + k⟩
def AAddr.iadd (a : AAddr) (k : Nat) : AAddr := match a with | ⟨id, row, idx, esz, fld⟩ => ⟨id, row, idxAdd idx k, esz, fld⟩
def AAddr.elem (a : AAddr) (k sz : Nat) : AAddr := match a with | ⟨id, row, _, _, _⟩ => ⟨id, row, k, sz, 0⟩
theorem idxAdd_eq (i n : Nat) : idxAdd i n = i + n := by cases i <;> simp [idxAdd]

/-- Is it a type of bools? -/
def isBoolT (ti : Option TI) : Bool :=
  match ti with
  | some ⟨.bool, _, _, _⟩ => true
  | _ => false

def binOpV (op : BinOp) (ti : Option TI) : AV → AV → Res
  | .int k a, .int k' b =>
    match op with
    | .shl | .shr => shift op k a b
    | _ => if k = k' then binInt op k a b else .bad
  | .bool a, .bool b =>
    match isBoolT ti, op with
    | true, .eql => .ok (.bool (a == b))
    | true, .neq => .ok (.bool (!(a == b)))
    | _, _ => .bad
  | _, _ => .bad

/-- Two structs of three whole numbers held against each other. -/
def structV : BinOp → AV → AV → Res
  | .neq, .agg [.int .i64 a1, .int .i64 a2, .int .i64 a3], .agg [.int .i64 b1, .int .i64 b2, .int .i64 b3] => .ok (.bool (!(decide (a1 = b1) && decide (a2 = b2) && decide (a3 = b3))))
  | _, _, _ => .bad

def pickV : AV → AV → AV → Res
  | .bool g, .bool a, .bool b => .ok (.bool (cond g a b))
  | .bool g, a, b => match g with
    | true => match a with
      | .undef => .bad
      | a => .ok a
    | false => match b with
      | .undef => .bad
      | b => .ok b
  | _, _, _ => .bad

variable {P : Program}

def fieldV (T : Tab P) (t : TypeId) (f : Nat) : AV → Res
  | .ptr a => match T.ty t with
    | some ⟨.struct fs, _, _, _⟩ => match getL fs f with
      | some (off, ft) => match T.ty ft with
        | some ⟨_, 0, _, _⟩ => .bad
        | some ⟨_, _ + 1, _, _⟩ => .ok (.ptr (a.fadd off))
        | none => .bad
      | none => .bad
    | _ => .bad
  | _ => .bad

def sizeT (T : Tab P) (t : TypeId) : Nat :=
  match T.ty t with
  | some ti => ti.size
  | none => 0

def indexV (T : Tab P) (t : TypeId) : AV → AV → Res
  | .slice a len, .int _ i => match T.ty t with
    | some ⟨.slice e, _, _, _⟩ => match T.ty e with
      | some te => match Nat.beq te.size a.esz with
        | true => .vc (0 ≤ i ∧ i < len) (.ptr (a.iadd i.toNat))
        | false => .bad
      | none => .bad
    | _ => .bad
  | .ptr a, .int _ i => match T.ty t with
    | some ⟨.array n e, _, _, _⟩ => match T.ty e, a.idx, a.fld with
      | some te, 0, 0 => .vc (0 ≤ i ∧ i < n) (.ptr (a.elem i.toNat te.size))
      | _, _, _ => .bad
    | _ => .bad
  | _, _ => .bad

/-- A bound of a cut: 'none' for one that isn't given. -/
def boundV (e : Operand → AV) : Option Operand → Option (Option Int)
  | none => some none
  | some x => match e x with
    | .int _ i => some (some i)
    | _ => none

def cutV (T : Tab P) (t : TypeId) (lo hi mx : Option (Option Int)) : AV → Res
  | .slice a len => match T.ty t with
    | some ⟨.slice e, _, _, _⟩ => match T.ty e with
      | some te => match Nat.beq te.size a.esz with
        | true => match lo, hi, mx with
          | some none, some none, some none => .ok (.slice a len)
          | some (some l), some none, some none => .vc (0 ≤ l ∧ l ≤ len) (.slice (a.iadd l.toNat) (len - l.toNat))
          | some none, some (some h), some none => .vc (0 ≤ h ∧ h ≤ len) (.slice a h.toNat)
          | some (some l), some (some h), some none => .vc (0 ≤ l ∧ l ≤ h ∧ h ≤ len) (.slice (a.iadd l.toNat) (h.toNat - l.toNat))
          | some none, some (some h), some (some m) => .vc (0 ≤ h ∧ h ≤ m ∧ m ≤ len) (.cslice a h.toNat m.toNat)
          | some (some l), some (some h), some (some m) => .vc (0 ≤ l ∧ l ≤ h ∧ h ≤ m ∧ m ≤ len) (.cslice (a.iadd l.toNat) (h.toNat - l.toNat) (m.toNat - l.toNat))
          | _, _, _ => .bad
        | false => .bad
      | none => .bad
    | _ => .bad
  | _ => .bad

/-- A value of one cell. -/
def AV.one : AV → Bool
  | .int .. | .bool _ | .nilS | .nilF | .slice .. | .cslice .. | .ptr _ | .func .. => true
  | _ => false

def placesV (T : Tab P) : List (Nat × TypeId) → Option (List (Nat × Nat))
  | [] => some []
  | (off, ft) :: r => match T.ty ft, placesV T r with
    | some ti, some l => some ((off, ti.size) :: l)
    | _, _ => none

def fillV (e : Operand → AV) (places : List (Nat × Nat)) : List AV → List (Nat × Operand) → Option (List AV)
  | z, [] => some z
  | z, (i, x) :: r => match getL places i with
    | some (off, 1) => match (e x).one, Nat.blt off z.length with
      | true, true => fillV e places (z.set off (e x)) r
      | _, _ => none
    | _ => none

def lenV : AV → Res
  | .slice _ n => .ok (.int .i64 n)
  | .cslice _ n _ => .ok (.int .i64 n)
  | .nilS => .ok (.int .i64 0)
  | _ => .bad

def minV : AV → AV → Res
  | .int k a, .int _ b => .ok (.int k (min a b))
  | _, _ => .bad
def maxV : AV → AV → Res
  | .int k a, .int _ b => .ok (.int k (max a b))
  | _, _ => .bad

def moveV (v : AV) : Res := .ok v

/-- An array of zeros, as a value. -/
def vecZ : Ty → Nat → Option Vec
  | .int, n => some (.ints (List.replicate n 0))
  | .bool, n => some (.bools (List.replicate n false))
  | .hop, n => some (.hops (List.replicate n ⟨0, false, 0⟩))
  | _, _ => none

/-- 'x[i]' of an array that is a value. -/
def atV (T : Tab P) (t : TypeId) (x i : AV) : Res :=
  match T.ty t, x, i with
  | some ⟨.array n el, _, _, _⟩, .vec (.ints l), .int _ k => match T.ty el with
    | some ti => match ti.k.agg, Nat.beq ti.size 1 with
      | false, true => .vc (0 ≤ k ∧ k < n ∧ l.length = n) (.int .i64 (l.getD k.toNat 0))
      | _, _ => .bad
    | none => .bad
  | _, _, _ => .bad

/-- Operations that look at temporaries alone. -/
def pureV (T : Tab P) (e : Operand → AV) : Op → Res
  | .move x => match x with
    | .const (.slice none _ _) => .bad
    | x => moveV (e x)
  | .assign x => match x with
    | .const (.slice none _ _) => .bad
    | x => moveV (e x)
  | .pick c a b => pickV (e c) (e a) (e b)
  | .binOp op t x y _ => match T.sq t with
    | true => structV op (e x) (e y)
    | false => binOpV op (T.ty t) (e x) (e y)
  | .unOp op _ x => match op, e x with
    | .not, .bool b => .ok (.bool (!b))
    | .neg, .int k n => arith k (0 - n)
    | _, _ => .bad
  | .convert s d x => match T.ty s, T.ty d, e x with
    | some ⟨.int _, _, _, _⟩, some ⟨.int k, _, _, _⟩, .int _ n => arith k n
    | _, _, _ => .bad
  | .extract x i => match e x with
    | .tuple vs => match getL vs i with
      | some v => .ok v
      | none => .bad
    | _ => .bad
  | .fieldAddr t x f => fieldV T t f (e x)
  | .indexAddr t x i => indexV T t (e x) (e i)
  | .slice t x lo hi mx => cutV T t (boundV e lo) (boundV e hi) (boundV e mx) (e x)
  | .makeFunc fn first cap => match fn, first.toList with
    | .func f, [] => .ok (.func f (cap.toList.map e))
    | _, _ => .bad
  | .nilCheck x => match e x with
    | .ptr a => .ok (.ptr a)
    | _ => .bad
  | .build t ps => match T.ty t with
    | some ⟨.struct fs, _, _, z⟩ => match placesV T fs with
      | some places => match fillV e places z ps.toList with
        | some vs => .ok (.agg vs)
        | none => .bad
      | none => .bad
    | some ⟨.array n el, _, _, z⟩ => match T.ty el, T.er el, ps.toList with
      | some _, some (.ty τ), [] => match vecZ τ n with
        | some x => .vc (z = x.cells) (.vec x)
        | none => .bad
      | _, _, _ => .bad
    | _ => .bad
  | .index t x i => atV T t (e x) (e i)
  | .call c => match c.callee with
    | .builtin .len => match c.args.toList, c.argTypes.toList with
      | [x], [t] => match T.ty t with
        | some ⟨.slice _, _, _, _⟩ => lenV (e x)
        | _ => .bad
      | _, _ => .bad
    | .builtin .min => match c.args.toList with
      | [x, y] => minV (e x) (e y)
      | _ => .bad
    | .builtin .max => match c.args.toList with
      | [x, y] => maxV (e x) (e y)
      | _ => .bad
    | _ => .bad
  | _ => .bad

/-! ### Soundness of the pure operations -/
/-- The answer holds of the machine's. -/
def Res.sound (r : Res) (Q : AV → Prop) : Prop :=
  match r with
  | .ok v => Q v
  | .vc p v => p → Q v
  | .bad => True

theorem constAV_rel (ρ : Ren) (N : Nat) (v : Value) : VRel ρ N (constAV v) v := by
  unfold constAV
  split
  · exact .int _ _
  · exact .bool _
  · exact .nilS
  · exact .nilF
  · exact .undef _

theorem ev_rel {cx : Cx} {ρ : Ren} {st : St} {a : Act} {w : World} (h : Sim cx ρ st a w) (x : Operand) : VRel ρ st.h.length (ev st.t x) (a.eval x) := by
  cases x with
  | tmp k => exact h.tm k
  | const v => exact constAV_rel _ _ v
  | global g => exact .undef _
  | func f => exact .func f [] #[] rfl (fun i a v h => by simp at h)

/-- What an operation yields without touching the world. -/
def Yields (P : Program) (o : Oper) (a : Act) (w : World) (R : Value → Prop) : Prop :=
  ∃ u, (execOp a.eval o).run P w = .ok (.value u) w ∧ R u

section
variable {P : Program} {ρ : Ren} {N : Nat} {w : World}

theorem wrap64_in {n : Int} (h : in64 n) : IntKind.i64.wrap n = n := by
  unfold in64 at h
  simp [IntKind.wrap, IntKind.bits, IntKind.signed]; omega

theorem arith_sound (k : IntKind) (n : Int) : (arith k n).sound fun v => VRel ρ N v (.int k (k.wrap n)) := by
  unfold arith
  split
  · intro hp; rw [wrap64_in hp]; exact .int _ _
  · exact .int _ _

theorem Res.sound.imp {r : Res} {Q R : AV → Prop} (h : r.sound Q) (hi : ∀ v, Q v → R v) : r.sound R := by
  cases r with
  | ok v => exact hi v h
  | vc p v => exact fun hp => hi v (h hp)
  | bad => trivial

theorem bne_decide (x y : Int) : (x != y) = !decide (x = y) := by
  by_cases h : x = y <;> simp [h]
theorem beq_decide (x y : Int) : (x == y) = decide (x = y) := by
  by_cases h : x = y <;> simp [h]

theorem binInt_sound (op : BinOp) (k : IntKind) (x y : Int) (hs : op ≠ .shl) (hs' : op ≠ .shr) (xt : TypeId) :
    (binInt op k x y).sound fun v => ∃ u, (binOp op xt (.int k x) (.int k y)).run P w = .ok u w ∧ VRel ρ N v u := by
  cases op
  case shl => exact absurd rfl hs
  case shr => exact absurd rfl hs'
  case add => exact (arith_sound k (x + y)).imp fun v hv => ⟨_, by simp [binOp, Op.intArith], hv⟩
  case sub => exact (arith_sound k (x - y)).imp fun v hv => ⟨_, by simp [binOp, Op.intArith], hv⟩
  case mul => exact (arith_sound k (x * y)).imp fun v hv => ⟨_, by simp [binOp, Op.intArith], hv⟩
  case quo => intro hy; exact ⟨_, by simp [binOp, Op.intDiv, hy], .int _ _⟩
  case rem => intro hy; exact ⟨_, by simp [binOp, Op.intDiv, hy], .int _ _⟩
  case and => exact ⟨_, by simp [binOp, Op.intBits], .int _ _⟩
  case or => exact ⟨_, by simp [binOp, Op.intBits], .int _ _⟩
  case xor => exact ⟨_, by simp [binOp, Op.intBits], .int _ _⟩
  case andNot => trivial
  case eql => exact ⟨.bool (x == y), by simp [binOp, Op.intCmp], by rw [beq_decide]; exact .bool _⟩
  case neq => exact ⟨.bool (x != y), by simp [binOp, Op.intCmp], by rw [bne_decide]; exact .bool _⟩
  case lss => exact ⟨_, by simp [binOp, Op.intCmp], .bool _⟩
  case leq => exact ⟨_, by simp [binOp, Op.intCmp], .bool _⟩
  case gtr => exact ⟨_, by simp [binOp, Op.intCmp], .bool _⟩
  case geq => exact ⟨_, by simp [binOp, Op.intCmp], .bool _⟩

theorem shift_sound (op : BinOp) (k k' : IntKind) (x y : Int) (xt : TypeId) :
    (shift op k x y).sound fun v => ∃ u, (binOp op xt (.int k x) (.int k' y)).run P w = .ok u w ∧ VRel ρ N v u := by
  cases op
  case shl => intro hy; exact ⟨_, by simp [binOp, Op.shift, Int.not_lt.2 hy], .int _ _⟩
  case shr => intro hy; exact ⟨_, by simp [binOp, Op.shift, Int.not_lt.2 hy], .int _ _⟩
  all_goals trivial

/-- No guard of an equality stands in the way of plain values. -/
theorem eqGuard_plain (op : BinOp) (t : TypeId) (x y : Operand) {u u' : Value} (h : (∃ k n, u = .int k n) ∨ ∃ b, u = .bool b) : (eqGuard op t x y u u').run P w = .ok () w := by
  rcases h with ⟨k, n, rfl⟩ | ⟨b, rfl⟩ <;> cases op <;> rfl
theorem eqGuard_slice (op : BinOp) (t : TypeId) (x y : Operand) (p : Option Addr) (n c : Nat) (u' : Value) : (eqGuard op t x y (.slice p n c) u').run P w = .ok () w := by
  cases op <;> rfl

theorem isBoolT_under (T : Tab P) {t : TypeId} (h : isBoolT (T.ty t) = true) : P.underlying t = some .bool := by
  cases hq : T.ty t with
  | none => rw [hq] at h; cases h
  | some ti =>
    rw [hq] at h
    obtain ⟨k, s, b, z⟩ := ti
    cases k <;> simp [isBoolT] at h
    obtain ⟨d, hd, rfl⟩ := (T.ok t _ hq).und
    exact hd

theorem binOpV_sound (T : Tab P) (op : BinOp) (xt : TypeId) (x y : Operand) {v v' : AV} {u u' : Value} (hv : VRel ρ N v u) (hv' : VRel ρ N v' u') :
    (binOpV op (T.ty xt) v v').sound fun r => ∃ z, (do eqGuard op xt x y u u'; binOp op xt u u' : Sem Value).run P w = .ok z w ∧ VRel ρ N r z := by
  unfold binOpV
  split
  · rename_i k a k' b
    cases hv; cases hv'
    have hg := eqGuard_plain (P := P) (w := w) op xt x y (u := .int k a) (u' := .int k' b) (.inl ⟨_, _, rfl⟩)
    simp only [Sem.run_bind, hg, Result.andThen_ok]
    split
    · exact shift_sound ..
    · exact shift_sound ..
    · rename_i h1 h2
      split
      · rename_i e; subst e; exact binInt_sound op k a b h1 h2 xt
      · trivial
  · rename_i a b
    cases hv; cases hv'
    have hg := eqGuard_plain (P := P) (w := w) op xt x y (u := .bool a) (u' := .bool b) (.inr ⟨_, rfl⟩)
    simp only [Sem.run_bind, hg, Result.andThen_ok]
    split
    · rename_i hb
      exact ⟨.bool (a == b), run_eql_bool w xt a b (isBoolT_under T hb), .bool _⟩
    · rename_i hb
      exact ⟨.bool (!(a == b)), run_neq_bool w xt a b (isBoolT_under T hb), .bool _⟩
    · trivial
  · trivial

theorem three_rel {ρ : Ren} {N : Nat} {a1 a2 a3 : Int} {u : Value} (h : VRel ρ N (.agg [.int .i64 a1, .int .i64 a2, .int .i64 a3]) u) : u = .agg #[.int .i64 a1, .int .i64 a2, .int .i64 a3] := by
  cases h with
  | agg vs ws hl h =>
    obtain ⟨l⟩ := ws
    match l, hl with
    | [x, y, z], _ =>
      have h1 := h 0 _ _ rfl rfl
      have h2 := h 1 _ _ rfl rfl
      have h3 := h 2 _ _ rfl rfl
      cases h1; cases h2; cases h3
      rfl
theorem structV_sound (T : Tab P) (op : BinOp) {xt : TypeId} (ht : T.sq xt = true) (x y : Operand) {v v' : AV} {u u' : Value} (hv : VRel ρ N v u) (hv' : VRel ρ N v' u') :
    (structV op v v').sound fun r => ∃ z, (do eqGuard op xt x y u u'; binOp op xt u u' : Sem Value).run P w = .ok z w ∧ VRel ρ N r z := by
  unfold structV
  split
  · obtain rfl := three_rel hv
    obtain rfl := three_rel hv'
    exact ⟨_, T.sqOk xt ht w x y _ _ _ _ _ _, .bool _⟩
  · trivial

theorem moveV_sound {v : AV} {u : Value} (h : VRel ρ N v u) : (moveV v).sound fun r => VRel ρ N r u := by
  unfold moveV; exact h

theorem pickV_sound {vc va vb : AV} {uc ua ub : Value} (hc : VRel ρ N vc uc) (ha : VRel ρ N va ua) (hb : VRel ρ N vb ub) :
    (pickV vc va vb).sound fun r => ∃ g, uc = .bool g ∧ VRel ρ N r (if g then ua else ub) := by
  unfold pickV
  split
  · rename_i g x y
    cases hc; cases ha; cases hb
    refine ⟨g, rfl, ?_⟩
    cases g <;> exact .bool _
  · rename_i g
    cases hc
    split
    · split
      · trivial
      · exact ⟨true, rfl, ha⟩
    · split
      · trivial
      · exact ⟨false, rfl, hb⟩
  · trivial

theorem fieldV_sound (T : Tab P) (t : TypeId) (f : Nat) {v : AV} {u : Value} (h : VRel ρ N v u) :
    (fieldV T t f v).sound fun r => ∃ z, (Instr.fieldAt t u f).run P w = .ok z w ∧ VRel ρ N r z := by
  unfold fieldV
  split
  · rename_i a
    cases h with | ptr _ ha =>
    split
    · rename_i fs _ _ _ hty
      split
      · rename_i off ft hf
        split
        · trivial
        · rename_i k s b z hft
          obtain ⟨d, hd, fa, rfl, hfs⟩ := (T.ok t _ hty).und
          obtain ⟨i, zz, hi, hsz, _⟩ := (T.ok ft _ hft).info
          rw [getL_eq, ← hfs, List.getElem?_map] at hf
          obtain ⟨fd, hfd, he⟩ := Option.map_eq_some_iff.1 hf
          simp only [Prod.mk.injEq] at he
          obtain ⟨rfl, rfl⟩ := he
          have hfd' : fa[f]? = some fd := by rw [← hfd]; simp
          refine ⟨.pointer (some ((a.at ρ).add fd.offset)), ?_, ?_⟩
          · have hi' : P.info? fd.type = some i := hi
            simp [Instr.fieldAt, run_underlying hd, hfd', Instr.sureAddr, fieldPlace, Go.sizeOf, typeInfo, hi', hsz]
          · have hat : (a.at ρ).add fd.offset = (⟨a.id, a.row, a.idx, a.esz, a.fld + fd.offset⟩ : AAddr).at ρ := by
              simp only [AAddr.at, Place.addr, AAddr.cell, Addr.add_mid]
              congr 1; omega
            rw [hat]; exact .ptr _ ha
        · trivial
      · trivial
    · trivial
  · trivial

theorem indexV_sound (T : Tab P) (t : TypeId) {v vi : AV} {u ui : Value} (h : VRel ρ N v u) (hi : VRel ρ N vi ui) :
    (indexV T t v vi).sound fun r => ∃ z, (Instr.indexAt t u ui).run P w = .ok z w ∧ VRel ρ N r z := by
  unfold indexV
  split
  · rename_i a len k i
    cases hi
    cases h with | slice _ _ p cap ha hl hc =>
    split
    · rename_i e _ _ _ hty
      split
      · rename_i te hte
        split
        · rename_i hb
          have hb := Nat.eq_of_beq_eq_true hb
          rintro ⟨h0, h1⟩
          obtain ⟨d, hd, rfl⟩ := (T.ok t _ hty).und
          obtain ⟨ie, zz, hie, hsz, _⟩ := (T.ok e _ hte).info
          rcases hc with rfl | ⟨rfl, hroom⟩
          · omega
          · refine ⟨.pointer (some ((a.at ρ).add (i.toNat * te.size))), ?_, ?_⟩
            · simp [Instr.indexAt, asIntOf, run_underlying hd, Go.sizeOf, typeInfo, hie, hsz, h0, h1]
            · have hat : (a.at ρ).add (i.toNat * te.size) = (⟨a.id, a.row, idxAdd a.idx i.toNat, a.esz, a.fld⟩ : AAddr).at ρ := by
                simp only [AAddr.at, Place.addr, AAddr.cell, Addr.add_mid, idxAdd_eq, hb, Nat.add_mul]
                congr 1; omega
              rw [hat]; exact .ptr _ ha
        · trivial
      · trivial
    · trivial
  · rename_i a k i
    cases hi
    cases h with | ptr _ ha =>
    split
    · rename_i n e _ _ _ hty
      split
      · rename_i te hte hidx hfld
        rintro ⟨h0, h1⟩
        obtain ⟨d, hd, rfl⟩ := (T.ok t _ hty).und
        obtain ⟨ie, zz, hie, hsz, _⟩ := (T.ok e _ hte).info
        refine ⟨.pointer (some ((a.at ρ).add (i.toNat * te.size))), ?_, ?_⟩
        · simp [Instr.indexAt, asIntOf, run_underlying hd, Go.sizeOf, typeInfo, hie, hsz, h0, h1, Instr.sureAddr]
        · have hat : (a.at ρ).add (i.toNat * te.size) = (⟨a.id, a.row, i.toNat, te.size, 0⟩ : AAddr).at ρ := by
            simp only [AAddr.at, Place.addr, AAddr.cell, Addr.add_mid, hidx, hfld]
            congr 1; omega
          rw [hat]; exact .ptr _ ha
      · trivial
    · trivial
  · trivial

/-- A bound, as the machine has it. -/
def BoundRel (b : Option (Option Int)) (v : Option Value) : Prop :=
  match b with
  | some none => v = none
  | some (some i) => ∃ k, v = some (.int k i)
  | none => True

theorem boundV_rel {cx : Cx} {ρ : Ren} {st : St} {a : Act} {w : World} (h : Sim cx ρ st a w) (x : Option Operand) : BoundRel (boundV (ev st.t) x) (x.map a.eval) := by
  cases x with
  | none => exact rfl
  | some x =>
    have := ev_rel h x
    show BoundRel (match ev st.t x with | .int _ i => some (some i) | _ => none) _
    split
    · rename_i k i he
      rw [he] at this
      cases hu : a.eval x <;> rw [hu] at this <;> cases this
      exact ⟨k, by simp [hu]⟩
    · trivial

theorem sliceBound_ok (k : IntKind) (i : Int) (y : Nat) (c : BoundsCode) (h0 : 0 ≤ i) (h1 : i ≤ y) : (Instr.sliceBound (.int k i) y c).run P w = .ok i.toNat w := by
  simp [Instr.sliceBound, asIntOf, h0, h1]

/-- A cut, by its three numbers. -/
theorem run_cut {t e : TypeId} {te : TypeInfo} (ht : P.underlying t = some (.slice e)) (he : P.info? e = some te) (p : Option Addr) (len cap : Nat) (lo hi mx : Option Value) (l h m : Nat)
    (hb : (Instr.sliceBounds true len cap lo hi mx).run P w = .ok (l, h, m) w) :
    (Instr.sliceAt t (.slice p len cap) lo hi mx).run P w = .ok (.slice (if m = l then p else p.map (·.add (l * te.size))) (h - l) (m - l)) w := by
  simp [Instr.sliceAt, Instr.slice, run_underlying ht, hb, Go.sizeOf, typeInfo, he]

theorem cut_rel {a : AAddr} {p : Option Addr} {len cap : Nat} (ha : a.id < N) (hl : len ≤ cap) (hc : cap = 0 ∨ (p = some (a.at ρ) ∧ a.cell + cap * a.esz ≤ (ρ a.id a.row).room)) (l h : Nat) (h1 : l ≤ h) (h2 : h ≤ len) :
    VRel ρ N (.slice ⟨a.id, a.row, idxAdd a.idx l, a.esz, a.fld⟩ (h - l)) (.slice (if cap = l then p else p.map (·.add (l * a.esz))) (h - l) (cap - l)) := by
  refine .slice _ _ _ _ ha (by omega) ?_
  by_cases e : cap = l
  · left; omega
  · right
    rw [if_neg e]
    rcases hc with hc | ⟨rfl, hroom⟩
    · omega
    · refine ⟨?_, ?_⟩
      · simp only [Option.map_some, AAddr.at, Place.addr, AAddr.cell, Addr.add_mid, idxAdd_eq, Nat.add_mul]
        congr 2; omega
      · have : (cap - l) * a.esz + l * a.esz = cap * a.esz := by rw [← Nat.add_mul]; congr 1; omega
        simp only [AAddr.cell, idxAdd_eq, Nat.add_mul] at hroom ⊢; omega

theorem cut_crel {a : AAddr} {p : Option Addr} {len cap : Nat} (ha : a.id < N) (hl : len ≤ cap) (hc : cap = 0 ∨ (p = some (a.at ρ) ∧ a.cell + cap * a.esz ≤ (ρ a.id a.row).room)) (l h m : Nat) (h1 : l ≤ h) (h2 : h ≤ m) (h3 : m ≤ len) :
    VRel ρ N (.cslice ⟨a.id, a.row, idxAdd a.idx l, a.esz, a.fld⟩ (h - l) (m - l)) (.slice (if m = l then p else p.map (·.add (l * a.esz))) (h - l) (m - l)) := by
  refine .cslice _ _ _ _ ha (by omega) ?_
  by_cases e : m = l
  · left; omega
  · right
    rw [if_neg e]
    rcases hc with hc | ⟨rfl, hroom⟩
    · omega
    · simp only [Option.map_some, AAddr.at, Place.addr, AAddr.cell, Addr.add_mid, idxAdd_eq, Nat.add_mul]
      congr 2; omega

theorem idxAdd_zero (a : AAddr) : (⟨a.id, a.row, idxAdd a.idx 0, a.esz, a.fld⟩ : AAddr) = a := by rw [idxAdd_eq]; rfl

theorem cutV_sound (T : Tab P) (t : TypeId) {lo hi mx : Option (Option Int)} {vlo vhi vmx : Option Value} (hlo : BoundRel lo vlo) (hhi : BoundRel hi vhi) (hmx : BoundRel mx vmx) {v : AV} {u : Value} (h : VRel ρ N v u) :
    (cutV T t lo hi mx v).sound fun r => ∃ z, (Instr.sliceAt t u vlo vhi vmx).run P w = .ok z w ∧ VRel ρ N r z := by
  unfold cutV
  split
  · rename_i a len
    cases h with | slice _ _ p cap ha hl hc =>
    split
    · rename_i e _ _ _ hty
      split
      · rename_i te hte
        split
        · rename_i hb
          have hb := Nat.eq_of_beq_eq_true hb
          obtain ⟨d, hd, rfl⟩ := (T.ok t _ hty).und
          obtain ⟨ie, zz, hie, hsz, _⟩ := (T.ok e _ hte).info
          have hes : ie.size = a.esz := by rw [hsz, hb]
          have key := fun (l h m : Nat) (hb : (Instr.sliceBounds true len cap vlo vhi vmx).run P w = .ok (l, h, m) w) => run_cut hd hie p len cap vlo vhi vmx l h m hb
          split
          · obtain rfl : vlo = none := hlo
            obtain rfl : vhi = none := hhi
            obtain rfl : vmx = none := hmx
            refine ⟨_, key 0 len cap (by simp [Instr.sliceBounds]), ?_⟩
            have := cut_rel ha hl hc 0 len (by omega) (by omega)
            rw [idxAdd_zero] at this
            rw [hes]; exact this
          · rename_i l
            obtain ⟨k, rfl⟩ := hlo
            obtain rfl : vhi = none := hhi
            obtain rfl : vmx = none := hmx
            rintro ⟨h0, h1⟩
            refine ⟨_, key l.toNat len cap (by simp [Instr.sliceBounds, sliceBound_ok _ _ _ _ h0 h1]), ?_⟩
            rw [hes]; exact cut_rel ha hl hc l.toNat len (by omega) (by omega)
          · rename_i hh
            obtain rfl : vlo = none := hlo
            obtain ⟨k, rfl⟩ := hhi
            obtain rfl : vmx = none := hmx
            rintro ⟨h0, h1⟩
            refine ⟨_, key 0 hh.toNat cap (by simp [Instr.sliceBounds, sliceBound_ok _ _ _ _ h0 (show hh ≤ (cap : Int) by omega)]), ?_⟩
            have := cut_rel ha hl hc 0 hh.toNat (by omega) (by omega)
            rw [idxAdd_zero] at this
            rw [hes]; exact this
          · rename_i l hh
            obtain ⟨k, rfl⟩ := hlo
            obtain ⟨k', rfl⟩ := hhi
            obtain rfl : vmx = none := hmx
            rintro ⟨h0, h1, h2⟩
            refine ⟨_, key l.toNat hh.toNat cap (by simp [Instr.sliceBounds, sliceBound_ok _ _ _ _ (show 0 ≤ hh by omega) (show hh ≤ (cap : Int) by omega), sliceBound_ok _ _ _ _ h0 (show l ≤ (hh.toNat : Int) by omega)]), ?_⟩
            rw [hes]; exact cut_rel ha hl hc l.toNat hh.toNat (by omega) (by omega)
          · rename_i hh m
            obtain rfl : vlo = none := hlo
            obtain ⟨k', rfl⟩ := hhi
            obtain ⟨k'', rfl⟩ := hmx
            rintro ⟨h0, h1, h2⟩
            refine ⟨_, key 0 hh.toNat m.toNat (by simp [Instr.sliceBounds, sliceBound_ok _ _ _ _ (show 0 ≤ m by omega) (show m ≤ (cap : Int) by omega), sliceBound_ok _ _ _ _ h0 (show hh ≤ (m.toNat : Int) by omega)]), ?_⟩
            have := cut_crel ha hl hc 0 hh.toNat m.toNat (by omega) (by omega) (by omega)
            rw [idxAdd_zero] at this
            rw [hes]; exact this
          · rename_i l hh m
            obtain ⟨k, rfl⟩ := hlo
            obtain ⟨k', rfl⟩ := hhi
            obtain ⟨k'', rfl⟩ := hmx
            rintro ⟨h0, h1, h2, h3⟩
            refine ⟨_, key l.toNat hh.toNat m.toNat (by simp [Instr.sliceBounds, sliceBound_ok _ _ _ _ (show 0 ≤ m by omega) (show m ≤ (cap : Int) by omega), sliceBound_ok _ _ _ _ (show 0 ≤ hh by omega) (show hh ≤ (m.toNat : Int) by omega), sliceBound_ok _ _ _ _ h0 (show l ≤ (hh.toNat : Int) by omega)]), ?_⟩
            rw [hes]; exact cut_crel ha hl hc l.toNat hh.toNat m.toNat (by omega) (by omega) (by omega)
          · trivial
        · trivial
      · trivial
    · trivial
  · trivial

theorem lenV_sound {t e : TypeId} (ht : P.underlying t = some (.slice e)) (ts : Array TypeId) (ty : TypeId) (hts : ts[0]? = some t) {v : AV} {u : Value} (h : VRel ρ N v u) :
    (lenV v).sound fun r => ∃ z, (Builtin.len_ ts ty #[u]).run P w = .ok z w ∧ VRel ρ N r z := by
  unfold lenV
  split
  · cases h; exact ⟨_, by simp [Builtin.len_, hts, run_underlying ht, goInt], .int _ _⟩
  · cases h; exact ⟨_, by simp [Builtin.len_, hts, run_underlying ht, goInt], .int _ _⟩
  · cases h; exact ⟨_, by simp [Builtin.len_, hts, run_underlying ht, goInt], .int _ _⟩
  · trivial

theorem minV_sound (ts : Array TypeId) (ty : TypeId) {v v' : AV} {u u' : Value} (h : VRel ρ N v u) (h' : VRel ρ N v' u') :
    (minV v v').sound fun r => ∃ z, (Builtin.min_ ts ty #[u, u']).run P w = .ok z w ∧ VRel ρ N r z := by
  unfold minV
  split
  · rename_i k a k' b
    cases h; cases h'
    refine ⟨_, run_min_int2 w ts ty k k' a b, ?_⟩
    rw [show (if b < a then b else a) = min a b by rw [Int.min_def]; split <;> split <;> omega]; exact .int _ _
  · trivial
theorem maxV_sound (ts : Array TypeId) (ty : TypeId) {v v' : AV} {u u' : Value} (h : VRel ρ N v u) (h' : VRel ρ N v' u') :
    (maxV v v').sound fun r => ∃ z, (Builtin.max_ ts ty #[u, u']).run P w = .ok z w ∧ VRel ρ N r z := by
  unfold maxV
  split
  · rename_i k a k' b
    cases h; cases h'
    refine ⟨_, run_max_int2 w ts ty k k' a b, ?_⟩
    rw [show (if b > a then b else a) = max a b by rw [Int.max_def]; split <;> split <;> omega]; exact .int _ _
  · trivial

/-- A value of one cell. -/
theorem one_of_rel {v : AV} {u : Value} (h : VRel ρ N v u) (hv : v.one = true) : u.oneCell' = true := by
  cases h <;> first | rfl | (simp [AV.one] at hv; done)
theorem cells_of_one {u : Value} (h : u.oneCell' = true) : u.cells = #[u] := by cases u <;> first | rfl | (simp [Value.oneCell'] at h; done)
end

theorem placesV_spec (T : Tab P) : ∀ (fa : List Field) (places : List (Nat × Nat)), placesV T (fa.map fun x => (x.offset, x.type)) = some places →
    fa.mapM (fun f => (P.info? f.type).map fun i => (f.offset, i.size)) = some places
  | [], places, h => by simp [placesV] at h; subst h; rfl
  | f :: fa, places, h => by
    simp only [List.map_cons, placesV] at h
    split at h
    · rename_i ti l h1 h2
      cases h
      obtain ⟨i, z, hi, hsz, _⟩ := (T.ok _ ti h1).info
      simp [List.mapM_cons, hi, hsz, placesV_spec T fa l h2]
    · cases h

theorem fillV_spec {e : Operand → AV} {e' : Operand → Value} {ρ : Ren} {N : Nat} (he : ∀ x, VRel ρ N (e x) (e' x)) (places : List (Nat × Nat)) :
    ∀ (ps : List (Nat × Operand)) (z vs : List AV) (cells : Array Value), z.length = cells.size → (∀ (k : Nat) (c : AV), z[k]? = some c → ∃ v, cells[k]? = some v ∧ VRel ρ N c v) → fillV e places z ps = some vs →
      ∃ ws, Instr.fill (places.toArray[·]?) cells (ps.map fun p => (p.1, e' p.2)) = some ws ∧ vs.length = ws.size ∧ ∀ (k : Nat) (c : AV), vs[k]? = some c → ∃ v, ws[k]? = some v ∧ VRel ρ N c v
  | [], z, vs, cells, hl, hr, h => by simp [fillV] at h; subst h; exact ⟨cells, rfl, hl, hr⟩
  | (i, x) :: ps, z, vs, cells, hl, hr, h => by
    simp only [fillV] at h
    split at h
    · rename_i off hp
      split at h
      · rename_i h1 h2
        have h2 : off < z.length := by rw [Nat.blt_eq] at h2; exact h2
        have hone := one_of_rel (he x) h1
        have hpl : places.toArray[i]? = some (off, 1) := by rw [getL_eq] at hp; simpa using hp
        obtain ⟨ws, hw, hl', hr'⟩ := fillV_spec he places ps (z.set off (e x)) vs (cells.setIfInBounds off (e' x)) (by simp [hl]) (fun k c hc => by
          rw [List.getElem?_set] at hc
          rw [Array.getElem?_setIfInBounds]
          by_cases hk : off = k
          · subst hk
            rw [if_pos rfl, if_pos h2] at hc
            cases hc
            exact ⟨e' x, by simp [← hl, h2], he x⟩
          · rw [if_neg hk] at hc ⊢
            exact hr k c hc) h
        refine ⟨ws, ?_, hl', hr'⟩
        simp only [List.map_cons, Instr.fill, hpl, cells_of_one hone]
        rw [if_neg (by simp; omega)]
        simpa using hw
      · cases h
    · cases h

theorem VRel.agg_of {ρ : Ren} {N : Nat} {vs : List AV} {ws : Array Value} (hl : vs.length = ws.size) (h : ∀ (k : Nat) (c : AV), vs[k]? = some c → ∃ v, ws[k]? = some v ∧ VRel ρ N c v) : VRel ρ N (.agg vs) (.agg ws) :=
  .agg vs ws hl fun i a v ha hv => by
    obtain ⟨v', h1, h2⟩ := h i a ha
    rw [hv] at h1; cases h1; exact h2

theorem map_rel {e : Operand → AV} {e' : Operand → Value} {ρ : Ren} {N : Nat} (he : ∀ x, VRel ρ N (e x) (e' x)) (xs : Array Operand) (i : Nat) (a : AV) (v : Value) (ha : (xs.toList.map e)[i]? = some a) (hv : (xs.map e')[i]? = some v) : VRel ρ N a v := by
  rw [List.getElem?_map] at ha
  rw [Array.getElem?_map] at hv
  obtain ⟨x, hx, rfl⟩ := Option.map_eq_some_iff.1 ha
  obtain ⟨y, hy, rfl⟩ := Option.map_eq_some_iff.1 hv
  rw [Array.getElem?_toList] at hx
  rw [hx] at hy; cases hy; exact he x

theorem execOp_bi (ρ : Operand → Value) (dst : Option Tmp) (b : Builtin) (xs : Array Operand) (ats : Array TypeId) (ty : TypeId) (pos : String) (after : Array Edge) (guard : Option (Nat × Bool)) :
    execOp ρ { dst, op := .call { callee := .builtin b, args := xs, argTypes := ats }, type := ty, pos, after, guard } =
      builtin b ats ty (xs.map fun | .const _ => true | _ => false) (xs.map ρ) := rfl

theorem ints_rel {ρ : Ren} {N : Nat} {zs : List Int} {u : Value} (h : VRel ρ N (.vec (.ints zs)) u) : ∃ cs : Array Value, u = .agg cs ∧ cs.size = zs.length ∧ ∀ k, k < zs.length → cs[k]? = some (.int .i64 (zs.getD k 0)) := by
  cases h with
  | vec x u h =>
  simp only [Vec.cells] at h
  cases h with
  | agg vs ws hl hr =>
    refine ⟨ws, rfl, by simpa using hl.symm, fun k hk => ?_⟩
    have h1 : (zs.map (AV.int .i64))[k]? = some (.int .i64 (zs.getD k 0)) := by simp [hk]
    have h2 : ws[k]? = some (ws[k]'(by simpa using hl ▸ (by simpa using hk : k < (zs.map (AV.int .i64)).length))) := Array.getElem?_eq_getElem _
    have := hr k _ _ h1 h2
    rw [h2]
    cases hv : ws[k]'(by simpa using hl ▸ (by simpa using hk : k < (zs.map (AV.int .i64)).length)) <;> rw [hv] at this <;> cases this
    rfl

theorem isAgg_run {T : Tab P} {t : TypeId} {ti : TI} (h : T.ty t = some ti) (w : World) : (Go.isAgg t).run P w = .ok ti.k.agg w := by
  obtain ⟨d, hd, hf⟩ := (T.ok t ti h).und
  obtain ⟨k, s, b, z⟩ := ti
  cases k <;> simp only [TK.fits] at hf
  case struct fs => obtain ⟨f, rfl, _⟩ := hf; simp [Go.isAgg, run_underlying hd, TK.agg]
  case ptr => obtain ⟨e, rfl⟩ := hf; simp [Go.isAgg, run_underlying hd, TK.agg]
  case func => obtain ⟨x, y, z, rfl⟩ := hf; simp [Go.isAgg, run_underlying hd, TK.agg]
  all_goals subst hf; simp [Go.isAgg, run_underlying hd, TK.agg]

theorem atV_sound (T : Tab P) (t : TypeId) {ρ : Ren} {N : Nat} {w : World} {x i : AV} {u ui : Value} (hx : VRel ρ N x u) (hi : VRel ρ N i ui) :
    (atV T t x i).sound fun r => ∃ z, (Instr.index t u ui).run P w = .ok z w ∧ VRel ρ N r z := by
  unfold atV
  split
  · rename_i n el _ _ _ zs _ k hty
    split
    · rename_i ti hte
      split
      · rename_i hagg hsz
        rintro ⟨h0, h1, hlen⟩
        obtain ⟨cs, rfl, hcs, hget⟩ := ints_rel hx
        cases hi
        obtain ⟨d, hd, rfl⟩ := (T.ok t _ hty).und
        obtain ⟨ie, ze, hie, hise, _⟩ := (T.ok el _ hte).info
        have hsz := Nat.eq_of_beq_eq_true hsz
        have hk : k.toNat < zs.length := by omega
        refine ⟨_, ?_, .int .i64 (zs.getD k.toNat 0)⟩
        have hie1 : ie.size = 1 := by rw [hise, hsz]
        simp [Instr.index, asIntOf, run_underlying hd, h0, h1, Go.sizeOf, typeInfo, hie, hie1, Go.part, isAgg_run hte, hagg, hget _ hk]
      · trivial
    · trivial
  · trivial

theorem pureV_sound {cx : Cx} {ρ : Ren} {st : St} {a : Act} {w : World} (T : Tab P) (h : Sim cx ρ st a w) (o : Oper) :
    (pureV T (ev st.t) o.op).sound fun v => Yields P o a w (VRel ρ st.h.length v) := by
  have he := fun x => ev_rel h x
  have val : ∀ (s : Sem Value) (Q : Res), (Q.sound fun r => ∃ z, s.run P w = .ok z w ∧ VRel ρ st.h.length r z) → (execOp a.eval o = do pure (.value (← s))) → Q.sound fun v => Yields P o a w (VRel ρ st.h.length v) := fun s Q hq hx =>
    hq.imp fun v ⟨z, hz, hv⟩ => ⟨z, by rw [hx]; simp [hz], hv⟩
  obtain ⟨dst, op, ty, pos, after, guard⟩ := o
  cases op <;> simp only [pureV] <;> try trivial
  case move x =>
    split
    · trivial
    · exact (moveV_sound (he x)).imp fun v hv => ⟨_, rfl, hv⟩
  case assign x =>
    split
    · trivial
    · exact (moveV_sound (he x)).imp fun v hv => ⟨_, rfl, hv⟩
  case pick c x y =>
    refine (pickV_sound (he c) (he x) (he y)).imp fun v ⟨g, hg, hv⟩ => ⟨_, ?_, hv⟩
    simp [execOp, hg, asBool]
  case binOp op xt x y yt =>
    split
    · rename_i hq; exact val _ _ (structV_sound T op hq x y (he x) (he y)) rfl
    · exact val _ _ (binOpV_sound T op xt x y (he x) (he y)) rfl
  case unOp op xt x =>
    have hx := he x
    split
    · rename_i b hb; rw [hb] at hx
      cases hu : a.eval x <;> rw [hu] at hx <;> cases hx
      exact ⟨.bool (!b), by simp [execOp, hu, Op.unary], .bool _⟩
    · rename_i k n hb; rw [hb] at hx
      cases hu : a.eval x <;> rw [hu] at hx <;> cases hx
      exact (arith_sound k (0 - n)).imp fun v hv => ⟨.int k (k.wrap (0 - n)), by simp [execOp, hu, Op.unary, Op.intArith], hv⟩
    · trivial
  case convert s d x =>
    split
    · rename_i k0 _ _ _ k1 _ _ _ k n hs hd hn
      have hx := he x
      rw [hn] at hx
      cases hu : a.eval x <;> rw [hu] at hx <;> cases hx
      obtain ⟨ds, hds, rfl⟩ := (T.ok s _ hs).und
      obtain ⟨dd, hdd, rfl⟩ := (T.ok d _ hd).und
      exact (arith_sound k1 n).imp fun v hv => ⟨_, by simp [execOp, hu, convert, run_underlying hds, run_underlying hdd, Conv.intToInt], hv⟩
    · trivial
  case extract x i =>
    split
    · rename_i vs hvs
      have hx := he x
      rw [hvs] at hx
      cases hu : a.eval x <;> rw [hu] at hx <;> cases hx
      rename_i ws hl hr
      split
      · rename_i v hv
        rw [getL_eq] at hv
        have hi := (List.getElem?_eq_some_iff.1 hv).1
        refine ⟨ws[i]'(by omega), by simp [execOp, hu, Instr.extract, show i < ws.size by omega], hr i v _ hv (by simp [show i < ws.size by omega])⟩
      · trivial
    · trivial
  case fieldAddr t x f => exact val _ _ (fieldV_sound T t f (he x)) rfl
  case indexAddr t x i => exact val _ _ (indexV_sound T t (he x) (he i)) rfl
  case slice t x lo hi mx => exact val _ _ (cutV_sound T t (boundV_rel h lo) (boundV_rel h hi) (boundV_rel h mx) (he x)) rfl
  case makeFunc fn first cap =>
    split
    · rename_i f hf
      obtain rfl : first = #[] := by cases first; simp_all
      exact ⟨_, by simp [execOp, Instr.makeFunc], .func f _ _ (by simp) (map_rel he cap)⟩
    · trivial
  case nilCheck x =>
    split
    · rename_i p hp
      have hx := he x
      rw [hp] at hx
      cases hu : a.eval x <;> rw [hu] at hx <;> cases hx
      exact ⟨_, by simp [execOp, hu], .ptr _ ‹_›⟩
    · trivial
  case build t ps =>
    split
    · rename_i fs s b z hty
      split
      · rename_i places hpl
        split
        · rename_i vs hvs
          have hT := T.ok t _ hty
          obtain ⟨d, hd, fa, rfl, hfs⟩ := hT.und
          obtain ⟨i, zz, hi, hsz, hbz, hzz, hzl⟩ := hT.info
          obtain ⟨ws, hw, hl, hr⟩ := fillV_spec he places ps.toList z vs zz.cells (by have := hT.zlen; simp only at this hzl; omega) (fun k c hc => by
            obtain ⟨v, h1, _, h3⟩ := hT.zero i zz hi hzz k c hc
            exact ⟨v, h1, h3 _ _⟩) hvs
          rw [← hfs] at hpl
          have hb : P.built t (ps.map fun p => (p.1, a.eval p.2)).toList = some ws := by
            simp only [Program.built, hi, hd, hzz, placesV_spec T _ _ hpl]
            rw [show (ps.map fun p => (p.1, a.eval p.2)).toList = ps.toList.map fun p => (p.1, a.eval p.2) by simp]
            exact hw
          exact ⟨_, by simp [execOp, run_build w t _ ws hb], VRel.agg_of hl hr⟩
        · trivial
      · trivial
    · rename_i n el s b z hty
      split
      · rename_i te τ hte her hps
        split
        rotate_left
        · trivial
        rename_i x hx
        intro hzx
        have hT := T.ok t _ hty
        obtain ⟨d, hd, rfl⟩ := hT.und
        obtain ⟨i, zz, hi, hsz, hbz, hzz, hzl⟩ := hT.info
        obtain ⟨ie, ze, hie, _⟩ := (T.ok el _ hte).info
        have hb : P.built t (ps.map fun p => (p.1, a.eval p.2)).toList = some zz.cells := by
          simp only [Program.built, hi, hd, hzz, hie]
          rw [show (ps.map fun p => (p.1, a.eval p.2)).toList = [] by simp [hps]]
          rfl
        refine ⟨.agg zz.cells, by simp [execOp, run_build w t _ _ hb], .vec x _ ?_⟩
        rw [← hzx]
        refine VRel.agg_of (by have := hT.zlen; simp only at this hzl; omega) fun k c hc => ?_
        obtain ⟨v, h1, _, h3⟩ := hT.zero i zz hi hzz k c hc
        exact ⟨v, h1, h3 _ _⟩
      · trivial
    · trivial
  case index t x i => exact val _ _ (atV_sound T t (he x) (he i)) rfl
  case call c =>
    obtain ⟨callee, args, ats⟩ := c
    cases callee
    case value f => trivial
    case invoke r m => trivial
    case builtin b =>
      cases b <;> try trivial
      case len =>
        simp only
        split
        · rename_i x t hx ht
          split
          · rename_i e _ _ _ hty
            obtain ⟨d, hd, rfl⟩ := (T.ok t _ hty).und
            obtain rfl : args = #[x] := by cases args; simp_all
            obtain rfl : ats = #[t] := by cases ats; simp_all
            exact val _ _ (lenV_sound hd #[t] ty rfl (he x)) (by rw [execOp_bi]; simp only [List.map_toArray, List.map_cons, List.map_nil]; rfl)
          · trivial
        · trivial
      case min =>
        simp only
        split
        · rename_i x y hx
          obtain rfl : args = #[x, y] := by cases args; simp_all
          exact val _ _ (minV_sound ats ty (he x) (he y)) (by rw [execOp_bi]; simp only [List.map_toArray, List.map_cons, List.map_nil]; rfl)
        · trivial
      case max =>
        simp only
        split
        · rename_i x y hx
          obtain rfl : args = #[x, y] := by cases args; simp_all
          exact val _ _ (maxV_sound ats ty (he x) (he y)) (by rw [execOp_bi]; simp only [List.map_toArray, List.map_cons, List.map_nil]; rfl)
        · trivial
end YtnfcnocoehkgoaaAM
