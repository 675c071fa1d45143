/- The abstract steps that read or turn memory, and calls; that they are sound. -/
import Derived.Test.YtofjbgpaofcpjaaAmStep
set_option linter.unusedVariables false
set_option linter.unusedSimpArgs false
namespace YtofjbgpaofcpjaaAM
open Go
variable {P : Program}

/-! ### Reading -/
def isArr : TK → Bool
  | .array .. => true
  | _ => false
def vecOf : (τ : Ty) → List τ.El → Option Vec
  | .int, l => some (.ints l)
  | .bool, l => some (.bools l)
  | .hop, l => some (.hops l)
  | _, _ => none
theorem vecOf_cells : ∀ {τ : Ty} {l : List τ.El} {x : Vec}, vecOf τ l = some x → x.cells = l.flatMap τ.enc := fun {τ l x} h => by
  cases τ <;> simp only [vecOf, Option.some.injEq, reduceCtorEq] at h
  · subst h; simp only [Vec.cells, Ty.enc]; induction l with | nil => rfl | cons a l ih => rw [List.map_cons, List.flatMap_cons, ih]; rfl
  · subst h; simp only [Vec.cells, Ty.enc]; induction l with | nil => rfl | cons a l ih => rw [List.map_cons, List.flatMap_cons, ih]; rfl
  · subst h; rfl
/-- The value of a whole array. -/
def wholeV (ti : TI) (τ : Ty) (l : List τ.El) (idx fld : Nat) : Res :=
  match idx, fld, vecOf τ l with
  | 0, 0, some x => .vc (l.length * τ.n = ti.size) (.vec x)
  | _, _, _ => .bad

/-- The value of element x's cell(s). -/
def elemV (ti : TI) (τ : Ty) (l : List τ.El) (idx fld : Nat) : Res :=
  match ti.k.agg with
  | true => match fld, Nat.beq ti.size τ.n with
    | 0, true => .vc (idx < l.length) (.agg (τ.enc (l.getD idx τ.d)))
    | _, _ => .bad
  | false => match getL (τ.enc (l.getD idx τ.d)) fld with
    | some v => .vc (idx < l.length) v
    | none => .bad

def readV (T : Tab P) (t : Nat → AV) (H : List AObj) : Op → Res
  | .load ty x => match ev t x, T.ty ty with
    | .ptr a, some ti => match getL H a.id with
      | some (.arr _ τ l) => match a.row, Nat.beq τ.n a.esz with
        | 0, true => match isArr ti.k with
          | true => wholeV ti τ l a.idx a.fld
          | false => elemV ti τ l a.idx a.fld
        | _, _ => .bad
      | some (.rows _ ll) => match a.row, ti.k.agg, a.esz, a.fld with
        | 0, false, 1, 0 => .vc (a.idx < ll.length) (.slice ⟨a.id, a.idx + 1, 0, 1, 0⟩ (ll.getD a.idx []).length)
        | r + 1, false, 1, 0 => .vc (r < ll.length ∧ a.idx < (ll.getD r []).length) (.int .i64 ((ll.getD r []).getD a.idx 0))
        | _, _, _, _ => .bad
      | _ => .bad
    | _, _ => .bad
  | _ => .bad

theorem Place.addr_add (p : Place) (k j : Nat) : (p.addr k).add j = p.addr (k + j) := by
  simp only [Place.addr, Addr.add_mid]; congr 1; omega

/-- m cells from k on. -/
theorem RowH.read {ρ : Ren} {N : Nat} {w : World} {p : Place} {ro : Bool} {cs : List AV} (h : RowH ρ N w p ro cs) (k : Nat) : ∀ m, k + m ≤ cs.length →
    ∃ ws : List Value, ws.length = m ∧ (∀ (j : Nat) (v : Value), ws[j]? = some v → w.cell? (p.addr (k + j)) = some v ∧ v.oneCell' = true) ∧ ∀ (j : Nat) (c : AV) (v : Value), j < m → cs[k + j]? = some c → ws[j]? = some v → VRel ρ N c v
  | 0, _ => ⟨[], rfl, fun j v hv => by simp at hv, fun j c v hj => by omega⟩
  | m + 1, hm => by
    obtain ⟨ws, hl, h1, h2⟩ := h.read k m (by omega)
    have hc : cs[k + m]? = some (cs[k + m]'(by omega)) := List.getElem?_eq_getElem (by omega)
    obtain ⟨v, hv, hr, ho⟩ := h.cell (k + m) _ hc
    refine ⟨ws ++ [v], by simp [hl], fun j u hu => ?_, fun j c u hj hcj hu => ?_⟩
    · rcases snoc_get hu with ⟨_, hu⟩ | ⟨rfl, rfl⟩
      · exact h1 j u hu
      · rw [hl]; exact ⟨hv, ho⟩
    · rcases snoc_get hu with ⟨hjl, hu⟩ | ⟨rfl, rfl⟩
      · exact h2 j c u (by omega) hcj hu
      · rw [hl, hc] at hcj; cases hcj; exact hr

theorem Tab.isAgg (T : Tab P) {t : TypeId} {ti : TI} (h : T.ty t = some ti) (w : World) : (Go.isAgg t).run P w = .ok ti.k.agg w := by
  obtain ⟨d, hd, hf⟩ := (T.ok t ti h).und
  obtain ⟨k, s, b, z⟩ := ti
  cases k <;> simp only [TK.fits] at hf
  case struct fs => obtain ⟨f, rfl, _⟩ := hf; simp [Go.isAgg, run_underlying hd, TK.agg]
  case ptr => obtain ⟨e, rfl⟩ := hf; simp [Go.isAgg, run_underlying hd, TK.agg]
  case func => obtain ⟨x, y, z, rfl⟩ := hf; simp [Go.isAgg, run_underlying hd, TK.agg]
  all_goals subst hf; simp [Go.isAgg, run_underlying hd, TK.agg]

theorem Tab.size (T : Tab P) {t : TypeId} {ti : TI} (h : T.ty t = some ti) (w : World) : (Go.sizeOf t).run P w = .ok ti.size w := by
  obtain ⟨i, z, hi, hs, _⟩ := (T.ok t ti h).info
  simp [Go.sizeOf, typeInfo, hi, hs]

theorem run_loadVar_agg (T : Tab P) {t : TypeId} {ti : TI} (h : T.ty t = some ti) (hg : ti.k.agg = true) (w : World) (p : Place) (k : Nat) (ws : List Value) (hl : ws.length = ti.size)
    (hw : ∀ (j : Nat) (v : Value), ws[j]? = some v → w.cell? (p.addr (k + j)) = some v) : (loadVar t (p.addr k)).run P w = .ok (.agg ws.toArray) w := by
  have := run_loadCells_list (P := P) w (p.addr k) ws (fun j v hv => by rw [Place.addr_add]; exact hw j v hv)
  simp [loadVar, T.isAgg h, hg, T.size h, ← hl, this]

theorem run_loadVar_one (T : Tab P) {t : TypeId} {ti : TI} (h : T.ty t = some ti) (hg : ti.k.agg = false) (w : World) (a : Addr) (v : Value) (hv : w.cell? a = some v) : (loadVar t a).run P w = .ok v w := by
  simp [loadVar, T.isAgg h, hg, hv]

theorem arr_wf {ρ : Ren} {H : List AObj} {w : World} (h : HSim ρ H w) {id : Nat} {ro : Bool} {τ : Ty} {l : List τ.El} (ho : H[id]? = some (.arr ro τ l)) : ∀ x ∈ l, (τ.enc x).length = τ.n := h.wf id _ ho

theorem arr_row {ρ : Ren} {H : List AObj} {w : World} (h : HSim ρ H w) {id : Nat} {ro : Bool} {τ : Ty} {l : List τ.El} (ho : H[id]? = some (.arr ro τ l)) : RowH ρ H.length w (ρ id 0) ro (l.flatMap τ.enc) := h.row id _ 0 _ ho rfl

theorem getD_some {α : Type} {l : List α} {i : Nat} {d : α} (h : i < l.length) : l[i]? = some (l.getD i d) := by simp [List.getElem?_eq_getElem h]

theorem rows_row (id : Nat) (ro : Bool) (ll : List (List Int)) (r : Nat) : (AObj.rows ro ll).row id (r + 1) = (ll[r]?).map (ints .i64) := by simp [AObj.row]

theorem readV_sound {cx : Cx} {ρ : Ren} {st : St} {a : Act} {w : World} (T : Tab P) (h : Sim cx ρ st a w) (o : Oper) :
    (readV T st.t st.h o.op).sound fun v => Yields P o a w (VRel ρ st.h.length v) := by
  obtain ⟨dst, op, ty, pos, after, guard⟩ := o
  cases op <;> simp only [readV] <;> try trivial
  case load t x =>
    have hx := ev_rel h x
    split
    · rename_i q ti hq hti
      rw [hq] at hx
      cases hu : a.eval x <;> rw [hu] at hx <;> cases hx
      rename_i hid
      have fin : ∀ (v : AV) (u : Value), (loadVar t (q.at ρ)).run P w = .ok u w → VRel ρ st.h.length v u → Yields P ⟨dst, .load t x, ty, pos, after, guard⟩ a w (VRel ρ st.h.length v) := fun v u hr hv =>
        ⟨u, by simp [execOp, hu, Instr.loadAt, Instr.sureAddr, hr], hv⟩
      split
      · rename_i ro τ l ho
        rw [getL_eq] at ho
        have hrow := arr_row h.hs ho
        have hwf := arr_wf h.hs ho
        split
        · rename_i hr0 hesz
          have hesz := Nat.eq_of_beq_eq_true hesz
          have hat : q.at ρ = (ρ q.id 0).addr (q.idx * τ.n + q.fld) := by simp only [AAddr.at, AAddr.cell, hr0, hesz]
          split
          · rename_i harr
            unfold wholeV
            split
            · rename_i x hi0 hf0 hx
              intro hsz
              have hagg : ti.k.agg = true := by cases hk : ti.k <;> rw [hk] at harr <;> first | rfl | cases harr
              have hlen := flat_length τ.enc l hwf
              obtain ⟨ws, hl, h1, h2⟩ := hrow.read 0 ti.size (by omega)
              refine fin _ _ (by rw [hat, hf0, hi0]; simp only [Nat.zero_mul]; exact run_loadVar_agg T hti hagg w _ _ ws hl fun j v hv => (h1 j v hv).1) (.vec x _ ?_)
              rw [vecOf_cells hx]
              refine .agg _ _ (by rw [List.size_toArray]; omega) fun j c v hc hv => ?_
              have hj : j < ti.size := by have := (List.getElem?_eq_some_iff.1 hc).1; omega
              exact h2 j c v hj (by rw [Nat.zero_add]; exact hc) (by simpa using hv)
            · trivial
          unfold elemV
          split
          · rename_i hagg
            split
            · rename_i hf0 hsz
              have hsz := Nat.eq_of_beq_eq_true hsz
              intro hi
              have hix := getD_some (d := τ.d) hi
              have hx := hwf _ (List.mem_of_getElem? hix)
              have hlen := flat_length τ.enc l hwf
              have hle : q.idx * τ.n + ti.size ≤ (l.flatMap τ.enc).length := by rw [hlen, hsz, ← Nat.succ_mul]; exact Nat.mul_le_mul_right _ hi
              obtain ⟨ws, hl, h1, h2⟩ := hrow.read (q.idx * τ.n) ti.size hle
              refine fin _ _ (by rw [hat, hf0]; exact run_loadVar_agg T hti hagg w _ _ ws hl fun j v hv => (h1 j v hv).1) (.agg _ _ (by rw [List.size_toArray]; omega) fun j c v hc hv => ?_)
              have hj : j < τ.n := by have := (List.getElem?_eq_some_iff.1 hc).1; omega
              exact h2 j c v (by omega) (by rw [flat_at τ.enc hwf hix hj]; exact hc) (by simpa using hv)
            · trivial
          · rename_i hagg
            split
            · rename_i v hv
              intro hi
              rw [getL_eq] at hv
              have hix := getD_some (d := τ.d) hi
              have hx := hwf _ (List.mem_of_getElem? hix)
              have hj : q.fld < τ.n := by have := (List.getElem?_eq_some_iff.1 hv).1; omega
              obtain ⟨u, h1, h2, h3⟩ := hrow.cell (q.idx * τ.n + q.fld) v (by rw [flat_at τ.enc hwf hix hj]; exact hv)
              exact fin _ _ (by rw [hat]; exact run_loadVar_one T hti hagg w _ u h1) h2
            · trivial
        · trivial
      · rename_i ro ll ho
        rw [getL_eq] at ho
        split
        · rename_i hr0 hagg hesz hfld
          intro hi
          have hrow := h.hs.row q.id _ 0 _ ho rfl
          have hat : q.at ρ = (ρ q.id 0).addr q.idx := by simp only [AAddr.at, AAddr.cell, hr0, hesz, hfld]; congr 1; omega
          obtain ⟨u, h1, h2, h3⟩ := hrow.cell q.idx (.slice ⟨q.id, q.idx + 1, 0, 1, 0⟩ (ll.getD q.idx []).length) (by
            have key : ∀ (l : List (List Int)) (k i : Nat), i < l.length → (hdrs q.id k l)[i]? = some (.slice ⟨q.id, k + i + 1, 0, 1, 0⟩ (l.getD i []).length) := by
              intro l
              induction l with
              | nil => intro k i hi; simp at hi
              | cons r rs ih =>
                intro k i hi
                cases i with
                | zero => simp [hdrs]
                | succ i => simp only [hdrs, List.getElem?_cons_succ]; rw [ih (k + 1) i (by simpa using hi)]; simp; omega
            have := key ll 0 q.idx hi
            simpa using this)
          exact fin _ _ (by rw [hat]; exact run_loadVar_one T hti hagg w _ u h1) h2
        · rename_i r hr0 hagg hesz hfld
          rintro ⟨hr, hi⟩
          have hrow := h.hs.row q.id _ (r + 1) (ints .i64 (ll.getD r [])) ho (by rw [rows_row, getD_some (d := []) hr]; rfl)
          have hat : q.at ρ = (ρ q.id (r + 1)).addr q.idx := by simp only [AAddr.at, AAddr.cell, hr0, hesz, hfld]; congr 1; omega
          obtain ⟨u, h1, h2, h3⟩ := hrow.cell q.idx (.int .i64 ((ll.getD r []).getD q.idx 0)) (by unfold ints; rw [List.getElem?_map, getD_some (d := 0) hi]; rfl)
          exact fin _ _ (by rw [hat]; exact run_loadVar_one T hti hagg w _ u h1) h2
        · trivial
      · trivial
    · trivial

/-! ### Calls -/
/-- The blocks that may be written, of a heap. -/
def WB (ρ : Ren) (H : List AObj) (b : Nat) : Prop :=
  ∃ (id : Nat) (o : AObj) (r : Nat), H[id]? = some o ∧ o.ro = false ∧ (o.row id r).isSome = true ∧ 0 < (ρ id r).room ∧ (ρ id r).block = b

structure Comes' (P : Program) (ρ : Ren) (H : List AObj) (w : World) (K : AV → List AObj → Prop) (e : Ending) (w' : World) : Prop where
  out : ∃ (v : Value) (r : AV) (H' : List AObj) (ρ' : Ren), e = .returned v ∧ K r H' ∧ VRel ρ' H'.length r v ∧ HSim ρ' H' w' ∧ Frame w (WB ρ H) w' ∧ Agree H.length ρ ρ' ∧ H.length ≤ H'.length ∧
    (∀ (id : Nat) (o : AObj) (q : Nat), H'[id]? = some o → o.ro = false → (o.row id q).isSome = true → 0 < (ρ' id q).room → WB ρ H (ρ' id q).block ∨ w.heap.size ≤ (ρ' id q).block)
    ∧ (∀ (id : Nat) (o : AObj), H.length ≤ id → H'[id]? = some o → o = .dead ∨ o.ro = false)

/-- The functions that are called are Go text. -/
def IsText (P : Program) (f : FuncId) : Prop := ∃ fn, P.funcs[f]? = some fn ∧ fn.body.isSome = true ∧ (fn.name == "runtime.NumGoroutine") = false

/-- Function f, called with these arguments in this heap, comes to a value and a heap of which K holds. -/
structure ACall (P : Program) (f : FuncId) (args : List AV) (H : List AObj) (K : AV → List AObj → Prop) : Prop where
  text : IsText P f
  nv : ∃ r H', K r H'
  run : ∀ (ρ : Ren) (w : World) (vals : Array Value), HSim ρ H w → vals.size = args.length →
    (∀ (i : Nat) (a : AV) (v : Value), args[i]? = some a → vals[i]? = some v → VRel ρ H.length a v) → Calls P f vals w (Comes' P ρ H w K)

theorem ACall.mono {f : FuncId} {args : List AV} {H : List AObj} {K K' : AV → List AObj → Prop} (h : ACall P f args H K) (hK : ∀ r H', K r H' → K' r H') : ACall P f args H K' :=
  ⟨h.text, (by obtain ⟨r, H', hk⟩ := h.nv; exact ⟨r, H', hK r H' hk⟩), fun ρ w vals h1 h2 h3 => (h.run ρ w vals h1 h2 h3).mono fun e w' ⟨v, r, H', ρ', he, hk, rest⟩ => ⟨v, r, H', ρ', he, hK r H' hk, rest⟩⟩

/-! ### Effects -/
def setL {α : Type} : List α → Nat → α → List α
  | [], _, _ => []
  | _ :: l, 0, b => b :: l
  | a :: l, n + 1, b => a :: setL l n b
theorem setL_eq {α : Type} (l : List α) : ∀ n b, setL l n b = l.set n b := by
  induction l with
  | nil => intro n b; rfl
  | cons a l ih => intro n b; cases n <;> simp [setL, ih]

def snocL {α : Type} : List α → α → List α
  | [], b => [b]
  | a :: l, b => a :: snocL l b
theorem snocL_eq {α : Type} (l : List α) (b : α) : snocL l b = l ++ [b] := by
  induction l with
  | nil => rfl
  | cons a l ih => simp [snocL, ih]

/-- A new object, and a temporary that leads to it. -/
def newK (st : St) (dst : Option Nat) (K : St → Prop) (o : AObj) (v : Nat → AV) : Prop := K (St.put ⟨st.t, snocL st.h o⟩ dst (v st.h.length))

def emptyOf (T : Tab P) (ty : TypeId) : Option (AObj × Nat) :=
  match T.ty ty with
  | some ⟨.slice e, _, _, _⟩ => match T.er e with
    | some (.ty τ) => some (.arr false τ [], τ.n)
    | some .row => some (.rows false [], 1)
    | none => none
  | _ => none

def isNil : Operand → Bool
  | .const (.slice none 0 0) => true
  | _ => false

/-- Elements out of values. -/
def partsV (e : Operand → AV) : Nat → List (Nat × Operand) → Option (List (List AV))
  | _, [] => some []
  | i, (j, x) :: r => match Nat.beq i j, partsV e (i + 1) r with
    | true, some l => match e x with
      | .agg vs => some (vs :: l)
      | .undef | .tuple _ => none
      | v => some ([v] :: l)
    | _, _ => none

/-- 'make([]T, n)'. -/
def makeK (T : Tab P) (st : St) (dst : Option Nat) (K : St → Prop) (e : TypeId) (n : Int) : Prop :=
  match T.ty e, T.er e with
  | some te, some (.ty τ) => VC (0 ≤ n ∧ n * te.bytes ≤ 281474976710656 ∧ τ.enc τ.d = te.zero ∧ te.size = τ.n) (newK st dst K (.arr false τ (List.replicate n.toNat τ.d)) fun N => .slice ⟨N, 0, 0, τ.n, 0⟩ n.toNat)
  | some te, some .row => VC (0 ≤ n ∧ n * te.bytes ≤ 281474976710656 ∧ te.zero = [.nilS] ∧ te.size = 1) (newK st dst K (.rows false (List.replicate n.toNat [])) fun N => .slice ⟨N, 0, 0, 1, 0⟩ n.toNat)
  | _, _ => False

/-- A store of a whole array: the new list, where it is of the same kind. -/
def vecTo : (τ : Ty) → Vec → Option (List τ.El)
  | .int, .ints l => some l
  | .bool, .bools l => some l
  | .hop, .hops l => some l
  | _, _ => none
theorem vecTo_cells : ∀ {τ : Ty} {l : List τ.El} {x : Vec}, vecTo τ x = some l → x.cells = l.flatMap τ.enc := fun {τ l x} h => by
  cases τ <;> cases x <;> simp only [vecTo, Option.some.injEq, reduceCtorEq] at h
  · subst h; simp only [Vec.cells, Ty.enc]; rename_i l; induction l with | nil => rfl | cons a l ih => rw [List.map_cons, List.flatMap_cons, ih]; rfl
  · subst h; simp only [Vec.cells, Ty.enc]; rename_i l; induction l with | nil => rfl | cons a l ih => rw [List.map_cons, List.flatMap_cons, ih]; rfl
  · subst h; rfl
theorem vecTo_def : ∀ {τ : Ty} {l : List τ.El} {x : Vec}, vecTo τ x = some l → AV.undef ∉ l.flatMap τ.enc := fun {τ l x} h hm => by
  cases τ <;> cases x <;> simp only [vecTo, Option.some.injEq, reduceCtorEq] at h
  all_goals
    obtain ⟨y, _, hy⟩ := List.mem_flatMap.1 hm
    simp [Ty.enc] at hy
theorem vecTo_wf : ∀ {τ : Ty} {l : List τ.El} {x : Vec}, vecTo τ x = some l → ∀ y ∈ l, (τ.enc y).length = τ.n := fun {τ l x} h y _ => by
  cases τ <;> cases x <;> simp only [vecTo, reduceCtorEq] at h <;> rfl

/-- A store at a place. -/
def storeK (T : Tab P) (st : St) (K : St → Prop) (ti : TI) (a : AAddr) (v : AV) : Prop :=
  match getL st.h a.id with
  | some (.arr false τ l) => match a.row, Nat.beq τ.n a.esz with
    | 0, true => match ti.k.agg with
      | true => match v, a.fld with
        | .agg vs, 0 => VC (a.idx < l.length ∧ vs.length = τ.n ∧ τ.n = ti.size ∧ τ.enc (τ.dec vs) = vs ∧ vs.all AV.one = true) (K ⟨st.t, setL st.h a.id (.arr false τ (l.set a.idx (τ.dec vs)))⟩)
        | .vec x, 0 => match a.idx, vecTo τ x with
          | 0, some l' => VC (l'.length = l.length ∧ l.length * τ.n = ti.size) (K ⟨st.t, setL st.h a.id (.arr false τ l')⟩)
          | _, _ => False
        | _, _ => False
      | false => match v.one, Nat.beq ti.size 1 with
        | true, true => VC (a.idx < l.length ∧ a.fld < τ.n ∧ τ.enc (τ.dec (setL (τ.enc (l.getD a.idx τ.d)) a.fld v)) = setL (τ.enc (l.getD a.idx τ.d)) a.fld v)
          (K ⟨st.t, setL st.h a.id (.arr false τ (l.set a.idx (τ.dec (setL (τ.enc (l.getD a.idx τ.d)) a.fld v))))⟩)
        | _, _ => False
    | _, _ => False
  | some (.rows false ll) => match a.row, ti.k.agg, a.esz, a.fld, v with
    | r + 1, false, 1, 0, .int .i64 n => VC (r < ll.length ∧ a.idx < (ll.getD r []).length ∧ ti.size = 1) (K ⟨st.t, setL st.h a.id (.rows false (ll.set r ((ll.getD r []).set a.idx n)))⟩)
    | _, _, _, _, _ => False
  | _ => False

/-- What a slice reads as. -/
def sliceOf {α : Type} (l : List α) (idx len : Nat) : List α :=
  match idx with
  | 0 => l.take len
  | i + 1 => (l.drop (i + 1)).take len
theorem sliceOf_eq {α : Type} (l : List α) (idx len : Nat) : sliceOf l idx len = (l.drop idx).take len := by cases idx <;> simp [sliceOf]

def castL {τ τ' : Ty} (h : τ = τ') (l : List τ.El) : List τ'.El := h ▸ l

/-- The elements that a slice value reads as: a condition and the list. -/
def srcV (H : List AObj) (τ : Ty) : AV → Option (Prop × List τ.El × Nat)
  | .slice b m | .cslice b m _ => match getL H b.id, b.fld with
    | some (.arr _ τ' l), 0 => match b.row, Nat.beq τ'.n b.esz, decEq τ' τ with
      | 0, true, .isTrue h => some (b.idx + m ≤ l.length, castL h (sliceOf l b.idx m), m)
      | _, _, _ => none
    | some (.rows _ ll), 0 => match b.row, Nat.beq 1 b.esz, decEq Ty.int τ with
      | r + 1, true, .isTrue h => some (r < ll.length ∧ b.idx + m ≤ (ll.getD r []).length, castL h (sliceOf (ll.getD r []) b.idx m), m)
      | _, _, _ => none
    | _, _ => none
  | .nilS => some (True, [], 0)
  | _ => none

def appendK (T : Tab P) (st : St) (dst : Option Nat) (K : St → Prop) (e : TypeId) (s x : AV) : Prop :=
  match T.ty e, T.er e with
  | some te, some (.ty τ) => match srcV st.h τ x with
    | some (p, l', m) => match s with
      | .nilS => VC (p ∧ m * te.bytes ≤ 140737488355328 ∧ te.size = τ.n) (newK st dst K (.arr false τ l') fun N => .slice ⟨N, 0, 0, τ.n, 0⟩ m)
      | .cslice a 0 0 => VC (p ∧ m * te.bytes ≤ 140737488355328 ∧ te.size = τ.n) (newK st dst K (.arr false τ l') fun N => .slice ⟨N, 0, 0, τ.n, 0⟩ m)
      | .slice a len => match getL st.h a.id, a.row, a.fld with
        | some (.arr false τ' l), 0, 0 => match Nat.beq τ'.n a.esz, decEq τ' τ with
          | true, .isTrue h => VC (p ∧ a.idx + len ≤ l.length ∧ (len + m) * te.bytes ≤ 140737488355328 ∧ te.size = τ.n)
              (newK ⟨st.t, setL st.h a.id .dead⟩ dst K (.arr false τ (castL h (sliceOf l a.idx len) ++ l')) fun N => .slice ⟨N, 0, 0, τ.n, 0⟩ (len + m))
          | _, _ => False
        | _, _, _ => False
      | _ => False
    | none => False
  | _, _ => False

/-- A list with a part written over from i on. -/
def copyL (l : List Int) (i : Nat) (x : List Int) : List Int := l.take i ++ x ++ l.drop (i + x.length)

/-- 'copy(d, s)' of whole numbers. -/
def copyK (T : Tab P) (st : St) (dst : Option Nat) (K : St → Prop) (e : TypeId) (d s : AV) : Prop :=
  match T.ty e, T.er e with
  | some te, some (.ty .int) => match srcV st.h .int s with
    | some (p, l', m) => match d with
      | .slice a len => match getL st.h a.id, a.row, a.fld with
        | some (.arr false .int l), 0, 0 => match Nat.beq 1 a.esz with
          | true => VC (p ∧ a.idx + len ≤ l.length ∧ te.size = 1) (K (St.put ⟨st.t, setL st.h a.id (.arr false .int (copyL l a.idx (l'.take (Nat.min m len))))⟩ dst (.int .i64 (Nat.min m len : Nat))))
          | false => False
        | _, _, _ => False
      | _ => False
    | none => False
  | _, _ => False

/-- A slice held against nil: which it is, isn't told; if it is, it has no elements. -/
structure NilQ (p q r : Prop) : Prop where
  yes : p → q
  no : r
def nilK (st : St) (dst : Option Nat) (K : St → Prop) (op : BinOp) (v : AV) : Prop :=
  match op, v with
  | .eql, .slice _ len => NilQ (len = 0) (K (st.put dst (.bool true))) (K (st.put dst (.bool false)))
  | .eql, .nilS => K (st.put dst (.bool true))
  | _, _ => False
def isSliceT (ti : Option TI) : Bool :=
  match ti with
  | some ⟨.slice _, _, _, _⟩ => true
  | _ => false

def nilP (T : Tab P) (st : St) (dst : Option Nat) (K : St → Prop) : Op → Prop
  | .binOp op t x y _ => match isNil y, isSliceT (T.ty t) with
    | true, true => nilK st dst K op (ev st.t x)
    | _, _ => False
  | _ => False

/-- Operations with an effect. -/
def effP (T : Tab P) (st : St) (o : Oper) (K : St → Prop) : Prop :=
  match o.op with
  | .assign x | .move x => match isNil x, emptyOf T o.type with
    | true, some (ob, n) => newK st o.dst K ob fun N => .slice ⟨N, 0, 0, n, 0⟩ 0
    | _, _ => False
  | .alloc t => match T.ty t with
    | some ⟨.array n e, _, _, z⟩ => match T.er e, T.ty e with
      | some (.ty τ), some te => VC (τ.enc τ.d = te.zero ∧ te.size = τ.n ∧ z = (List.replicate n τ.d).flatMap τ.enc) (newK st o.dst K (.arr false τ (List.replicate n τ.d)) fun N => .ptr ⟨N, 0, 0, τ.n, 0⟩)
      | _, _ => False
    | some ⟨_, n, _, z⟩ => newK st o.dst K (.arr false (.raw n) [z]) fun N => .ptr ⟨N, 0, 0, n, 0⟩
    | none => False
  | .box t x => match T.ty t with
    | some ⟨.struct _, n, _, _⟩ => match ev st.t x with
      | .agg vs => VC (vs.length = n ∧ vs.all AV.one = true) (newK st o.dst K (.arr false (.raw n) [vs]) fun N => .ptr ⟨N, 0, 0, n, 0⟩)
      | _ => False
    | some ⟨.array _ _, _, _, _⟩ => match ev st.t x with
      | .vec (.ints l) => newK st o.dst K (.arr false .int l) fun N => .ptr ⟨N, 0, 0, 1, 0⟩
      | _ => False
    | some ⟨k, n, _, _⟩ => match k.agg, (ev st.t x).one with
      | false, true => newK st o.dst K (.arr false (.raw 1) [[ev st.t x]]) fun N => .ptr ⟨N, 0, 0, 1, 0⟩
      | _, _ => False
    | none => False
  | .buildSlice t n ps => match T.ty t with
    | some ⟨.slice e, _, _, _⟩ => match T.ty e, T.er e, partsV (ev st.t) 0 ps.toList with
      | some te, some (.ty τ), some l => VC (l.length = n ∧ n * te.size ≤ 16777216 ∧ te.size = τ.n ∧ (∀ vs ∈ l, vs.length = τ.n ∧ τ.enc (τ.dec vs) = vs ∧ vs.all AV.one = true))
          (newK st o.dst K (.arr false τ (l.map τ.dec)) fun N => .slice ⟨N, 0, 0, τ.n, 0⟩ n)
      | _, _, _ => False
    | _ => False
  | .makeSlice t l c => match T.ty t, ev st.t l, ev st.t c with
    | some ⟨.slice e, _, _, _⟩, .int .i64 n, .int .i64 m => VC (n = m) (makeK T st o.dst K e n)
    | _, _, _ => False
  | .store t p x => match T.ty t, ev st.t p with
    | some ti, .ptr a => storeK T st (fun s => K (s.put o.dst .undef)) ti a (ev st.t x)
    | _, _ => False
  | .call c => match c.callee with
    | .value f => match ev st.t f with
      | .func g cap => ACall P g (c.args.toList.map (ev st.t) ++ cap) st.h fun r H => K (St.put ⟨st.t, H⟩ o.dst r)
      | _ => False
    | .builtin .append => match c.args.toList, c.argTypes.toList with
      | [s, x], [t, t'] => match T.ty t, T.ty t' with
        | some ⟨.slice e, _, _, _⟩, some ⟨.slice _, _, _, _⟩ => appendK T st o.dst K e (ev st.t s) (ev st.t x)
        | _, _ => False
      | _, _ => False
    | .builtin .copy => match c.args.toList, c.argTypes.toList with
      | [s, x], [t, t'] => match T.ty t, T.ty t' with
        | some ⟨.slice e, _, _, _⟩, some ⟨.slice _, _, _, _⟩ => copyK T st o.dst K e (ev st.t s) (ev st.t x)
        | _, _ => False
      | _, _ => False
    | _ => False
  | op => nilP T st o.dst K op

/-- One operation, without its guard. -/
def stepP (T : Tab P) (st : St) (o : Oper) (K : St → Prop) : Prop :=
  match pureV T (ev st.t) o.op with
  | .ok v => K (st.put o.dst v)
  | .vc p v => VC p (K (st.put o.dst v))
  | .bad => match readV T st.t st.h o.op with
    | .ok v => K (st.put o.dst v)
    | .vc p v => VC p (K (st.put o.dst v))
    | .bad => effP T st o K
end YtofjbgpaofcpjaaAM
