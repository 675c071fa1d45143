/- Functions: a contract out of a walk of the body; a contract used in a greater heap. -/
import Derived.Test.YtofjbgpaofcpjaaAmCode
set_option linter.unusedVariables false
set_option linter.unusedSimpArgs false
namespace YtofjbgpaofcpjaaAM
open Go
variable {P : Program}

/-! ### Results -/
def Reads (a : Act) (f : ResultVar → Sem Value) : Prop := (∀ u, f (.tmp u) = pure (a.tmps.getD u undef)) ∧ ∀ x t, f (.cell x t) = (do loadVar t (← asAddr (a.tmps.getD x undef)))

def resK (T : Tab P) (st : St) : List ResultVar → (List AV → Prop) → Prop
  | [], K => K []
  | .tmp t :: r, K => resK T st r fun l => K (st.t t :: l)
  | .cell a ty :: r, K => match readV T st.t st.h (.load ty (.tmp a)) with
    | .ok v => resK T st r fun l => K (v :: l)
    | .vc p v => VC p (resK T st r fun l => K (v :: l))
    | .bad => False

def oneV : List AV → AV
  | [v] => v
  | l => .tuple l

theorem resK_sound {cx : Cx} {ρ : Ren} {st : St} {a : Act} {w : World} (T : Tab P) (h : Sim cx ρ st a w) :
    ∀ (rs : List ResultVar) (K : List AV → Prop), resK T st rs K → ∃ (l : List AV) (vs : List Value), K l ∧ (∀ f, Reads a f → (rs.mapM f).run P w = .ok vs w) ∧ l.length = vs.length ∧ ∀ (i : Nat) (x : AV) (v : Value), l[i]? = some x → vs[i]? = some v → VRel ρ st.h.length x v
  | [], K, hK => ⟨[], [], hK, fun f _ => by simp, rfl, fun i x v hx => by simp at hx⟩
  | r :: rs, K, hK => by
    have step : ∀ (x : AV) (v : Value), (∀ f, Reads a f → (f r).run P w = .ok v w) → VRel ρ st.h.length x v → resK T st rs (fun l => K (x :: l)) → ∃ (l : List AV) (vs : List Value), K l ∧ (∀ f, Reads a f → ((r :: rs).mapM f).run P w = .ok vs w) ∧ l.length = vs.length ∧ ∀ (i : Nat) (x : AV) (v : Value), l[i]? = some x → vs[i]? = some v → VRel ρ st.h.length x v := by
      intro x v hr hv hk
      obtain ⟨l, vs, h1, h2, h3, h4⟩ := resK_sound T h rs _ hk
      refine ⟨x :: l, v :: vs, h1, fun f hf => by simp [List.mapM_cons, hr f hf, h2 f hf], by simp [h3], fun i y u hy hu => ?_⟩
      cases i with
      | zero => simp at hy hu; subst hy; subst hu; exact hv
      | succ i => exact h4 i y u (by simpa using hy) (by simpa using hu)
    cases r with
    | tmp t => exact step (st.t t) _ (fun f hf => by rw [hf.1]; simp) (h.tm t) hK
    | cell x ty =>
      have hr := readV_sound T h ⟨none, .load ty (.tmp x), 0, "", #[], none⟩
      have conv : ∀ v, Yields P ⟨none, .load ty (.tmp x), 0, "", #[], none⟩ a w (VRel ρ st.h.length v) → ∃ u, (∀ f, Reads a f → (f (.cell x ty)).run P w = .ok u w) ∧ VRel ρ st.h.length v u := by
        rintro v ⟨u, hu, hv⟩
        refine ⟨u, fun f hf => ?_, hv⟩
        rw [hf.2]
        have he : (do pure (Next.value (← Instr.loadAt ty (a.tmps.getD x undef))) : Sem Next).run P w = .ok (.value u) w := hu
        unfold Instr.loadAt at he
        cases hx : a.tmps.getD x undef with
        | pointer q =>
          cases q with
          | none => rw [hx] at he; simp [Instr.sureAddr, stuck] at he
          | some q =>
            rw [hx] at he
            simp only [Instr.sureAddr, Sem.run_bind, Sem.run_pure, Result.andThen_ok] at he
            simp only [asAddr, Sem.run_bind, Sem.run_pure, Result.andThen_ok]
            cases hl : (loadVar ty q).run P w with
            | ok y w' => rw [hl] at he; simp at he; obtain ⟨rfl, rfl⟩ := he; rfl
            | halt y w' => rw [hl] at he; simp at he
        | _ => rw [hx] at he; simp [Instr.sureAddr, stuck] at he
      simp only [resK] at hK
      cases hq : readV T st.t st.h (.load ty (.tmp x)) with
      | ok v =>
        simp only [hq] at hK hr
        obtain ⟨u, h1, h2⟩ := conv v hr
        exact step v u h1 h2 hK
      | vc p v =>
        simp only [hq] at hK hr
        obtain ⟨u, h1, h2⟩ := conv v (hr hK.vc)
        exact step v u h1 h2 hK.k
      | bad => simp only [hq] at hK

structure Ret (n0 : Nat) (H : List AObj) (v : AV) (K : AV → List AObj → Prop) : Prop where
  out : ∃ (f : Nat → Nat) (H' : List AObj) (r : AV), HWeak f H H' ∧ n0 ≤ H'.length ∧ (∀ i, i < n0 → f i = i) ∧ (∀ (id : Nat) (o : AObj), n0 ≤ id → H'[id]? = some o → o = .dead ∨ o.ro = false) ∧
    v = r.ren f ∧ r.bd H'.length = true ∧ K r H'

def retQ (T : Tab P) (rs : List ResultVar) (n0 : Nat) (K : AV → List AObj → Prop) : Exit → St → Prop
  | .normal, s => resK T s rs fun l => Ret n0 s.h (oneV l) K
  | .ret, s => resK T s rs fun l => Ret n0 s.h (oneV l) K
  | _, _ => False

def argT : List AV → Nat → AV
  | [], _ => .undef
  | a :: _, 0 => a
  | _ :: l, k + 1 => argT l k
theorem argT_eq (l : List AV) : ∀ k, argT l k = (l[k]?).getD .undef := by
  induction l with
  | nil => intro k; simp [argT]
  | cons a l ih => intro k; cases k <;> simp [argT, ih]

/-- A contract, out of a walk of the body. -/
theorem ACall.intro (T : Tab P) {f : FuncId} {fn : Func} {c : Code} {args : List AV} {H : List AObj} {K : AV → List AObj → Prop} (hf : P.funcs[f]? = some fn) (hb : fn.body = some c) (hn : (fn.name == "runtime.NumGoroutine") = false)
    (hsz : Nat.ble args.length fn.ntmps = true) (rs : List ResultVar) (hrs : fn.results = rs.toArray) (nv : ∃ r H', K r H') (h : AWP P fn.ntmps H.length c (retQ T rs H.length K) ⟨argT args, H⟩) : ACall P f args H K where
  text := ⟨fn, hf, by rw [hb]; rfl, hn⟩
  nv := nv
  run ρ w vals hs hl hr := by
    have hsz : args.length ≤ fn.ntmps := Nat.le_of_ble_eq_true hsz
    refine calls_of_wp hf hb ?_
    let cx : Cx := ⟨fn.ntmps, H.length, w, WB ρ H, ρ⟩
    have hS : Sim cx ρ ⟨argT args, H⟩ ⟨vals ++ Array.replicate (fn.ntmps - vals.size) undef, []⟩ w := by
      refine ⟨fun k => ?_, by show (vals ++ Array.replicate (fn.ntmps - vals.size) undef).size = fn.ntmps; simp; omega, rfl, hs, Frame.refl _ _, Agree.refl _ _, Nat.le_refl _, fun id o r h1 h2 h3 h4 => .inl ⟨id, o, r, h1, h2, h3, h4, rfl⟩⟩
      show VRel ρ H.length (argT args k) ((vals ++ Array.replicate (fn.ntmps - vals.size) undef).getD k undef)
      rw [argT_eq]
      rcases Nat.lt_or_ge k args.length with hk | hk
      · have h1 : args[k]? = some args[k] := List.getElem?_eq_getElem hk
        have h2 : vals[k]? = some (vals[k]'(by omega)) := Array.getElem?_eq_getElem (by omega)
        have := hr k _ _ h1 h2
        rw [h1]
        simp only [Option.getD_some, Array.getD_eq_getD_getElem?]
        rw [Array.getElem?_append_left (by omega), h2]
        exact this
      · rw [List.getElem?_eq_none hk]
        exact .undef _
    refine Code.wp_mono ?_ (h.run cx ρ _ w rfl rfl hS)
    rintro e a' w' ⟨s, ρ', hk, hs'⟩
    have fin : resK T s rs (fun l => Ret H.length s.h (oneV l) K) → a'.defers = [] ∧ ∃ v, (results fn a'.tmps).run P w' = .ok v w' ∧ Comes' P ρ H w K (.returned v) w' := by
      intro hk
      refine ⟨hs'.df, ?_⟩
      obtain ⟨l, vs, hR, hrun, hll, hvr⟩ := resK_sound T hs' rs _ hk
      have hres : ∃ v, (results fn a'.tmps).run P w' = .ok v w' ∧ VRel ρ' s.h.length (oneV l) v := by
        refine ⟨if h : vs.toArray.size = 1 then vs.toArray[0] else .tuple vs.toArray, ?_, ?_⟩
        · unfold results
          rw [hrs, List.mapM_toArray]
          simp only [Sem.run_bind, Sem.run_map]
          rw [hrun _ ⟨fun _ => rfl, fun _ _ => rfl⟩]
          simp
        · match l, vs, hll, hvr with
          | [x], [v], _, hvr => exact hvr 0 x v rfl rfl
          | [], [], _, _ => exact .tuple [] #[] rfl fun i a v h => by simp at h
          | x :: y :: l, v :: u :: vs, hll, hvr =>
            rw [dif_neg (by simp)]
            exact .tuple _ _ (by simpa using hll) fun i a b h1 h2 => hvr i a b h1 (by simpa using h2)
      obtain ⟨v, hv, hvrel⟩ := hres
      refine ⟨v, hv, ?_⟩
      obtain ⟨φ, H', r, hW, hle, hid, hro, hren, hbd, hK⟩ := hR.out
      refine ⟨v, r, H', fun id r => ρ' (φ id) r, rfl, hK, VRel.rename (by rw [← hren]; exact hvrel) hbd, hs'.hs.rename hW, hs'.fr, fun i hi r => ?_, hle, fun id o q ho hro' hq h0 => ?_, hro⟩
      · simp only [hid i hi]; exact hs'.ag i hi r
      · obtain ⟨cs, hcs⟩ := Option.isSome_iff_exists.1 hq
        obtain ⟨o', h1, _, h2, h3, _⟩ := hW.key ho hcs
        exact hs'.wr (φ id) o' q h1 (h3 hro') (by rw [h2]; rfl) h0
    cases e with
    | normal => exact fin hk
    | ret => exact fin hk
    | _ => exact hk.elim

/-! ### A contract in a greater heap -/
theorem VRel.push {ρ ρ' : Ren} {N M : Nat} {e : Nat → Nat} (he : ∀ i, i < N → ∀ r, ρ' (e i) r = ρ i r) (hm : ∀ i, i < N → e i < M) {v : AV} {u : Value} (h : VRel ρ N v u) : VRel ρ' M (v.ren e) u := by
  induction h with
  | undef u => exact .undef u
  | int k n => exact .int k n
  | bool b => exact .bool b
  | ptr a h =>
    have : a.at ρ = (a.ren e).at ρ' := by show a.at ρ = (⟨e a.id, a.row, a.idx, a.esz, a.fld⟩ : AAddr).at ρ'; simp only [AAddr.at, AAddr.cell, he _ h]
    rw [this]; exact .ptr _ (hm _ h)
  | slice a len p cap h hl hc =>
    have : a.at ρ = (a.ren e).at ρ' := by show a.at ρ = (⟨e a.id, a.row, a.idx, a.esz, a.fld⟩ : AAddr).at ρ'; simp only [AAddr.at, AAddr.cell, he _ h]
    refine .slice _ len p cap (hm _ h) hl ?_
    rw [← this]
    show cap = 0 ∨ p = some (a.at ρ) ∧ a.cell + cap * a.esz ≤ (ρ' (e a.id) a.row).room
    rw [he _ h]; exact hc
  | cslice a len p cap h hl hc =>
    have : a.at ρ = (a.ren e).at ρ' := by show a.at ρ = (⟨e a.id, a.row, a.idx, a.esz, a.fld⟩ : AAddr).at ρ'; simp only [AAddr.at, AAddr.cell, he _ h]
    refine .cslice _ len p cap (hm _ h) hl ?_
    rw [← this]; exact hc
  | nilS => exact .nilS
  | nilF => exact .nilF
  | vec x u h ih => exact .vec x u (by rw [Vec.ren] at ih; exact ih)
  | agg vs ws hl h ih =>
    refine .agg _ ws (by rw [AV.renL_eq]; simpa using hl) fun i a v ha hv => ?_
    rw [AV.renL_eq, List.getElem?_map] at ha
    obtain ⟨b, hb, rfl⟩ := Option.map_eq_some_iff.1 ha
    exact ih i b v hb hv
  | tuple vs ws hl h ih =>
    refine .tuple _ ws (by rw [AV.renL_eq]; simpa using hl) fun i a v ha hv => ?_
    rw [AV.renL_eq, List.getElem?_map] at ha
    obtain ⟨b, hb, rfl⟩ := Option.map_eq_some_iff.1 ha
    exact ih i b v hb hv
  | func g vs ws hl h ih =>
    refine .func g _ ws (by rw [AV.renL_eq]; simpa using hl) fun i a v ha hv => ?_
    rw [AV.renL_eq, List.getElem?_map] at ha
    obtain ⟨b, hb, rfl⟩ := Option.map_eq_some_iff.1 ha
    exact ih i b v hb hv

theorem AObj.wf_ren {f : Nat → Nat} {o : AObj} (h : o.wf) : (o.ren f).wf := by
  cases o with
  | arr ro τ l =>
    cases τ
    case raw n =>
      intro x hx
      obtain ⟨y, hy, rfl⟩ := List.mem_map.1 hx
      simpa [Ty.enc, AV.renL_eq] using h y hy
    all_goals exact h
  | _ => trivial

def extN (φ : Nat → Nat) (m M : Nat) (j : Nat) : Nat :=
  match Nat.blt j m with
  | true => φ j
  | false => M + (j - m)

def mergeA (e : Nat → Nat) : Nat → List AObj → List AObj → List AObj → List AObj
  | _, [], Hs', H => H ++ Hs'.map (AObj.ren e)
  | j, o :: Hs, o' :: Hs', H => match o.ro with
    | true => mergeA e (j + 1) Hs Hs' H
    | false => mergeA e (j + 1) Hs Hs' (setL H (e j) (match o'.ro with | true => .dead | false => o'.ren e))
  | _, _ :: _, [], H => H

def updO (e : Nat → Nat) (o' : AObj) : AObj := match o'.ro with | true => .dead | false => o'.ren e

theorem mergeA_spec (e : Nat → Nat) : ∀ (Hs : List AObj) (j : Nat) (Hs' H : List AObj), Hs.length ≤ Hs'.length → (∀ k k' o o', Hs[k]? = some o → Hs[k']? = some o' → o.ro = false → o'.ro = false → e (j + k) = e (j + k') → k = k') → (∀ k o, Hs[k]? = some o → o.ro = false → e (j + k) < H.length) →
    (mergeA e j Hs Hs' H).length = H.length + (Hs'.length - Hs.length) ∧
    (∀ id, H.length ≤ id → (mergeA e j Hs Hs' H)[id]? = (Hs'[id - H.length + Hs.length]?).map (AObj.ren e)) ∧
    ∀ id, id < H.length → ((∃ k o o', Hs[k]? = some o ∧ o.ro = false ∧ Hs'[k]? = some o' ∧ e (j + k) = id ∧ (mergeA e j Hs Hs' H)[id]? = some (updO e o')) ∨
      ((mergeA e j Hs Hs' H)[id]? = H[id]? ∧ ∀ k o, Hs[k]? = some o → o.ro = false → e (j + k) ≠ id))
  | [], j, Hs', H, _, _, _ => by
    simp only [mergeA]
    refine ⟨by simp, fun id hid => ?_, fun id hid => .inr ⟨?_, fun k o h => by simp at h⟩⟩
    · rw [List.getElem?_append_right hid, List.getElem?_map]; rfl
    · rw [List.getElem?_append_left hid]
  | o :: Hs, j, [], H, hl, _, _ => by simp at hl
  | o :: Hs, j, o' :: Hs', H, hl, hinj, hlt => by
    have hl' : Hs.length ≤ Hs'.length := by simpa using hl
    have hinj' : ∀ k k' o o', Hs[k]? = some o → Hs[k']? = some o' → o.ro = false → o'.ro = false → e (j + 1 + k) = e (j + 1 + k') → k = k' := fun k k' p p' h1 h2 h3 h4 h5 => by
      have := hinj (k + 1) (k' + 1) p p' (by simpa using h1) (by simpa using h2) h3 h4 (by rw [show j + (k + 1) = j + 1 + k by omega, show j + (k' + 1) = j + 1 + k' by omega]; exact h5)
      omega
    cases hro : o.ro with
    | true =>
      obtain ⟨h1, h2, h3⟩ := mergeA_spec e Hs (j + 1) Hs' H hl' hinj' (fun k p hp hr => by rw [show j + 1 + k = j + (k + 1) by omega]; exact hlt (k + 1) p (by simpa using hp) hr)
      simp only [mergeA, hro]
      refine ⟨by rw [h1]; simp, fun id hid => ?_, fun id hid => ?_⟩
      · rw [h2 id hid]; simp only [List.length_cons, ← Nat.add_assoc, List.getElem?_cons_succ]
      · rcases h3 id hid with ⟨k, p, p', g1, g2, g3, g4, g5⟩ | ⟨g1, g2⟩
        · exact .inl ⟨k + 1, p, p', by simpa using g1, g2, by simpa using g3, by rw [show j + (k + 1) = j + 1 + k by omega]; exact g4, g5⟩
        · refine .inr ⟨g1, fun k p hp hr => ?_⟩
          cases k with
          | zero => simp at hp; subst hp; rw [hro] at hr; cases hr
          | succ k => rw [show j + (k + 1) = j + 1 + k by omega]; exact g2 k p (by simpa using hp) hr
    | false =>
      have hj : e j < H.length := hlt 0 o rfl hro
      obtain ⟨h1, h2, h3⟩ := mergeA_spec e Hs (j + 1) Hs' (setL H (e j) (updO e o')) hl' hinj' (fun k p hp hr => by rw [setL_eq, List.length_set, show j + 1 + k = j + (k + 1) by omega]; exact hlt (k + 1) p (by simpa using hp) hr)
      rw [setL_eq, List.length_set] at h1 h2 h3
      have hm : mergeA e j (o :: Hs) (o' :: Hs') H = mergeA e (j + 1) Hs Hs' (H.set (e j) (updO e o')) := by
        simp only [mergeA, hro, ← setL_eq]; rfl
      rw [hm]
      refine ⟨by rw [h1]; simp, fun id hid => ?_, fun id hid => ?_⟩
      · rw [h2 id hid]; simp only [List.length_cons, ← Nat.add_assoc, List.getElem?_cons_succ]
      · rcases h3 id hid with ⟨k, p, p', g1, g2, g3, g4, g5⟩ | ⟨g1, g2⟩
        · exact .inl ⟨k + 1, p, p', by simpa using g1, g2, by simpa using g3, by rw [show j + (k + 1) = j + 1 + k by omega]; exact g4, g5⟩
        · rw [List.getElem?_set] at g1
          by_cases hid' : e j = id
          · rw [if_pos hid', if_pos hj] at g1
            exact .inl ⟨0, o, o', rfl, hro, rfl, hid', g1⟩
          · rw [if_neg hid'] at g1
            refine .inr ⟨g1, fun k p hp hr => ?_⟩
            cases k with
            | zero => exact hid'
            | succ k => rw [show j + (k + 1) = j + 1 + k by omega]; exact g2 k p (by simpa using hp) hr

theorem cell_of_heap {w w' : World} {a : Addr} (h : w'.heap[a.block]? = w.heap[a.block]?) : w'.cell? a = w.cell? a ∧ w'.frozen? a = w.frozen? a := by
  unfold World.cell? World.frozen?
  simp only [h, and_self]

theorem ACall.frame {f : FuncId} {args : List AV} {Hs : List AObj} {K : AV → List AObj → Prop} (h : ACall P f args Hs K) (φ : Nat → Nat) {H : List AObj} (hW : HWeak φ H Hs) (hφ : ∀ j, j < Hs.length → φ j < H.length) (hb : AV.bdL Hs.length args = true) :
    ACall P f (AV.renL φ args) H (fun r H' => ∃ r0 Hs', K r0 Hs' ∧ r = r0.ren (extN φ Hs.length H.length) ∧ H' = mergeA (extN φ Hs.length H.length) 0 Hs Hs' H) where
  text := h.text
  nv := by obtain ⟨r, Hs', hk⟩ := h.nv; exact ⟨_, _, r, Hs', hk, rfl, rfl⟩
  run ρ w vals hs hl hr := by
    have hargs : ∀ (i : Nat) (a : AV) (v : Value), args[i]? = some a → vals[i]? = some v → VRel (fun id r => ρ (φ id) r) Hs.length a v := fun i a v ha hv =>
      VRel.rename (hr i (a.ren φ) v (by rw [AV.renL_eq, List.getElem?_map, ha]; rfl) hv) (AV.bdL_iff.1 hb _ (List.mem_of_getElem? ha))
    refine (h.run _ w vals (hs.rename hW) (by rw [hl, AV.renL_eq, List.length_map]) hargs).mono fun e w' hc => ?_
    obtain ⟨v, r0, Hs', ρs, rfl, hK, hv, hs', hfr, hag, hlen, hwr, hnew⟩ := hc
    let m := Hs.length
    let M := H.length
    let E := extN φ m M
    let ρ' : Ren := fun id r => if id < M then ρ id r else ρs (id - M + m) r
    have hElt : ∀ j, j < m → E j = φ j := fun j hj => by
      have : Nat.blt j m = true := by rw [Nat.blt_eq]; exact hj
      simp only [E, extN, this]
    have hEge : ∀ j, m ≤ j → E j = M + (j - m) := fun j hj => by
      have : Nat.blt j m = false := by
        cases hb : Nat.blt j m with
        | false => rfl
        | true => rw [Nat.blt_eq] at hb; omega
      simp only [E, extN, this]
    have hρE : ∀ j, j < Hs'.length → ∀ r, ρ' (E j) r = ρs j r := fun j hj r => by
      rcases Nat.lt_or_ge j m with hjm | hjm
      · rw [hElt j hjm]
        show (if φ j < M then ρ (φ j) r else ρs (φ j - M + m) r) = ρs j r
        rw [if_pos (show φ j < M from hφ j hjm)]
        exact (hag j hjm r).symm
      · rw [hEge j hjm]
        simp only [ρ', if_neg (show ¬ M + (j - m) < M by omega)]
        rw [show M + (j - m) - M + m = j by omega]
    have hElt' : ∀ j, j < Hs'.length → E j < M + (Hs'.length - m) := fun j hj => by
      rcases Nat.lt_or_ge j m with hjm | hjm
      · rw [hElt j hjm]; have := hφ j hjm; show φ j < H.length + _; omega
      · rw [hEge j hjm]; omega
    have hinj : ∀ k k' o o', Hs[k]? = some o → Hs[k']? = some o' → o.ro = false → o'.ro = false → E (0 + k) = E (0 + k') → k = k' := fun k k' o o' h1 h2 h3 h4 h5 => by
      rw [Nat.zero_add, Nat.zero_add, hElt k (List.getElem?_eq_some_iff.1 h1).1, hElt k' (List.getElem?_eq_some_iff.1 h2).1] at h5
      exact hW.inj k k' o o' h1 h2 h3 (fun e => by subst e; cases h4) h5
    obtain ⟨hmL, hmN, hmO⟩ := mergeA_spec E Hs 0 Hs' H hlen hinj (fun k o h1 h2 => by rw [Nat.zero_add, hElt k (List.getElem?_eq_some_iff.1 h1).1]; exact hφ k (List.getElem?_eq_some_iff.1 h1).1)
    generalize hH' : mergeA E 0 Hs Hs' H = H' at hmL hmN hmO
    -- each object: untouched, or out of the small heap
    have cls : ∀ (id : Nat) (o : AObj), H'[id]? = some o → o ≠ .dead → (id < M ∧ H[id]? = some o ∧ ∀ k p, Hs[k]? = some p → p.ro = false → φ k ≠ id) ∨ (∃ j o', Hs'[j]? = some o' ∧ o = o'.ren E ∧ id = E j ∧ o'.ro = false) := by
      intro id o ho hd
      rcases Nat.lt_or_ge id M with hid | hid
      · rcases hmO id hid with ⟨k, p, p', g1, g2, g3, g4, g5⟩ | ⟨g1, g2⟩
        · rw [ho] at g5; cases g5
          unfold updO at hd ⊢
          cases hro : p'.ro with
          | true => rw [hro] at hd; exact absurd rfl hd
          | false => exact .inr ⟨k, p', g3, rfl, by rw [← g4, Nat.zero_add], hro⟩
        · exact .inl ⟨hid, by rw [← g1]; exact ho, fun k p h1 h2 => by have := g2 k p h1 h2; rw [Nat.zero_add, hElt k (List.getElem?_eq_some_iff.1 h1).1] at this; exact this⟩
      · rw [hmN id hid] at ho
        obtain ⟨o', h1, rfl⟩ := Option.map_eq_some_iff.1 ho
        refine .inr ⟨_, o', h1, rfl, by rw [hEge _ (by show m ≤ id - H.length + Hs.length; show Hs.length ≤ _; omega)]; show id = H.length + (id - H.length + Hs.length - Hs.length); have : H.length ≤ id := hid; omega, ?_⟩
        rcases hnew _ o' (by omega) h1 with rfl | h2
        · exact absurd rfl hd
        · exact h2
    -- blocks of untouched rows
    have hnot : ∀ (id : Nat) (o : AObj) (r : Nat), H[id]? = some o → (o.row id r).isSome = true → 0 < (ρ id r).room → (∀ k p, Hs[k]? = some p → p.ro = false → φ k ≠ id) → ¬ WB (fun id r => ρ (φ id) r) Hs (ρ id r).block := by
      rintro id o r h1 h2 h3 h4 ⟨j, p, q, g1, g2, g3, g4, g5⟩
      obtain ⟨cs, hcs⟩ := Option.isSome_iff_exists.1 g3
      obtain ⟨p', f1, _, f2, f3, _⟩ := hW.key g1 hcs
      exact hs.apart (φ j) p' q id o r f1 h1 (by rw [f2]; rfl) h2 (f3 g2) (fun e => h4 j p g1 g2 (congrArg Prod.fst e)) g4 h3 g5
    have hWB : ∀ b, WB (fun id r => ρ (φ id) r) Hs b → WB ρ H b := by
      rintro b ⟨j, p, q, g1, g2, g3, g4, g5⟩
      obtain ⟨cs, hcs⟩ := Option.isSome_iff_exists.1 g3
      obtain ⟨p', f1, _, f2, f3, _⟩ := hW.key g1 hcs
      exact ⟨φ j, p', q, f1, f3 g2, by rw [f2]; rfl, g4, g5⟩
    have hdead : ∀ (id r : Nat) (o : AObj), (o.row id r).isSome = true → o ≠ .dead := fun id r o h e => by subst e; cases h
    have hrowE : ∀ (j r : Nat) (o : AObj), ((o.ren E).row (E j) r).isSome = true → (o.row j r).isSome = true := fun j r o h => by
      rw [AObj.ren_row] at h; simpa using h
    have hlenH' : H'.length = M + (Hs'.length - m) := hmL
    have hHS : HSim ρ' H' w' := by
      refine ⟨fun id o ho => ?_, fun id o r cs ho hr' => ?_, fun id o r id' o' r' ho ho' hr1 hr2 hro hne h0 h0' => ?_⟩
      · by_cases hd : o = .dead
        · subst hd; trivial
        · rcases cls id o ho hd with ⟨_, h1, _⟩ | ⟨j, o', h1, rfl, _, _⟩
          · exact hs.wf id o h1
          · exact AObj.wf_ren (hs'.wf j o' h1)
      · rcases cls id o ho (hdead id r o (by rw [hr']; rfl)) with ⟨hid, h1, h2⟩ | ⟨j, o', h1, rfl, rfl, h3⟩
        · have hp : ρ' id r = ρ id r := by simp only [ρ', if_pos hid]
          rw [hp]
          have hR := hs.row id o r cs h1 hr'
          have same : 0 < (ρ id r).room → ∀ k, w'.cell? ((ρ id r).addr k) = w.cell? ((ρ id r).addr k) ∧ w'.frozen? ((ρ id r).addr k) = w.frozen? ((ρ id r).addr k) := fun h0 k =>
            cell_of_heap (hfr.block _ (hR.there h0) (hnot id o r h1 (by rw [hr']; rfl) h0 h2))
          refine ⟨hR.fits, fun h0 => Nat.lt_of_lt_of_le (hR.there h0) hfr.size, fun hro k hk => ?_, fun k c hc => ?_⟩
          · have := same (by omega) k
            rw [this.1, this.2]; exact hR.own hro k hk
          · obtain ⟨u, hu, hrel, hone⟩ := hR.cell k c hc
            have hk : k < (ρ id r).room := Nat.lt_of_lt_of_le (List.getElem?_eq_some_iff.1 hc).1 hR.fits
            refine ⟨u, by rw [(same (by omega) k).1]; exact hu, hrel.mono (fun i hi q => ?_) (by rw [hlenH']; omega), hone⟩
            simp only [ρ', if_pos (show i < M from hi)]
        · have hj : j < Hs'.length := (List.getElem?_eq_some_iff.1 h1).1
          rw [hρE j hj r]
          rw [AObj.ren_row] at hr'
          obtain ⟨cs0, hc0, rfl⟩ := Option.map_eq_some_iff.1 hr'
          have hR := hs'.row j o' r cs0 h1 hc0
          refine ⟨by simpa using hR.fits, hR.there, fun e => hR.own h3, fun k c hc => ?_⟩
          rw [List.getElem?_map] at hc
          obtain ⟨c0, hc0', rfl⟩ := Option.map_eq_some_iff.1 hc
          obtain ⟨u, hu, hrel, hone⟩ := hR.cell k c0 hc0'
          exact ⟨u, hu, hrel.push hρE (by rw [hlenH']; exact hElt'), hone⟩
      · have AS : ∀ (id : Nat) (o : AObj) (r j : Nat) (o' : AObj) (r' : Nat), id < M → H[id]? = some o → (∀ k p, Hs[k]? = some p → p.ro = false → φ k ≠ id) → (o.row id r).isSome = true → 0 < (ρ id r).room → Hs'[j]? = some o' → o'.ro = false → (o'.row j r').isSome = true → 0 < (ρs j r').room → (ρ id r).block ≠ (ρs j r').block := by
          intro id o r j o' r' hid h1 h2 h3 h4 g1 g2 g3 g4 he
          rcases hwr j o' r' g1 g2 g3 g4 with hb | hb
          · rw [← he] at hb; exact hnot id o r h1 h3 h4 h2 hb
          · have := hs.block_lt h1 h3 h4; omega
        rcases cls id o ho (hdead id r o hr1) with ⟨hid, h1, h2⟩ | ⟨j, p, h1, rfl, rfl, h3⟩ <;> rcases cls id' o' ho' (hdead id' r' o' hr2) with ⟨hid', h1', h2'⟩ | ⟨j', p', h1', rfl, rfl, h3'⟩
        · have e1 : ρ' id r = ρ id r := by simp only [ρ', if_pos hid]
          have e2 : ρ' id' r' = ρ id' r' := by simp only [ρ', if_pos hid']
          rw [e1] at h0 ⊢; rw [e2] at h0' ⊢
          exact hs.apart id o r id' o' r' h1 h1' hr1 hr2 hro hne h0 h0'
        · have e1 : ρ' id r = ρ id r := by simp only [ρ', if_pos hid]
          have hj' : j' < Hs'.length := (List.getElem?_eq_some_iff.1 h1').1
          rw [e1] at h0 ⊢; rw [hρE j' hj' r'] at h0' ⊢
          exact AS id o r j' p' r' hid h1 h2 hr1 h0 h1' h3' (hrowE j' r' p' hr2) h0'
        · have e2 : ρ' id' r' = ρ id' r' := by simp only [ρ', if_pos hid']
          have hj : j < Hs'.length := (List.getElem?_eq_some_iff.1 h1).1
          rw [e2] at h0' ⊢; rw [hρE j hj r] at h0 ⊢
          exact (AS id' o' r' j p r hid' h1' h2' hr2 h0' h1 h3 (hrowE j r p hr1) h0).symm
        · have hj : j < Hs'.length := (List.getElem?_eq_some_iff.1 h1).1
          have hj' : j' < Hs'.length := (List.getElem?_eq_some_iff.1 h1').1
          rw [hρE j hj r] at h0 ⊢; rw [hρE j' hj' r'] at h0' ⊢
          refine hs'.apart j p r j' p' r' h1 h1' (hrowE j r p hr1) (hrowE j' r' p' hr2) h3 (fun e => hne ?_) h0 h0'
          have e1 := congrArg Prod.fst e
          have e2 := congrArg Prod.snd e
          simp only at e1 e2
          rw [e1, e2]
    refine ⟨v, r0.ren E, H', ρ', rfl, ⟨r0, Hs', hK, rfl, hH'.symm⟩, hv.push hρE (by rw [hlenH']; exact hElt'), hHS, ⟨hfr.os, hfr.tape, hfr.output, hfr.size, fun b hb hB => hfr.block b hb fun hc => hB (hWB b hc)⟩, fun i hi r => ?_, by rw [hlenH']; show H.length ≤ H.length + _; omega, fun id o q ho hro hq h0 => ?_, fun id o hid ho => ?_⟩
    · simp only [ρ', if_pos (show i < M from hi)]
    · rcases cls id o ho (hdead id q o hq) with ⟨hid, h1, h2⟩ | ⟨j, o', h1, rfl, rfl, h3⟩
      · have e1 : ρ' id q = ρ id q := by simp only [ρ', if_pos hid]
        rw [e1] at h0 ⊢
        exact .inl ⟨id, o, q, h1, hro, hq, h0, rfl⟩
      · have hj : j < Hs'.length := (List.getElem?_eq_some_iff.1 h1).1
        rw [hρE j hj q] at h0 ⊢
        exact (hwr j o' q h1 h3 (hrowE j q o' hq) h0).imp_left (hWB _)
    · rw [hmN id hid] at ho
      obtain ⟨o', h1, rfl⟩ := Option.map_eq_some_iff.1 ho
      rcases hnew _ o' (by omega) h1 with rfl | h2
      · exact .inl rfl
      · exact .inr (by rw [AObj.ren_ro]; exact h2)
end YtofjbgpaofcpjaaAM
