/- A contract of the library that hands back a new list of numbers, as a contract of this framework. -/
import Derived.Test.YtafalojjbghlhaaAmRowPut
set_option linter.unusedVariables false
set_option linter.unusedSimpArgs false
namespace YtafalojjbghlhaaAM
open Go Go.RowKit
variable {P : Program}

theorem ACall.ofNew {f : FuncId} {args : List AV} {H H' : List AObj} {l : List Int} {t : TypeId} {N : Nat} (ht : IsText P f) (hH : H' = H ++ [.arr false .int l]) (hN : N = H.length)
    (hc : ∀ (ρ : Ren) (w : World) (vals : Array Value), HSim ρ H w → vals.size = args.length → (∀ (i : Nat) (a : AV) (v : Value), args[i]? = some a → vals[i]? = some v → VRel ρ H.length a v) →
      Calls P f vals w fun e w' => ∃ v, e = .returned v ∧ w'.ownsRow w.heap.size t 1 v l.length (l.map (Value.int .i64)) ∧ Below w.heap.size w w') :
    ACall P f args H (Is (.slice ⟨N, 0, 0, 1, 0⟩ l.length) H') where
  text := ht
  nv := Is.nv _ _
  run ρ w vals h1 h2 h3 := by
    subst hH hN
    refine (hc ρ w vals h1 h2 h3).mono ?_
    rintro e w' ⟨v, rfl, ⟨hlen, hv⟩, hb⟩
    have hk : Keeps w w' := ⟨hb.size, fun a ha => hb.cell ha, fun a ha => hb.frozen ha⟩
    have hwf : (AObj.arr false .int l).wf := fun x _ => rfl
    have hrow0 : ∀ r cs, (AObj.arr false .int l).row H.length r = some cs → r = 0 ∧ cs = ints .i64 l := fun r cs hr => by
      simp only [AObj.row] at hr
      split at hr
      · rename_i e
        rw [flat_ints2] at hr
        exact ⟨e, (Option.some.inj hr).symm⟩
      · cases hr
    rcases hv with ⟨rfl, h0⟩ | ⟨g, cap, cur, rfl, hg, hgb, hnc, hcm, hcs, htk⟩
    · have hl : l = [] := List.eq_nil_of_length_eq_zero h0
      subst hl
      have hS := (h1.keeps hk).ghost (.arr false .int ([] : List Int)) hwf (fun r cs hr => (hrow0 r cs hr).2)
      refine ⟨_, _, _, ρ.put H.length fun _ => ⟨0, 0, 0⟩, rfl, ⟨rfl, rfl⟩, .slice _ 0 none 0 (by simp) (Nat.le_refl _) (.inl rfl), hS, ⟨hb.os, hb.tape, hb.output, hb.size, fun b hb' _ => hb.block b hb'⟩, Ren.put_agree _ _ _, by simp, fun id o q ho hro hq hr => ?_, fun id o hle ho => ?_⟩
      · rcases snoc_get ho with ⟨hl, hx⟩ | ⟨rfl, rfl⟩
        · rw [Ren.put_lt _ hl] at hr ⊢
          exact .inl ⟨id, o, q, hx, hro, hq, hr, rfl⟩
        · rw [Ren.put_same] at hr; exact absurd hr (by simp)
      · rcases snoc_get ho with ⟨hl, hx⟩ | ⟨rfl, rfl⟩
        · omega
        · exact .inr rfl
    · have hcell : ∀ k, w'.cell? (Place.addr ⟨g, 0, cap⟩ k) = cur[k]? := fun k => by
        simp only [World.cell?, Place.addr, hgb]
        simp
      have hS : HSim (ρ.put H.length fun _ => ⟨g, 0, cap⟩) (H ++ [.arr false .int l]) w' := by
        refine h1.snoc hk _ _ hwf (fun r cs hr => ?_) (fun r r' hr hr' _ hne => ?_) (fun id o' r r' ho' hr' hr _ _ h0' => ?_)
        · obtain ⟨rfl, rfl⟩ := hrow0 r cs hr
          refine ⟨by simpa [ints] using hnc, fun _ => ?_, fun _ k hk' => ?_, fun k c hc => ?_⟩
          · exact (Array.getElem?_eq_some_iff.1 hgb).1
          · have hk2 : k < cap := hk'
            refine ⟨?_, ?_⟩
            · show (w'.cell? (Place.addr ⟨g, 0, cap⟩ k)).isSome = true
              rw [hcell, Array.getElem?_eq_getElem (by omega)]; rfl
            · simp [World.frozen?, Place.addr, hgb]
          · simp only [ints, List.getElem?_map] at hc
            obtain ⟨y, hy, rfl⟩ := Option.map_eq_some_iff.1 hc
            have hkl : k < l.length := (List.getElem?_eq_some_iff.1 hy).1
            refine ⟨.int .i64 y, ?_, .int _ _, rfl⟩
            rw [hcell]
            have h5 : (cur.toList.take (l.length * 1))[k]? = some (.int .i64 y) := by rw [htk, List.getElem?_map, hy]; rfl
            rw [List.getElem?_take_of_lt (by omega)] at h5
            simpa using h5
        · cases h : (AObj.arr false .int l).row H.length r with
          | none => rw [h] at hr; cases hr
          | some cs =>
            cases h' : (AObj.arr false .int l).row H.length r' with
            | none => rw [h'] at hr'; cases hr'
            | some cs' => exact absurd ((hrow0 r cs h).1.trans (hrow0 r' cs' h').1.symm) hne
        · have := h1.block_lt ho' hr' h0'
          show g ≠ _
          omega
      refine ⟨_, _, _, _, rfl, ⟨rfl, rfl⟩, .slice _ l.length (some ⟨g, 0, none⟩) cap (by simp) hnc (.inr ⟨?_, ?_⟩), hS, ⟨hb.os, hb.tape, hb.output, hb.size, fun b hb' _ => hb.block b hb'⟩, Ren.put_agree _ _ _, by simp, fun id o q ho hro hq hr => ?_, fun id o hle ho => ?_⟩
      · simp [AAddr.at, AAddr.cell, Ren.put_same, Place.addr]
      · simp [AAddr.cell, Ren.put_same]
      · rcases snoc_get ho with ⟨hl, hx⟩ | ⟨rfl, rfl⟩
        · rw [Ren.put_lt _ hl] at hr ⊢
          exact .inl ⟨id, o, q, hx, hro, hq, hr, rfl⟩
        · rw [Ren.put_same]; exact .inr hg
      · rcases snoc_get ho with ⟨hl, hx⟩ | ⟨rfl, rfl⟩
        · omega
        · exact .inr rfl
end YtafalojjbghlhaaAM
