/- Calls: what the evaluator tells of a function is what the model comes to. -/
import Derived.Test.YtongccpmdndcgaaGreatDoorEngW
import Derived.Below
namespace Go.AE
set_option linter.unusedVariables false
set_option linter.unusedSimpArgs false
open Go.RowKit
variable {P : Program} {ρ : Ren} {σ : AHeap} {w : World}

theorem resOne_sound (hR : Rel P ρ σ w) {fr : AFr} {tmps : Array Value} (hF : FR P ρ fr tmps) {r : ResultVar} {v : Value} (h : resOne P fr σ r = some v) :
    ∃ v', (match r with | .tmp t => pure (tmps.getD t undef) | .cell a t => do loadVar t (← asAddr (tmps.getD a undef)) : Sem Value).run P w = .ok v' w ∧ VR P ρ v v' := by
  cases r with
  | tmp t => simp only [resOne, Option.some.injEq] at h; subst h; exact ⟨_, rfl, hF.at_ t⟩
  | cell a t =>
    simp only [resOne] at h
    split at h
    · rename_i b off e
      have ha := hF.at_ a
      rw [e] at ha
      obtain ⟨m, hm, _, e2⟩ := ha.ptr_inv
      obtain ⟨v', h1, h2⟩ := hR.ldVar h hm
      exact ⟨v', by simp only [e2, asAddr, Sem.run_bind, Sem.run_pure, Result.andThen_ok]; exact h1, h2⟩
    · cases h
theorem resAll_sound (hR : Rel P ρ σ w) {fr : AFr} {tmps : Array Value} (hF : FR P ρ fr tmps) : ∀ (rs : List ResultVar) (vs : List Value), resAll P fr σ rs = some vs →
    ∃ vs', (rs.mapM fun (r : ResultVar) => (match r with | .tmp t => pure (tmps.getD t undef) | .cell a t => do loadVar t (← asAddr (tmps.getD a undef)) : Sem Value)).run P w = .ok vs' w ∧ LR P ρ vs vs'
  | [], vs, h => by simp only [resAll, Option.some.injEq] at h; subst h; exact ⟨[], by simp, .nil⟩
  | r :: rs, vs, h => by
    rw [resAll] at h
    split at h
    · rename_i v us h1 h2
      cases h
      obtain ⟨v', g1, g2⟩ := resOne_sound hR hF h1
      obtain ⟨us', g3, g4⟩ := resAll_sound hR hF rs us h2
      refine ⟨v' :: us', ?_, .cons g2 g4⟩
      rw [List.mapM_cons, Sem.run_bind, g1, Result.andThen_ok, Sem.run_bind, g3]
      rfl
    · cases h
theorem results_sound (hR : Rel P ρ σ w) {fr : AFr} {tmps : Array Value} (hF : FR P ρ fr tmps) {fn : Func} {v : Value} (h : results' P fn fr σ = some v) : ∃ v', (results fn tmps).run P w = .ok v' w ∧ VR P ρ v v' := by
  have go : ∀ {vs : List Value}, resAll P fr σ fn.results.toList = some vs → ∃ vs', (fn.results.mapM fun (r : ResultVar) => (match r with | .tmp t => pure (tmps.getD t undef) | .cell a t => do loadVar t (← asAddr (tmps.getD a undef)) : Sem Value)).run P w = .ok vs'.toArray w ∧ LR P ρ vs vs' := fun {vs} e => by
    obtain ⟨vs', h1, h2⟩ := resAll_sound hR hF _ _ e
    refine ⟨vs', ?_, h2⟩
    rw [Array.mapM_eq_mapM_toList, Sem.run_map, h1]
    rfl
  unfold results' at h
  split at h
  · rename_i u e
    cases h
    obtain ⟨vs', h1, h2⟩ := go e
    obtain ⟨v', r, rfl, hv, hr⟩ := h2.cons_inv
    have := hr.nil_inv
    subst this
    refine ⟨v', ?_, hv⟩
    unfold results
    rw [Sem.run_bind]
    erw [h1]
    rfl
  · rename_i vs hne e
    cases h
    obtain ⟨vs', h1, h2⟩ := go e
    refine ⟨.tuple vs'.toArray, ?_, VR.tuple_iff (by simpa using h2)⟩
    unfold results
    rw [Sem.run_bind]
    erw [h1]
    have : ¬ vs'.toArray.size = 1 := fun q => by
      have hl := h2.len
      simp at q
      rw [q] at hl
      obtain ⟨x, hx⟩ : ∃ x, vs = [x] := by
        cases vs with
        | nil => simp at hl
        | cons x r => cases r with | nil => exact ⟨x, rfl⟩ | cons => simp at hl
      exact hne x hx
    simp only [Result.andThen_ok, this, dite_false, Sem.run_pure]
  · cases h

/-- What is told beside the text is right too. -/
def OrcS (P : Program) (gs : List Nat) (orc : Orc) : Prop := ∀ f g, orc f = some g → ∀ args σ v σ', g args σ = some (v, σ') → ∀ ρ w args', Gl gs ρ → LR P ρ args args' → Rel P ρ σ w → Calls P f args'.toArray w (CallPost P ρ σ w v σ')
theorem acall_sound {gs : List Nat} {orc : Orc} (hmix : P.follows .mixedOrders = true) (ho : OrcS P gs orc) : ∀ n, CallS P gs (acall P gs orc n)
  | 0 => fun f args σ v σ' h => by simp [acall] at h
  | n + 1 => fun f args σ v σ' h ρ w args' hG hl hR => by
    have ih := acall_sound hmix ho n
    rw [acall] at h
    dsimp only at h
    split at h
    · rename_i g hg; exact ho f g hg args σ v σ' h ρ w args' hG hl hR
    · split at h
      · cases h
      · rename_i fn hf
        split at h
        · cases h
        · rename_i c hb
          split at h
          · cases h
          · rename_i hok
            have hF : FR P ρ ⟨max fn.ntmps args.length, Tr.ofList args 0 .leaf⟩ (args'.toArray ++ Array.replicate (fn.ntmps - args'.toArray.size) undef) := by
              refine ⟨by simp [hl.len]; omega, fun t => ?_⟩
              show VR P ρ (((Tr.ofList args 0 .leaf).get t).getD undef) _
              rw [Tr.get_of, Array.getD_eq_getD_getElem?, Array.getElem?_append]
              by_cases ht : t < args.length
              · have ht' : t < args'.length := by rw [← hl.len]; exact ht
                rw [if_pos (by simpa using ht')]
                have := hl.at_ t _ _ (List.getElem?_eq_getElem ht) (List.getElem?_eq_getElem ht')
                rw [List.getElem?_eq_getElem ht, List.getElem?_toArray, List.getElem?_eq_getElem ht']
                exact this
              · rw [List.getElem?_eq_none (by omega), if_neg (by simp; rw [← hl.len]; omega)]
                have : (Array.replicate (fn.ntmps - args'.toArray.size) undef)[t - args'.toArray.size]?.getD undef = undef := by
                  rw [Array.getElem?_replicate]; split <;> rfl
                rw [this]
                exact .undef
            have fin : ∀ (e : AExit) (fr' : AFr), e = .normal ∨ e = .ret → exec P (acall P gs orc n) n c ⟨max fn.ntmps args.length, Tr.ofList args 0 .leaf⟩ σ = some (e, fr', σ') → results' P fn fr' σ' = some v → Calls P f args'.toArray w (CallPost P ρ σ w v σ') := by
              intro e fr' he hx hr
              refine calls_of_wp hf hb (exec_sound hmix ih n c _ σ e fr' σ' hok hx ρ _ w _ hF hG hR ?_)
              intro ρ' a' w' hF' hd' hR' hE'
              obtain ⟨v', h1, h2⟩ := results_sound hR' hF' hr
              have : a'.defers = [] ∧ ∃ v, (results fn a'.tmps).run P w' = .ok v w' ∧ CallPost P ρ σ w _ _ (.returned v) w' := ⟨hd', v', h1, ρ', v', rfl, h2, hR', hE'⟩
              rcases he with rfl | rfl <;> exact this
            split at h
            · rename_i fr' s hx
              split at h
              · rename_i u hr
                cases h
                exact fin .normal fr' (.inl rfl) hx hr
              · cases h
            · rename_i fr' s hx
              split at h
              · rename_i u hr
                cases h
                exact fin .ret fr' (.inr rfl) hx hr
              · cases h
            · cases h

/-- The heap without blocks. -/
def nought : AHeap := ⟨0, .leaf⟩
theorem Rel.nought (w : World) : Rel P (fun _ => none) nought w :=
  ⟨fun _ _ => rfl, (fun b m h => by cases h), (fun b o h => by cases h), (fun b b' o o' m m' h => by cases h)⟩
/-- A FUNCTION WITHOUT ARGUMENTS THAT THE EVALUATOR FINDS TRUE IS TRUE, WHATEVER THE WORLD. -/
theorem closed_true {orc : Orc} (hmix : P.follows .mixedOrders = true) (ho : OrcS P [] orc) {n : Nat} {f : FuncId} {b : Bool} (h : (acall P [] orc n f [] nought).map (·.1) = some (.bool b)) (w : World) :
    Calls P f #[] w fun e w' => e = .returned (.bool b) ∧ Below w.heap.size w w' := by
  cases hc : acall P [] orc n f [] nought with
  | none => rw [hc] at h; simp at h
  | some p =>
    obtain ⟨v, σ'⟩ := p
    rw [hc] at h
    simp only [Option.map_some, Option.some.injEq] at h
    subst h
    refine (acall_sound hmix ho n f [] nought _ σ' hc (fun _ => none) w [] (fun g hg => by cases hg) .nil (.nought w)).mono fun e w' ⟨ρ', v', he, hv, hR, hE⟩ => ?_
    refine ⟨by rw [he, hv.bool_inv], hE.os, hE.tape, hE.output, hE.size, fun k hk => hE.frame k hk fun ⟨b, o, m, hg, _⟩ => by cases hg⟩
theorem OrcS.none {gs : List Nat} : OrcS P gs (fun _ => .none) := fun f g h => by cases h
end Go.AE
