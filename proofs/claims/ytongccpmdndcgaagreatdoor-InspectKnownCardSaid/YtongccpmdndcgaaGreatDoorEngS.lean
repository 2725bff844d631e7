/- Frames; a region in the order of its text. -/
import Derived.Test.YtongccpmdndcgaaGreatDoorEngR
import Derived.RegionTactic
namespace Go.AE
set_option linter.unusedVariables false
set_option linter.unusedSimpArgs false
variable {P : Program} {ρ : Ren} {σ : AHeap} {w : World}

structure FR (P : Program) (ρ : Ren) (fr : AFr) (tmps : Array Value) : Prop where
  size : tmps.size = fr.n
  at_ : ∀ t, VR P ρ (fr.at_ t) (tmps.getD t undef)
theorem FR.mono {ρ' : Ren} {fr : AFr} {tmps : Array Value} (h : FR P ρ fr tmps) (hle : ρ.le ρ') : FR P ρ' fr tmps := ⟨h.size, fun t => (h.at_ t).mono hle⟩
theorem AFr.put_n (fr : AFr) (d : Option Tmp) (v : Value) : (fr.put d v).n = fr.n := by
  unfold AFr.put; split
  · rfl
  · split <;> rfl
theorem AFr.put_at (fr : AFr) (d : Option Tmp) (v : Value) (t : Nat) : (fr.put d v).at_ t = if d = some t ∧ t < fr.n then v else fr.at_ t := by
  unfold AFr.put
  split
  · simp
  · rename_i d
    split
    · rename_i h
      have h : d < fr.n := Nat.le_of_ble_eq_true h
      unfold AFr.at_
      simp only [Tr.get_put]
      by_cases e : t = d
      · subst e; simp [h]
      · rw [if_neg e, if_neg (by simp; intro q; exact absurd q.symm e)]
    · rename_i h
      have h : ¬ d < fr.n := fun q => by rw [show d.blt fr.n = true from Nat.ble_eq_true_of_le q] at h; cases h
      rw [if_neg (fun q => h (by have := q.1; cases this; exact q.2))]
theorem put_getD (a : Act) (d : Option Tmp) (v : Value) (t : Nat) : (a.put d v).tmps.getD t undef = if d = some t ∧ t < a.tmps.size then v else a.tmps.getD t undef := by
  cases d with
  | none => simp [Act.put]
  | some d =>
    simp only [Act.put, Array.getD_eq_getD_getElem?]
    rw [Array.getElem?_setIfInBounds]
    by_cases e : d = t
    · subst e
      by_cases h : d < a.tmps.size
      · simp [h]
      · simp [h]
    · rw [if_neg e, if_neg (by simp [e])]
theorem put_size (a : Act) (d : Option Tmp) (v : Value) : (a.put d v).tmps.size = a.tmps.size := by cases d <;> simp [Act.put]
theorem put_defers (a : Act) (d : Option Tmp) (v : Value) : (a.put d v).defers = a.defers := by cases d <;> rfl
theorem FR.put {fr : AFr} {a : Act} {v v' : Value} (h : FR P ρ fr a.tmps) (d : Option Tmp) (hv : VR P ρ v v') : FR P ρ (fr.put d v) (a.put d v').tmps := by
  refine ⟨by rw [put_size, AFr.put_n, h.size], fun t => ?_⟩
  rw [AFr.put_at, put_getD, h.size]
  split
  · exact hv
  · exact h.at_ t

/-! Operands. -/
theorem eval_sound {gs : List Nat} {fr : AFr} {a : Act} {x : Operand} (hok : opdOk gs x = true) (hG : Gl gs ρ) (ht : ∀ t, x = .tmp t → VR P ρ (fr.at_ t) (a.tmps.getD t undef)) : VR P ρ (fr.eval x) (a.eval x) := by
  cases x with
  | tmp t => exact ht t rfl
  | const v => exact .of_plain hok
  | global g =>
    obtain ⟨m, hm, hb, hs⟩ := hG g (by simpa [opdOk] using hok)
    have := VR.ptr (P := P) (o := 0) hm
    rw [hb, hs] at this
    exact this
  | func f => exact VR.func_iff .nil .nil
theorem evals_ok {gs : List Nat} {o : Oper} {fr : AFr} {a : Act} (hok : operOk gs o = true) (hG : Gl gs ρ) (hF : FR P ρ fr a.tmps) : ∀ x ∈ o.op.operands.toList, VR P ρ (fr.eval x) (a.eval x) := fun x hx =>
  eval_sound (List.all_eq_true.1 hok x hx) hG fun t _ => hF.at_ t

/-! Guards. -/
theorem yields_sound {ops : List Oper} {fr : AFr} {a : Act} {j : Nat} (ht : ∀ o t, ops[j]? = some o → o.dst = some t → VR P ρ (fr.at_ t) (a.tmps.getD t undef)) : yielded ops.toArray a.tmps j = yields ops fr j := by
  unfold yielded yields
  rw [List.getElem?_toArray]
  cases ho : ops[j]? with
  | none => rfl
  | some o =>
    simp only [Option.bind_some]
    cases hd : o.dst with
    | none => rfl
    | some d =>
      simp only [Option.bind_some]
      have hv := ht o d ho hd
      rw [Array.getD_eq_getD_getElem?] at hv
      cases hq : a.tmps[d]? with
      | none =>
        rw [hq] at hv
        simp only [Option.getD_none] at hv
        -- no such slot: the abstract one is no bool
        cases hz : fr.at_ d with
        | bool b => rw [hz] at hv; have := hv.bool_inv; simp [undef] at this
        | _ => rfl
      | some u =>
        rw [hq] at hv
        simp only [Option.getD_some] at hv
        cases hz : fr.at_ d with
        | bool b => rw [hz] at hv; rw [hv.bool_inv]
        | _ =>
          cases u with
          | bool b =>
            rw [hz] at hv
            cases hv
            all_goals (rename_i h; simp [AE.atom] at h)
          | _ => rfl
theorem wanted_sound {ops : List Oper} {fr : AFr} {a : Act} {o : Oper} (ht : ∀ g want o2 t, o.guard = some (g, want) → ops[g]? = some o2 → o2.dst = some t → VR P ρ (fr.at_ t) (a.tmps.getD t undef)) :
    Region.wanted o (yielded ops.toArray a.tmps) = wanted' ops fr o := by
  unfold Region.wanted wanted'
  cases hg : o.guard with
  | none => rfl
  | some p =>
    obtain ⟨g, want⟩ := p
    simp only
    rw [yields_sound (P := P) (ρ := ρ) (fun o2 t h1 h2 => ht g want o2 t hg h1 h2)]
    cases yields ops fr g with
    | none => rfl
    | some b => simp

/-! A region in the order of the text. -/
def Cont (P : Program) (ρ : Ren) (σ : AHeap) (w : World) (a : Act) (fr' : AFr) (σ' : AHeap) (K : Act → World → Prop) : Prop :=
  ∀ ρ' a' w', FR P ρ' fr' a'.tmps → a'.defers = a.defers → Rel P ρ' σ' w' → Ext ρ σ w ρ' σ' w' → K a' w'
theorem runOps_sound {gs : List Nat} {call : CallF} (hcall : CallS P gs call) {ops : List Oper} {Q : Exit → Act → World → Prop} : ∀ (l : List Oper) (fr : AFr) (σ : AHeap) (fr' : AFr) (σ' : AHeap), (∀ o ∈ l, operOk gs o = true) → runOps P call ops l fr σ = some (fr', σ') →
    ∀ (ρ : Ren) (a : Act) (w : World), FR P ρ fr a.tmps → Gl gs ρ → Rel P ρ σ w → Cont P ρ σ w a fr' σ' (Q .normal) → wpList P ops.toArray Q l a w
  | [], fr, σ, fr', σ', _, h, ρ, a, w, hF, hG, hR, hK => by
    simp only [runOps, Option.some.injEq, Prod.mk.injEq] at h
    obtain ⟨rfl, rfl⟩ := h
    exact hK ρ a w hF rfl hR (.refl _ _ _)
  | o :: rest, fr, σ, fr', σ', hok, h, ρ, a, w, hF, hG, hR, hK => by
    have hw := wanted_sound (P := P) (ρ := ρ) (ops := ops) (o := o) (fun g want o2 t _ _ _ => hF.at_ t)
    rw [runOps] at h
    unfold wpList
    rw [hw]
    split at h
    · rename_i hf
      rw [hf]
      simp only [Bool.false_eq_true, if_false]
      exact runOps_sound hcall rest _ _ _ _ (fun x hx => hok x (by simp [hx])) h ρ _ w (hF.put o.dst .undef) hG hR (fun ρ' a' w' h1 h2 h3 h4 => hK ρ' a' w' h1 (h2.trans (put_defers _ _ _)) h3 h4)
    · rename_i hf
      rw [hf]
      simp only [if_true]
      split at h
      · cases h
      · rename_i v σ2 ha
        refine .inl (aop_sound hcall ha (evals_ok (hok o (by simp)) hG hF) hG hR fun ρ' v' w' hv hR' hE => ?_)
        exact runOps_sound hcall rest _ _ _ _ (fun x hx => hok x (by simp [hx])) h ρ' _ w' ((hF.mono hE.ren).put o.dst hv) (hG.mono hE.ren) hR'
          (fun ρ2 a2 w2 h1 h2 h3 h4 => hK ρ2 a2 w2 h1 (h2.trans (put_defers _ _ _)) h3 (hE.trans h4))
end Go.AE
