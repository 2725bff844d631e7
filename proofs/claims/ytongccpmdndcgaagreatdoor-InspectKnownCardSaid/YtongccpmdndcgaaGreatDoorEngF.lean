/- The operations that leave memory as it is. -/
import Derived.Test.YtongccpmdndcgaaGreatDoorEngE
import Derived.Laws.BytesString
namespace Go.AE
set_option linter.unusedVariables false
set_option linter.unusedSimpArgs false
variable {P : Program} {ρ : Ren} {σ : AHeap} {w : World}

def OutV (P : Program) (ρ : Ren) (σ : AHeap) (w : World) (v : Value) (σ' : AHeap) (r : Result Value) : Prop :=
  ∃ ρ' v' w', r = .ok v' w' ∧ VR P ρ' v v' ∧ Rel P ρ' σ' w' ∧ Ext ρ σ w ρ' σ' w'
def OutU (P : Program) (ρ : Ren) (σ : AHeap) (w : World) (σ' : AHeap) (r : Result Unit) : Prop :=
  ∃ ρ' w', r = .ok () w' ∧ Rel P ρ' σ' w' ∧ Ext ρ σ w ρ' σ' w'
theorem OutV.out {v : Value} {σ' : AHeap} {s : Sem Value} (h : OutV P ρ σ w v σ' (s.run P w)) : Out P ρ σ w v σ' ((do pure (Next.value (← s)) : Sem Next).run P w) := by
  obtain ⟨ρ', v', w', hr, hv, hR, hE⟩ := h
  exact ⟨ρ', v', w', .inl (by simp [hr]), hv, hR, hE⟩
theorem OutU.out {σ' : AHeap} {s : Sem Unit} (h : OutU P ρ σ w σ' (s.run P w)) : Out P ρ σ w undef σ' ((do s; pure Next.skip : Sem Next).run P w) := by
  obtain ⟨ρ', w', hr, hR, hE⟩ := h
  exact ⟨ρ', undef, w', .inr ⟨by simp [hr], rfl⟩, .undef, hR, hE⟩
theorem OutV.same (h : Rel P ρ σ w) {v v' : Value} (hv : VR P ρ v v') {s : Sem Value} (hs : s.run P w = .ok v' w) : OutV P ρ σ w v σ (s.run P w) := ⟨ρ, v', w, hs, hv, h, .refl _ _ _⟩

theorem atomic_some {o : Option Value} {v : Value} (h : atomic o = some v) : o = some v ∧ atom v = true := by
  unfold atomic at h
  split at h
  · split at h
    · rename_i ha; cases h; exact ⟨rfl, ha⟩
    · cases h
  · cases h

/-! Two operands. -/
def nilHead : Value → Bool
  | .nilIface => true
  | _ => false
def aggHead : Value → Bool
  | .agg _ => true
  | _ => false
theorem VR.nilHead {v v' : Value} (h : VR P ρ v v') : AE.nilHead v' = AE.nilHead v := by cases h <;> rfl
theorem VR.aggHead {v v' : Value} (h : VR P ρ v v') : AE.aggHead v' = AE.aggHead v := by cases h <;> rfl
theorem eqGuard_run {op : BinOp} {t : TypeId} {x y : Operand} {a b : Value} (h1 : AE.nilHead a = true → AE.nilHead b = true → ((x matches .const _) || (y matches .const _)) = true) (h2 : AE.aggHead a = true → AE.aggHead b = true → P.eqGuardType P.depth t = false) :
    (Go.eqGuard op t x y a b).run P w = .ok () w := by
  unfold Go.eqGuard
  split
  · rw [if_neg (by decide)]
    split
    · have := h1 rfl rfl
      cases x <;> cases y <;> first | rfl | (simp at this; done)
    · have := h2 rfl rfl
      simp [this]
    · rfl
  · rw [if_neg (by decide)]
    split
    · have := h1 rfl rfl
      cases x <;> cases y <;> first | rfl | (simp at this; done)
    · have := h2 rfl rfl
      simp [this]
    · rfl
  · rfl
theorem bin_out {op : BinOp} {t : TypeId} {x y : Operand} {a b a' b' v : Value} (h : bin P op t x y a b = some v) (hR : Rel P ρ σ w) (ha : VR P ρ a a') (hb : VR P ρ b b') :
    OutV P ρ σ w v σ ((do Go.eqGuard op t x y a' b'; Go.binOp op t a' b').run P w) := by
  unfold bin at h
  split at h
  · rename_i s u
    rw [ha.string_inv, hb.string_inv]
    refine .same hR (v' := v) ?_ ?_
    · unfold strOp at h
      cases op <;> simp only [Option.some.injEq] at h <;> first | (subst h; exact .atom rfl) | (cases h; done) | (split at h <;> first | (cases h; done) | (cases h; exact .atom rfl))
    · rw [Sem.run_bind, eqGuard_run (by intro h; cases h) (by intro h; cases h), Result.andThen_ok]
      have : Go.binOp op t (.string s) (.string u) = Op.stringOp op s u := by cases op <;> rfl
      rw [this]
      exact strOp_sound h w
  · rename_i k n k' n'
    rw [ha.int_inv, hb.int_inv]
    obtain ⟨hp, hat⟩ := atomic_some h
    exact .same hR (v' := v) (.atom hat) (by rw [Sem.run_bind, eqGuard_run (by intro h; cases h) (by intro h; cases h), Result.andThen_ok]; exact pureP_run hp w)
  · rename_i k n k' n'
    rw [ha.atom_inv rfl, hb.atom_inv rfl]
    obtain ⟨hp, hat⟩ := atomic_some h
    exact .same hR (v' := v) (.atom hat) (by rw [Sem.run_bind, eqGuard_run (by intro h; cases h) (by intro h; cases h), Result.andThen_ok]; exact pureP_run hp w)
  · cases h
  · rename_i n1 n2 n3 n4
    split at h
    · cases h
    · rename_i he
      dsimp only at h
      split at h
      · cases h
      · rename_i hg
        cases hv : eqV P t a b with
        | none => rw [hv] at h; simp at h
        | some r =>
          rw [hv] at h
          simp only [Option.map_some, Option.some.injEq] at h
          have hq := eqV_sound hv ha hb w
          have hgd : (Go.eqGuard op t x y a' b').run P w = .ok () w := by
            refine eqGuard_run (fun c d => ?_) (fun c d => ?_)
            · rw [ha.nilHead] at c; rw [hb.nilHead] at d
              cases a <;> simp [AE.nilHead] at c
              cases b <;> simp [AE.nilHead] at d
              cases x <;> cases y <;> simp_all
            · rw [ha.aggHead] at c; rw [hb.aggHead] at d
              cases a <;> simp [AE.aggHead] at c
              cases b <;> simp [AE.aggHead] at d
              simpa using hg
          have back : ∀ {z z' : Value}, VR P ρ z z' → (∀ u, AE.atom u = true → z' = u → z = u) := fun {z z'} hz u hu e => by
            subst e
            cases hz <;> first | rfl | (simp [AE.atom] at hu; done)
          obtain ⟨q1, q2⟩ := bin_eql t a' b' (fun k n k' n' e1 e2 => n2 _ _ _ _ (back ha _ rfl e1) (back hb _ rfl e2)) (fun k n k' n' e1 e2 => n3 _ _ _ _ (back ha _ rfl e1) (back hb _ rfl e2))
            (fun k n i k' n' i' e1 e2 => n4 _ _ _ _ _ _ (back ha _ rfl e1) (back hb _ rfl e2)) (fun s u e1 e2 => n1 _ _ (back ha _ rfl e1) (back hb _ rfl e2))
          subst h
          refine .same hR (v' := _) (.atom rfl) ?_
          rw [Sem.run_bind, hgd, Result.andThen_ok]
          cases op <;> simp only [isEq] at he <;> try (cases he; done)
          · rw [q1]; simp [hq]
          · rw [q2]; simp [hq]
theorem un_out {op : UnOp} {a a' v : Value} (h : un P op a = some v) (hR : Rel P ρ σ w) (ha : VR P ρ a a') : OutV P ρ σ w v σ ((Op.unary op a').run P w) := by
  unfold un at h
  split at h
  · rename_i hat
    rw [ha.atom_inv hat]
    obtain ⟨hp, hav⟩ := atomic_some h
    exact .same hR (.atom hav) (pureP_run hp w)
  · cases h
end Go.AE
