/- What the plain operations compute. -/
import Derived.Test.YtongccpmdndcgaaGreatDoorEngD
import Derived.Laws.Strings
import Derived.Laws.Concat
namespace Go.AE
set_option linter.unusedVariables false
set_option linter.unusedSimpArgs false
variable {P : Program} {ρ : Ren} {σ : AHeap} {w : World}

/-- What an operation leaves. -/
def Out (P : Program) (ρ : Ren) (σ : AHeap) (w : World) (v : Value) (σ' : AHeap) (r : Result Next) : Prop :=
  ∃ ρ' v' w', (r = .ok (.value v') w' ∨ r = .ok .skip w' ∧ v' = undef) ∧ VR P ρ' v v' ∧ Rel P ρ' σ' w' ∧ Ext ρ σ w ρ' σ' w'
theorem Out.still (h : Rel P ρ σ w) {v v' : Value} (hv : VR P ρ v v') {s : Sem Value} (hs : s.run P w = .ok v' w) : Out P ρ σ w v σ ((do pure (Next.value (← s)) : Sem Next).run P w) :=
  ⟨ρ, v', w, .inl (by simp [hs]), hv, h, .refl _ _ _⟩

theorem pureP_run {α : Type} {s : Sem α} {a : α} (h : pureP P s = some a) (w : World) : s.run P w = .ok a w := by
  induction s with
  | pure x => simp only [pureP, Option.some.injEq] at h; subst h; rfl
  | program k ih => exact ih P h
  | _ => simp [pureP] at h

theorem run_pickk (w : World) {c a b : Value} {t : Bool} (hc : c = .bool t) : ((do pure (Next.value (if ← asBool c then a else b)) : Sem Next)).run P w = .ok (.value (if t then a else b)) w := by
  subst hc; simp [asBool]

/-! Equality. -/
theorem equal_go : ∃ n, ∀ (t : TypeId) (x y : Value), Op.equal t x y = Op.equalIn (n + 1) t x y := ⟨9999, fun _ _ _ => rfl⟩
theorem eqV_sound {t : TypeId} {x y x' y' : Value} {r : Bool} (h : eqV P t x y = some r) (hx : VR P ρ x x') (hy : VR P ρ y y') (w : World) : (Op.equal t x' y').run P w = .ok r w := by
  obtain ⟨dd, hq⟩ := equal_go
  unfold eqV at h
  split at h
  · -- nil pointer first
    rw [hx.atom_inv rfl]
    rename_i b
    cases hu : P.underlying t with
    | none => rw [hu] at h; simp at h
    | some d =>
      rw [hu] at h
      cases d <;> simp at h
      subst h
      cases b with
      | none => rw [hy.atom_inv rfl]; simp [hq, Op.equalIn, run_under hu]
      | some a => obtain ⟨m, _, _, rfl⟩ := hy.ptr_inv; simp [hq, Op.equalIn, run_under hu]
  · rw [hy.atom_inv rfl]
    cases hu : P.underlying t with
    | none => rw [hu] at h; simp at h
    | some d =>
      rw [hu] at h
      cases d <;> simp at h
      subst h
      obtain ⟨m, _, _, rfl⟩ := hx.ptr_inv; simp [hq, Op.equalIn, run_under hu]
  · rw [hx.atom_inv rfl]
    rename_i b _ _
    cases hu : P.underlying t with
    | none => rw [hu] at h; simp at h
    | some d =>
      rw [hu] at h
      cases d <;> simp at h
      subst h
      cases b with
      | none => rw [hy.atom_inv rfl]; simp [hq, Op.equalIn, run_under hu]
      | some a => rcases hy.slice_inv with ⟨m, c', s, _, _, _, _, _, rfl⟩ | ⟨m, a', _, _, _, _, _, rfl⟩ | ⟨k, a', _, _, _, rfl⟩ <;> simp [hq, Op.equalIn, run_under hu]
  · rw [hy.atom_inv rfl]
    cases hu : P.underlying t with
    | none => rw [hu] at h; simp at h
    | some d =>
      rw [hu] at h
      cases d <;> simp at h
      subst h
      rcases hx.slice_inv with ⟨m, c', s, _, _, _, _, _, rfl⟩ | ⟨m, a', _, _, _, _, _, rfl⟩ | ⟨k, a', _, _, _, rfl⟩ <;> simp [hq, Op.equalIn, run_under hu]
  · rw [hx.atom_inv rfl]
    rename_i b
    cases hu : P.underlying t with
    | none => rw [hu] at h; simp at h
    | some d =>
      rw [hu] at h
      cases d <;> simp at h
      subst h
      cases b with
      | none => rw [hy.atom_inv rfl]; simp [hq, Op.equalIn, run_under hu]
      | some a => obtain ⟨m, _, rfl⟩ := hy.map_inv; simp [hq, Op.equalIn, run_under hu]
  · rw [hy.atom_inv rfl]
    cases hu : P.underlying t with
    | none => rw [hu] at h; simp at h
    | some d =>
      rw [hu] at h
      cases d <;> simp at h
      subst h
      obtain ⟨m, _, rfl⟩ := hx.map_inv; simp [hq, Op.equalIn, run_under hu]
  · rw [hy.atom_inv rfl]
    cases hu : P.underlying t with
    | none => rw [hu] at h; simp at h
    | some d =>
      rw [hu] at h
      cases d <;> simp at h
      subst h
      obtain ⟨a, b, rfl, _, _⟩ := hx.func_inv; simp [hq, Op.equalIn, run_under hu]
  · rw [hx.atom_inv rfl]
    cases hu : P.underlying t with
    | none => rw [hu] at h; simp at h
    | some d =>
      rw [hu] at h
      cases d <;> simp at h
      subst h
      obtain ⟨a, b, rfl, _, _⟩ := hy.func_inv; simp [hq, Op.equalIn, run_under hu]
  · rw [hx.atom_inv rfl]
    cases hu : P.underlying t with
    | none => rw [hu] at h; simp at h
    | some d =>
      rw [hu] at h
      cases d <;> simp at h
      subst h
      obtain ⟨a, rfl, _⟩ := hy.iface_inv; simp [hq, Op.equalIn, run_under hu]
  · rw [hy.atom_inv rfl]
    cases hu : P.underlying t with
    | none => rw [hu] at h; simp at h
    | some d =>
      rw [hu] at h
      cases d <;> simp at h
      subst h
      obtain ⟨a, rfl, _⟩ := hx.iface_inv; simp [hq, Op.equalIn, run_under hu]
  · split at h
    · rename_i hp
      simp only [Bool.and_eq_true] at hp
      rw [hx.eq_of_plain hp.1, hy.eq_of_plain hp.2]
      exact pureP_run h w
    · cases h

theorem strOp_sound {op : BinOp} {x y : ByteArray} {v : Value} (h : strOp op x y = some v) (w : World) : (Op.stringOp op x y).run P w = .ok v w := by
  unfold strOp at h
  unfold Op.stringOp
  simp only [ByteArray.toList_eq]
  cases op <;> simp only [Option.some.injEq] at h <;> try (subst h; rfl)
  all_goals try (cases h; done)
  · by_cases hb : ((x.size + y.size : Nat) : Int) > IntKind.i64.max
    · rw [if_pos hb] at h; cases h
    · rw [if_neg hb] at h ⊢
      cases h
      have : x ++ y = ByteArray.mk (x.data.toList ++ y.data.toList).toArray := by
        rw [← ByteArray.mk_append_mk]
      simp [this]

theorem bin_eql (t : TypeId) (a b : Value) (h1 : ∀ k n k' n', a = .int k n → b = .int k' n' → False) (h2 : ∀ k n k' n', a = .float k n → b = .float k' n' → False)
    (h3 : ∀ k n i k' n' i', a = .complex k n i → b = .complex k' n' i' → False) (h4 : ∀ s u, a = .string s → b = .string u → False) :
    Go.binOp .eql t a b = (do pure (.bool (← Op.equal t a b))) ∧ Go.binOp .neq t a b = (do pure (.bool (!(← Op.equal t a b)))) := by
  cases a <;> cases b <;> first | exact ⟨rfl, rfl⟩ | exact (h1 _ _ _ _ rfl rfl).elim | exact (h2 _ _ _ _ rfl rfl).elim | exact (h3 _ _ _ _ _ _ rfl rfl).elim | exact (h4 _ _ rfl rfl).elim
end Go.AE
