/- Maps. -/
import Derived.Test.YtongccpmdndcgaaGreatDoorEngM
namespace Go.AE
set_option linter.unusedVariables false
set_option linter.unusedSimpArgs false
variable {P : Program} {ρ : Ren} {σ : AHeap} {w : World}

theorem run_getObj {r : Nat} {o : Obj} (h : w.heap[r]? = some o) (hc : ∀ c e f, o ≠ .cells c e f) : (getObj r).run P w = .ok o w := by
  cases o <;> first | exact absurd rfl (hc _ _ _) | simp only [getObj, Sem.run, h]
theorem run_setObj {r : Nat} {o o' : Obj} (h : w.heap[r]? = some o) (hc : ∀ c e f, o ≠ .cells c e f) : (setObj r o').run P w = .ok () { w with heap := w.heap.setIfInBounds r o' } := by
  cases o <;> first | exact absurd rfl (hc _ _ _) | simp only [setObj, Sem.run, h]

theorem ba_beq (a c : ByteArray) : (a == c) = (a.data.toList == c.data.toList) := by
  obtain ⟨a⟩ := a
  obtain ⟨c⟩ := c
  show (a == c) = (a.toList == c.toList)
  rw [Bool.eq_iff_iff]
  simp

theorem equal_now {d : TypeDesc} {kt : TypeId} {k e : Value} {b : Bool} (hu : P.underlying kt = some d) (h : Instr.sameNow d k e = some b) (w : World) : (Op.equal kt k e).run P w = .ok b w := by
  obtain ⟨n, hq⟩ := equal_go
  unfold Instr.sameNow at h
  split at h
  · split at h
    · rename_i hk; cases h; subst hk; simp [hq, Op.equalIn, run_under hu]
    · cases h
  · cases h; simp [hq, Op.equalIn, run_under hu]
  · cases h; simp [hq, Op.equalIn, run_under hu]
  · cases h
theorem findNow_asking {d : TypeDesc} {kt : TypeId} {k : Value} (hu : P.underlying kt = some d) : ∀ (es : List MapEntry) (i : Nat) (r : Option (Nat × Value)), Instr.findNow d k es i = some r → (Instr.findAsking kt k es i).run P w = .ok r w
  | [], i, r, h => by simp only [Instr.findNow, Option.some.injEq] at h; subst h; rfl
  | e :: es, i, r, h => by
    rw [Instr.findNow] at h
    rw [Instr.findAsking]
    split at h
    · rename_i hs; cases h; simp [equal_now hu hs w]
    · rename_i hs; simp [equal_now hu hs w, findNow_asking hu es (i + 1) r h]
    · cases h
theorem run_findKey {kt : TypeId} {d : TypeDesc} {k : Value} {es : List MapEntry} {r : Option (Nat × Value)} (hu : P.underlying kt = some d) (h : (Instr.findAsking kt k es 0).run P w = .ok r w) : (Instr.findKey kt k es).run P w = .ok r w := by
  simp only [Instr.findKey, Sem.run_bind, run_under hu, Result.andThen_ok]
  cases hn : Instr.findNow d k es 0 with
  | none => simpa using h
  | some q =>
    have := findNow_asking (w := w) hu es 0 q hn
    rw [h] at this
    cases this
    rfl
theorem keyEq_sound {kt : TypeId} {str : Bool} {k e k' e' : Value} {b : Bool} (h : keyEq P kt str k e = some b) (hs : str = true → P.underlying kt = some .string) (hk : VR P ρ k k') (he : VR P ρ e e') (w : World) : (Op.equal kt k' e').run P w = .ok b w := by
  unfold keyEq at h
  split at h
  · split at h
    · rename_i a c
      cases h
      rw [hk.string_inv, he.string_inv]
      obtain ⟨n, hq⟩ := equal_go
      rw [hq]
      simp only [Op.equalIn, Sem.run_bind, run_under (hs rfl), Result.andThen_ok, Sem.run_pure]
      rw [ba_beq]
    · cases h
  · split at h
    · rename_i hp
      simp only [Bool.and_eq_true] at hp
      rw [hk.eq_of_plain hp.1, he.eq_of_plain hp.2]
      exact pureP_run h w
    · cases h
/-- What a search for a key comes to. -/
def FR' (P : Program) (ρ : Ren) (i0 : Nat) (es es' : List MapEntry) : Option (Nat × MapEntry) → Option (Nat × Value) → Prop
  | none, r => r = none
  | some (i, e), r => ∃ e', es[i - i0]? = some e ∧ es'[i - i0]? = some e' ∧ ER P ρ e e' ∧ i0 ≤ i ∧ r = some (i, e'.val)
theorem findKey_sound {kt : TypeId} {str : Bool} {k k' : Value} (hs : str = true → P.underlying kt = some .string) (hk : VR P ρ k k') (w : World) : ∀ (es es' : List MapEntry) (i : Nat) (r : Option (Nat × MapEntry)), findKey' P kt str k es i = some r → ELR P ρ es es' →
    ∃ r', (Instr.findAsking kt k' es' i).run P w = .ok r' w ∧ FR' P ρ i es es' r r'
  | [], es', i, r, h, hl => by
    have : es' = [] := by have := hl.len; simp at this; exact List.eq_nil_of_length_eq_zero this.symm
    subst this
    simp only [findKey', Option.some.injEq] at h
    subst h
    exact ⟨none, rfl, rfl⟩
  | e :: es, es', i, r, h, hl => by
    cases es' with
    | nil => have := hl.len; simp at this
    | cons e' es' =>
      have h0 := hl.at_ 0 e e' (by simp) (by simp)
      have hl' : ELR P ρ es es' := ⟨by have := hl.len; simpa using this, fun j a b ha hb => hl.at_ (j + 1) a b (by simpa using ha) (by simpa using hb)⟩
      rw [findKey'] at h
      rw [Instr.findAsking]
      split at h
      · rename_i hq
        cases h
        exact ⟨some (i, e'.val), by simp [keyEq_sound hq hs hk h0.key w], e', by simp, by simp, h0, Nat.le_refl _, rfl⟩
      · rename_i hq
        obtain ⟨r', h1, h2⟩ := findKey_sound hs hk w es es' (i + 1) r h hl'
        refine ⟨r', by simp [keyEq_sound hq hs hk h0.key w, h1], ?_⟩
        cases r with
        | none => exact h2
        | some p =>
          obtain ⟨j, f⟩ := p
          obtain ⟨f', a, b, c, d, e⟩ := h2
          refine ⟨f', ?_, ?_, c, by omega, e⟩
          · rw [show j - i = (j - (i + 1)) + 1 by omega]; simpa using a
          · rw [show j - i = (j - (i + 1)) + 1 by omega]; simpa using b
      · cases h
theorem isStr_spec {kt : TypeId} (h : isStr P kt = true) : P.underlying kt = some .string := by
  unfold isStr at h
  split at h
  · assumption
  · cases h
theorem keyOk_spec {kt : TypeId} {k k' : Value} (h : keyOk P kt k = true) (hk : VR P ρ k k') (w : World) : k' = k ∧ plain k = true ∧ ∀ b, (Instr.checkKey b 10000 kt k).run P w = .ok () w := by
  unfold keyOk at h
  simp only [Bool.and_eq_true, Bool.or_eq_true] at h
  obtain ⟨hp, h⟩ := h
  refine ⟨hk.eq_of_plain hp, hp, fun b => ?_⟩
  obtain ⟨n, hn⟩ : ∃ n, 10000 = n + 1 := ⟨9999, rfl⟩
  rcases h with h | ⟨h1, h2⟩
  · rw [hn]
    unfold easyKey at h
    cases hu : P.underlying kt with
    | none => rw [hu] at h; cases h
    | some d => rw [hu] at h; cases d <;> simp at h <;> simp [Instr.checkKey, run_under hu]
  · cases b with
    | false =>
      cases hq : pureP P (Instr.checkKey false 10000 kt k) with
      | none => rw [hq] at h1; cases h1
      | some u => exact pureP_run hq w
    | true =>
      cases hq : pureP P (Instr.checkKey true 10000 kt k) with
      | none => rw [hq] at h2; cases h2
      | some u => exact pureP_run hq w
theorem under_of_keyOk {kt : TypeId} {k : Value} (h : keyOk P kt k = true) : ∃ d, P.underlying kt = some d := by
  cases hu : P.underlying kt with
  | some d => exact ⟨d, rfl⟩
  | none =>
    exfalso
    unfold keyOk easyKey at h
    rw [hu] at h
    simp only [Bool.false_or, Bool.and_eq_true] at h
    obtain ⟨_, h1, _⟩ := h
    cases hq : pureP P (Instr.checkKey false 10000 kt k) with
    | none => rw [hq] at h1; cases h1
    | some u =>
      obtain ⟨n, hn⟩ : ∃ n, 10000 = n + 1 := ⟨9999, rfl⟩
      rw [hn] at hq
      have := pureP_run hq default
      simp [Instr.checkKey, underlying, hu] at this
theorem lookup_out {t : TypeId} {x k x' k' v : Value} {ok : Bool} (h : lookup' P t x k ok σ = some v) (hR : Rel P ρ σ w) (hx : VR P ρ x x') (hk : VR P ρ k k') : OutV P ρ σ w v σ ((Instr.lookup t x' k' ok).run P w) := by
  unfold lookup' at h
  split at h
  · rename_i kt et hu
    split at h
    · rename_i es hko hes
      obtain ⟨rfl, hp, hck⟩ := keyOk_spec hko hk w
      obtain ⟨d, hd⟩ := under_of_keyOk hko
      have hents : ∃ es' : Array MapEntry, ELR P ρ es es'.toList ∧ ((x' = .map none ∧ es' = #[]) ∨ ∃ r cl, x' = .map (some r) ∧ w.heap[r]? = some (.map es' cl)) := by
        unfold entriesOf at hes
        split at hes
        · cases hes; exact ⟨#[], ⟨rfl, fun i e e' h => by simp at h⟩, .inl ⟨hx.atom_inv rfl, rfl⟩⟩
        · rename_i r
          split at hes
          · rename_i es2 cl ro hg
            cases hes
            obtain ⟨m, hm, rfl⟩ := hx.map_inv
            obtain ⟨m2, hm2, _, es', hh, hl⟩ := hR.obj r _ hg
            rw [hm] at hm2; cases hm2
            exact ⟨es', hl, .inr ⟨m.blk, cl, rfl, hh⟩⟩
          · cases hes
        · cases hes
      obtain ⟨es', hl, hxe⟩ := hents
      cases hf : findKey' P kt (isStr P kt) k' es 0 with
      | none => rw [hf] at h; cases h
      | some r =>
        rw [hf] at h
        obtain ⟨r', h1, h2⟩ := findKey_sound isStr_spec hk w es es'.toList 0 r hf hl
        have h3 := run_findKey hd h1
        have hrun : ∀ (v' : Value) (okk : Bool), (match r' with | some (_, v) => pure (v, true) | none => do pure (← zeroValue et, false) : Sem (Value × Bool)).run P w = .ok (v', okk) w →
            (Instr.lookup t x' k' ok).run P w = .ok (if ok then .tuple #[v', .bool okk] else v') w := by
          intro v' okk hq
          rcases hxe with ⟨rfl, rfl⟩ | ⟨r0, cl, rfl, hh⟩
          · simp only [Instr.lookup, Sem.run_bind, run_under hu, Result.andThen_ok, Sem.run_pure, hck]
            rw [h3]
            simp only [Result.andThen_ok]
            cases r' with
            | none => simp only at hq ⊢; rw [Sem.run_bind] at hq; simp only [Sem.run_bind]; revert hq; cases hz : (zeroValue et).run P w <;> intro hq <;> simp at hq ⊢; obtain ⟨⟨rfl, rfl⟩, rfl⟩ := hq; exact ⟨rfl, rfl⟩
            | some p => simp only [Sem.run_pure, Result.ok.injEq, Prod.mk.injEq] at hq ⊢; obtain ⟨⟨rfl, rfl⟩, _⟩ := hq; simp
          · simp only [Instr.lookup, Sem.run_bind, run_under hu, Result.andThen_ok, Sem.run_pure, run_getObj hh (by intro c e f; simp), hck]
            rw [h3]
            simp only [Result.andThen_ok]
            cases r' with
            | none => simp only at hq ⊢; rw [Sem.run_bind] at hq; simp only [Sem.run_bind]; revert hq; cases hz : (zeroValue et).run P w <;> intro hq <;> simp at hq ⊢; obtain ⟨⟨rfl, rfl⟩, rfl⟩ := hq; exact ⟨rfl, rfl⟩
            | some p => simp only [Sem.run_pure, Result.ok.injEq, Prod.mk.injEq] at hq ⊢; obtain ⟨⟨rfl, rfl⟩, _⟩ := hq; simp
        cases r with
        | none =>
          simp only [FR'] at h2
          subst h2
          simp only at h
          split at h
          · rename_i z hz
            cases h
            have hvz := VR.of_plain (P := P) (ρ := ρ) (zeroOf_info hz).2
            refine .same hR ?_ (hrun z false (by simp [info_zero hz]))
            cases ok with
            | true => exact VR.tuple_iff (.cons hvz (.cons (.atom rfl) .nil))
            | false => exact hvz
          · cases h
        | some p =>
          obtain ⟨i, e⟩ := p
          obtain ⟨e', _, _, he, _, rfl⟩ := h2
          simp only [Option.some.injEq] at h
          subst h
          refine .same hR ?_ (hrun e'.val true rfl)
          cases ok with
          | true => exact VR.tuple_iff (.cons he.val (.cons (.atom rfl) .nil))
          | false => exact he.val
    · cases h
  · cases h
end Go.AE
