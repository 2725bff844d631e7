/- A region whose order is drawn. -/
import Derived.Test.YtongccpmdndcgaaGreatDoorEngS
namespace Go.AE
set_option linter.unusedVariables false
set_option linter.unusedSimpArgs false
variable {P : Program}

/-! What waits for what. -/
theorem maskOf_bit (acc : List Nat) (i : Nat) : ∀ (es : List Edge) (m : Nat), (maskOf acc es m).testBit i = true → m.testBit i = true ∨ ∃ e ∈ es, Region.binds .any e = true ∧ (e.on = i ∨ (acc.getD e.on 0).testBit i = true)
  | [], m, h => .inl h
  | e :: es, m, h => by
    rw [maskOf] at h
    split at h
    · rename_i hb
      rcases maskOf_bit acc i es _ h with h | ⟨e', he, h⟩
      · rw [Nat.testBit_or, Nat.testBit_or, Bool.or_eq_true, Bool.or_eq_true] at h
        rcases h with (h | h) | h
        · exact .inl h
        · refine .inr ⟨e, by simp, hb, .inl ?_⟩
          rw [Nat.testBit_two_pow] at h
          simpa using h
        · exact .inr ⟨e, by simp, hb, .inr h⟩
      · exact .inr ⟨e', by simp [he], h⟩
    · rcases maskOf_bit acc i es _ h with h | ⟨e', he, h⟩
      · exact .inl h
      · exact .inr ⟨e', by simp [he], h⟩
theorem masks_keep : ∀ (l : List Oper) (acc : List Nat) (j : Nat), j < acc.length → (masks l acc).getD j 0 = acc.getD j 0
  | [], acc, j, _ => rfl
  | o :: l, acc, j, h => by
    rw [masks, masks_keep l _ j (by simp; omega)]
    simp [List.getD_eq_getElem?_getD, List.getElem?_append, h]
theorem masks_len : ∀ (l : List Oper) (acc : List Nat), (masks l acc).length = acc.length + l.length
  | [], acc => by simp [masks]
  | o :: l, acc => by rw [masks, masks_len l]; simp; omega
theorem masks_at : ∀ (l : List Oper) (acc : List Nat) (k : Nat) (o : Oper), l[k]? = some o → ∃ acc' : List Nat, (masks l acc).getD (acc.length + k) 0 = maskOf acc' o.after.toList 0 ∧ ∀ j, (acc'.getD j 0 = (masks l acc).getD j 0 ∨ acc'.getD j 0 = 0)
  | [], acc, k, o, h => by simp at h
  | a :: l, acc, 0, o, h => by
    simp at h; subst h
    refine ⟨acc, ?_, fun j => ?_⟩
    · rw [masks, masks_keep l _ _ (by simp)]
      simp [List.getD_eq_getElem?_getD]
    · by_cases hj : j < acc.length
      · left; rw [masks, masks_keep l _ _ (by simp; omega)]; simp [List.getD_eq_getElem?_getD, List.getElem?_append, hj]
      · right; simp [List.getD_eq_getElem?_getD, List.getElem?_eq_none (Nat.le_of_not_lt hj)]
  | a :: l, acc, k + 1, o, h => by
    obtain ⟨acc', h1, h2⟩ := masks_at l (acc ++ [maskOf acc a.after.toList 0]) k o (by simpa using h)
    refine ⟨acc', ?_, h2⟩
    rw [masks, ← h1]
    congr 1
    simp
    omega
theorem waitsFor_spec {ops : List Oper} {j i : Nat} (h : waitsFor ops j i = true) : ∃ b, ops[j]? = some b ∧ ∃ e ∈ b.after.toList, Region.binds .any e = true ∧ (e.on = i ∨ waitsFor ops e.on i = true) := by
  unfold waitsFor at h
  cases hb : ops[j]? with
  | none =>
    rw [List.getD_eq_getElem?_getD, List.getElem?_eq_none (by rw [masks_len]; simpa using hb)] at h
    simp at h
  | some b =>
    obtain ⟨acc', h1, h2⟩ := masks_at ops [] j b hb
    simp only [List.length_nil, Nat.zero_add] at h1
    rw [h1] at h
    rcases maskOf_bit acc' i _ _ h with h | ⟨e, he, hbd, h⟩
    · simp at h
    · refine ⟨b, rfl, e, he, hbd, ?_⟩
      rcases h with h | h
      · exact .inl h
      · right
        rcases h2 e.on with q | q
        · unfold waitsFor; rw [← q]; exact h
        · rw [q] at h; simp at h

structure DrawOk (P : Program) (fls : List Nat) (ops : List Oper) : Prop where
  back : ∀ (j : Nat) (b : Oper), ops[j]? = some b → ∀ e ∈ b.after.toList, Region.binds .any e = true → e.on < j
  guard : ∀ (j : Nat) (b : Oper) (g : Nat) (want : Bool), ops[j]? = some b → b.guard = some (g, want) → waitsFor ops j g = true
  once : ∀ (i j : Nat) (a b : Oper) (d : Tmp), ops[i]? = some a → ops[j]? = some b → i ≠ j → a.dst = some d → b.dst ≠ some d
  reads : ∀ (i j : Nat) (a b : Oper) (d : Tmp), ops[i]? = some a → ops[j]? = some b → i ≠ j → a.dst = some d → d ∈ opTmps b → waitsFor ops j i = true
  chain : ∀ (i j : Nat) (a b : Oper), ops[i]? = some a → ops[j]? = some b → i < j → acts P a = true → acts P b = true → i ∉ fls → j ∉ fls → waitsFor ops j i = true
theorem drawOk_spec {fls : List Nat} {ops : List Oper} (h : drawOk P fls ops = true) : DrawOk P fls ops := by
  have lt : ∀ {j : Nat} {b : Oper}, ops[j]? = some b → j < ops.length := fun {j b} e => (List.getElem?_eq_some_iff.1 e).1
  have row : ∀ (j : Nat) (b : Oper), ops[j]? = some b → _ := fun j b hb => by
    have h1 := List.all_eq_true.1 h j (List.mem_range.2 (lt hb))
    rw [hb] at h1
    simp only [Bool.and_eq_true] at h1
    exact h1
  have pair : ∀ (i j : Nat) (a b : Oper), ops[i]? = some a → ops[j]? = some b → i ≠ j → _ := fun i j a b ha hb hne => by
    have h1 := List.all_eq_true.1 (row j b hb).2 i (List.mem_range.2 (lt ha))
    rw [ha] at h1
    simp only [Bool.or_eq_true, Bool.and_eq_true] at h1
    exact h1.resolve_left (fun q => hne (Nat.eq_of_beq_eq_true q))
  refine ⟨fun j b hb e he hbd => ?_, fun j b g want hb hg => ?_, fun i j a b d ha hb hne hd => ?_, fun i j a b d ha hb hne hd hm => ?_, fun i j a b ha hb hlt h1 h2 h3 h4 => ?_⟩
  · have := List.all_eq_true.1 (row j b hb).1.1 e he
    rw [hbd] at this
    simp only [Bool.not_true, Bool.false_or] at this
    exact Nat.le_of_ble_eq_true this
  · have := (row j b hb).1.2
    rw [hg] at this
    exact this
  · have := (pair i j a b ha hb hne).1
    rw [hd] at this
    simp only [Bool.and_eq_true, Bool.not_eq_true'] at this
    intro e
    rw [e] at this
    simp at this
  · have := (pair i j a b ha hb hne).1
    rw [hd] at this
    simp only [Bool.and_eq_true, Bool.or_eq_true, Bool.not_eq_true'] at this
    rcases this.2 with q | q
    · rw [List.contains_iff_mem.2 hm] at q; cases q
    · exact q
  · have := (pair i j a b ha hb (Nat.ne_of_lt hlt)).2
    have e3 : fls.contains i = false := by cases q : fls.contains i with | false => rfl | true => exact absurd (List.contains_iff_mem.1 q) h3
    have e4 : fls.contains j = false := by cases q : fls.contains j with | false => rfl | true => exact absurd (List.contains_iff_mem.1 q) h4
    simp only [Bool.not_eq_true', h1, h2, e3, e4, Bool.not_false, Bool.true_and] at this
    rcases this with q | q
    · rw [show i.blt j = true from Nat.ble_eq_true_of_le hlt] at q; cases q
    · exact q

def Closed (ops : List Oper) (L : Nat → Bool) : Prop := ∀ (j : Nat) (b : Oper), ops[j]? = some b → L j = true → ∀ e ∈ b.after.toList, Region.binds .any e = true → L e.on = true
theorem waits_listed {fls : List Nat} {ops : List Oper} {L : Nat → Bool} (hd : DrawOk P fls ops) (hc : Closed ops L) : ∀ (j i : Nat), waitsFor ops j i = true → (∀ b, ops[j]? = some b → ∀ e ∈ b.after.toList, Region.binds .any e = true → L e.on = true) → L i = true := by
  intro j
  induction j using Nat.strongRecOn with
  | _ j ih =>
    intro i h hp
    obtain ⟨b, hb, e, he, hbd, h1⟩ := waitsFor_spec h
    have hl := hp b hb e he hbd
    rcases h1 with rfl | h1
    · exact hl
    · exact ih e.on (hd.back j b hb e he hbd) i h1 (fun b' hb' e' he' hbd' => hc e.on b' hb' hl e' he' hbd')
theorem waits_lt {fls : List Nat} {ops : List Oper} (hd : DrawOk P fls ops) : ∀ (j i : Nat), waitsFor ops j i = true → i < j := by
  intro j
  induction j using Nat.strongRecOn with
  | _ j ih =>
    intro i h
    obtain ⟨b, hb, e, he, hbd, h1⟩ := waitsFor_spec h
    have hlt := hd.back j b hb e he hbd
    rcases h1 with rfl | h1
    · exact hlt
    · exact Nat.lt_trans (ih e.on hlt i h1) hlt

/-! The run in the order of the text. -/
theorem runTr_of {call : CallF} {ops : List Oper} : ∀ (l : List Oper) (fr : AFr) (σ : AHeap) (r : AFr × AHeap), runOps P call ops l fr σ = some r → ∃ tr, runTr P call ops l fr σ = some (tr, r)
  | [], fr, σ, r, h => by simp only [runOps, Option.some.injEq] at h; subst h; exact ⟨[], rfl⟩
  | o :: l, fr, σ, r, h => by
    rw [runOps] at h
    rw [runTr]
    split at h
    · rename_i hw
      obtain ⟨tr, ht⟩ := runTr_of l _ _ r h
      rw [ht]
      exact ⟨_, rfl⟩
    · rename_i hw
      split at h
      · cases h
      · rename_i v σ2 ha
        obtain ⟨tr, ht⟩ := runTr_of l _ _ r h
        rw [ht]
        exact ⟨_, rfl⟩
def trF (tr : List (AFr × AHeap × Value)) (fin : AFr) (i : Nat) : AFr := match tr[i]? with | some (f, _, _) => f | none => fin
def trS (tr : List (AFr × AHeap × Value)) (fin : AHeap) (i : Nat) : AHeap := match tr[i]? with | some (_, s, _) => s | none => fin
def trV (tr : List (AFr × AHeap × Value)) (i : Nat) : Value := match tr[i]? with | some (_, _, v) => v | none => undef
structure Run (P : Program) (call : CallF) (ops l : List Oper) (fr : AFr) (σ : AHeap) (tr : List (AFr × AHeap × Value)) (fr' : AFr) (σ' : AHeap) : Prop where
  len : tr.length = l.length
  f0 : trF tr fr' 0 = fr
  s0 : trS tr σ' 0 = σ
  step : ∀ i o, l[i]? = some o → trF tr fr' (i + 1) = (trF tr fr' i).put o.dst (trV tr i) ∧
    ((wanted' ops (trF tr fr' i) o = true ∧ aop P call o (trF tr fr' i) (trS tr σ' i) = some (trV tr i, trS tr σ' (i + 1))) ∨ (wanted' ops (trF tr fr' i) o = false ∧ trV tr i = undef ∧ trS tr σ' (i + 1) = trS tr σ' i))
theorem runTr_run {call : CallF} {ops : List Oper} : ∀ (l : List Oper) (fr : AFr) (σ : AHeap) (tr : List (AFr × AHeap × Value)) (fr' : AFr) (σ' : AHeap), runTr P call ops l fr σ = some (tr, fr', σ') → Run P call ops l fr σ tr fr' σ'
  | [], fr, σ, tr, fr', σ', h => by
    simp only [runTr, Option.some.injEq, Prod.mk.injEq] at h
    obtain ⟨rfl, rfl, rfl⟩ := h
    exact ⟨rfl, rfl, rfl, fun i o h => by simp at h⟩
  | o :: l, fr, σ, tr, fr', σ', h => by
    rw [runTr] at h
    have put : ∀ {v : Value} {s : AHeap} {t : List (AFr × AHeap × Value)}, Run P call ops l (fr.put o.dst v) s t fr' σ' → ((wanted' ops fr o = true ∧ aop P call o fr σ = some (v, s)) ∨ (wanted' ops fr o = false ∧ v = undef ∧ s = σ)) → tr = (fr, σ, v) :: t → Run P call ops (o :: l) fr σ tr fr' σ' := by
      intro v s t R hs e
      subst e
      refine ⟨by simp [R.len], rfl, rfl, fun i q hq => ?_⟩
      cases i with
      | zero =>
        simp at hq; subst hq
        have e1 : trF ((fr, σ, v) :: t) fr' 1 = trF t fr' 0 := rfl
        have e2 : trS ((fr, σ, v) :: t) σ' 1 = trS t σ' 0 := rfl
        rw [e1, e2, R.f0, R.s0]
        exact ⟨rfl, hs⟩
      | succ i => exact R.step i q (by simpa using hq)
    split at h
    · rename_i hw
      split at h
      · rename_i t r ht
        cases h
        exact put (runTr_run l _ _ _ _ _ ht) (.inr ⟨hw, rfl, rfl⟩) rfl
      · cases h
    · rename_i hw
      split at h
      · cases h
      · rename_i v s ha
        split at h
        · rename_i t r ht
          cases h
          exact put (runTr_run l _ _ _ _ _ ht) (.inl ⟨hw, ha⟩) rfl
        · cases h
end Go.AE
