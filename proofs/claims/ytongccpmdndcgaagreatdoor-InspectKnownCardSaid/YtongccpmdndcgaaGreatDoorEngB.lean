/- The evaluator's tries and heaps: plain laws. -/
import Derived.Test.YtongccpmdndcgaaGreatDoorEngA
import Derived.Laws.Cells
import Derived.Laws.IdiomCopy
namespace Go.AE
set_option linter.unusedVariables false
set_option linter.unusedSimpArgs false

theorem beq_tf (a b : Nat) : a.beq b = decide (a = b) := by
  by_cases h : a = b
  · subst h; simp [Nat.beq_refl]
  · rw [decide_eq_false h]; exact Bool.eq_false_iff.2 fun e => h (Nat.eq_of_beq_eq_true e)

theorem Tr.get_node {α : Type} (l r : Tr α) (v : Option α) (n : Nat) : (Tr.node l v r).get n = if n = 0 then v else if n % 2 = 1 then l.get (n / 2) else r.get (n / 2 - 1) := by
  rw [Tr.get]
  by_cases h0 : n = 0
  · simp [beq_tf, h0]
  · by_cases h1 : n % 2 = 1 <;> simp [beq_tf, h0, h1]
@[simp] theorem Tr.get_leaf {α : Type} (n : Nat) : (Tr.leaf : Tr α).get n = none := rfl
theorem Tr.putF_leaf {α : Type} (k n : Nat) (x : Option α) : Tr.putF (k + 1) .leaf n x = if n = 0 then .node .leaf x .leaf else if n % 2 = 1 then .node (Tr.putF k .leaf (n / 2) x) none .leaf else .node .leaf none (Tr.putF k .leaf (n / 2 - 1) x) := by
  rw [Tr.putF]
  by_cases h0 : n = 0
  · simp [beq_tf, h0]
  · by_cases h1 : n % 2 = 1 <;> simp [beq_tf, h0, h1]
theorem Tr.putF_node {α : Type} (l r : Tr α) (v : Option α) (k n : Nat) (x : Option α) : Tr.putF (k + 1) (.node l v r) n x = if n = 0 then .node l x r else if n % 2 = 1 then .node (Tr.putF k l (n / 2) x) v r else .node l v (Tr.putF k r (n / 2 - 1) x) := by
  rw [Tr.putF]
  by_cases h0 : n = 0
  · simp [beq_tf, h0]
  · by_cases h1 : n % 2 = 1 <;> simp [beq_tf, h0, h1]
theorem Tr.get_putF {α : Type} (x : Option α) : ∀ (k : Nat) (t : Tr α) (n m : Nat), n < k → (Tr.putF k t n x).get m = if m = n then x else t.get m
  | 0, _, _, _, h => by omega
  | k + 1, .leaf, n, m, h => by
    rw [Tr.putF_leaf]
    by_cases h0 : n = 0
    · rw [if_pos h0, Tr.get_node]; subst h0; by_cases hm : m = 0 <;> simp [hm]
    · rw [if_neg h0]
      by_cases h1 : n % 2 = 1
      · rw [if_pos h1, Tr.get_node, Tr.get_putF x k .leaf (n / 2) (m / 2) (by omega)]
        by_cases hm : m = n
        · subst hm; simp [h0, h1]
        · rw [if_neg hm]
          by_cases m0 : m = 0
          · simp [m0]
          · by_cases m1 : m % 2 = 1
            · rw [if_neg m0, if_pos m1, if_neg (by omega)]; rfl
            · rw [if_neg m0, if_neg m1]; rfl
      · rw [if_neg h1, Tr.get_node, Tr.get_putF x k .leaf (n / 2 - 1) (m / 2 - 1) (by omega)]
        by_cases hm : m = n
        · subst hm; simp [h0, h1]
        · rw [if_neg hm]
          by_cases m0 : m = 0
          · simp [m0]
          · by_cases m1 : m % 2 = 1
            · rw [if_neg m0, if_pos m1]; rfl
            · rw [if_neg m0, if_neg m1, if_neg (by omega)]; rfl
  | k + 1, .node l v r, n, m, h => by
    rw [Tr.putF_node]
    by_cases h0 : n = 0
    · rw [if_pos h0, Tr.get_node, Tr.get_node]; subst h0; by_cases hm : m = 0 <;> simp [hm]
    · rw [if_neg h0]
      by_cases h1 : n % 2 = 1
      · rw [if_pos h1, Tr.get_node, Tr.get_putF x k l (n / 2) (m / 2) (by omega), Tr.get_node]
        by_cases hm : m = n
        · subst hm; simp [h0, h1]
        · rw [if_neg hm]
          by_cases m0 : m = 0
          · simp [m0]
          · by_cases m1 : m % 2 = 1
            · rw [if_neg m0, if_pos m1, if_neg (by omega), if_neg m0, if_pos m1]
            · rw [if_neg m0, if_neg m1, if_neg m0, if_neg m1]
      · rw [if_neg h1, Tr.get_node, Tr.get_putF x k r (n / 2 - 1) (m / 2 - 1) (by omega), Tr.get_node]
        by_cases hm : m = n
        · subst hm; simp [h0, h1]
        · rw [if_neg hm]
          by_cases m0 : m = 0
          · simp [m0]
          · by_cases m1 : m % 2 = 1
            · rw [if_neg m0, if_pos m1, if_neg m0, if_pos m1]
            · rw [if_neg m0, if_neg m1, if_neg (by omega), if_neg m0, if_neg m1]
theorem Tr.get_put {α : Type} (t : Tr α) (n m : Nat) (x : Option α) : (t.put n x).get m = if m = n then x else t.get m := Tr.get_putF x (n + 1) t n m (Nat.lt_succ_self n)
theorem Tr.get_ofList {α : Type} : ∀ (xs : List α) (n m : Nat) (t : Tr α), (Tr.ofList xs n t).get m = if n ≤ m ∧ m < n + xs.length then xs[m - n]? else t.get m
  | [], n, m, t => by rw [Tr.ofList, if_neg (by simp <;> omega)]
  | x :: xs, n, m, t => by
    rw [Tr.ofList, Tr.get_ofList xs (n + 1) m, Tr.get_put]
    by_cases h : m = n
    · subst h
      rw [if_neg (by omega), if_pos rfl, if_pos (by simp)]
      simp
    · rw [if_neg h]
      by_cases h2 : n + 1 ≤ m ∧ m < n + 1 + xs.length
      · rw [if_pos h2, if_pos (by simp; omega)]
        obtain ⟨k, hk⟩ : ∃ k, m - n = k + 1 := ⟨m - n - 1, by omega⟩
        rw [hk, show m - (n + 1) = k by omega]
        simp
      · rw [if_neg h2, if_neg (by simp; omega)]
theorem Tr.get_of {α : Type} (xs : List α) (m : Nat) : (Tr.ofList xs 0 .leaf).get m = xs[m]? := by
  rw [Tr.get_ofList]
  by_cases h : m < xs.length
  · rw [if_pos (by omega)]; simp
  · rw [if_neg (by omega), List.getElem?_eq_none (by omega)]; rfl

@[simp] theorem AHeap.get_set (σ : AHeap) (b b' : Nat) (o : AObj) : (σ.set b o).get b' = if b' = b then some o else σ.get b' := Tr.get_put _ _ _ _
@[simp] theorem AHeap.get_drop (σ : AHeap) (b b' : Nat) : (σ.drop b).get b' = if b' = b then none else σ.get b' := Tr.get_put _ _ _ _
theorem AHeap.get_new (σ : AHeap) (o : AObj) (b' : Nat) : (σ.new o).2.get b' = if b' = σ.next then some o else σ.get b' := Tr.get_put _ _ _ _
@[simp] theorem AHeap.next_set (σ : AHeap) (b : Nat) (o : AObj) : (σ.set b o).next = σ.next := rfl
@[simp] theorem AHeap.next_drop (σ : AHeap) (b : Nat) : (σ.drop b).next = σ.next := rfl
@[simp] theorem AHeap.next_new (σ : AHeap) (o : AObj) : (σ.new o).2.next = σ.next + 1 := rfl
@[simp] theorem AHeap.new_fst (σ : AHeap) (o : AObj) : (σ.new o).1 = σ.next := rfl

/-- Cells read one behind the other. -/
theorem ldN_spec (c : Tr Value) : ∀ (n off : Nat) (vs : List Value), ldN c off n = some vs → vs.length = n ∧ ∀ j v, vs[j]? = some v → c.get (off + j) = some v
  | 0, off, vs, h => by simp [ldN] at h; subst h; simp
  | n + 1, off, vs, h => by
    rw [ldN] at h
    cases hc : c.get off with
    | none => rw [hc] at h; simp at h
    | some v =>
      rw [hc] at h
      cases hr : ldN c (off + 1) n with
      | none => rw [hr] at h; simp at h
      | some r =>
        rw [hr] at h
        simp at h
        subst h
        obtain ⟨hl, hv⟩ := ldN_spec c n (off + 1) r hr
        refine ⟨by simp [hl], fun j u hj => ?_⟩
        cases j with
        | zero => simp at hj; subst hj; exact hc
        | succ j => simp at hj; have := hv j u hj; rwa [show off + (j + 1) = off + 1 + j by omega]
theorem stN_spec : ∀ (vs : List Value) (c : Tr Value) (off : Nat) (c' : Tr Value), stN c off vs = some c' →
    (∀ v ∈ vs, single v = true) ∧ (∀ j, j < vs.length → (c.get (off + j)).isSome) ∧ (∀ i, c'.get i = if off ≤ i ∧ i < off + vs.length then vs[i - off]? else c.get i)
  | [], c, off, c', h => by simp [stN] at h; subst h; simp; intro i h1 h2; omega
  | v :: vs, c, off, c', h => by
    rw [stN] at h
    cases hs : single v with
    | false => rw [hs] at h; simp at h
    | true =>
      rw [hs] at h
      cases hc : c.get off with
      | none => rw [hc] at h; simp at h
      | some u =>
        rw [hc] at h
        obtain ⟨h1, h2, h3⟩ := stN_spec vs _ _ _ h
        refine ⟨fun x hx => ?_, fun j hj => ?_, fun i => ?_⟩
        · rcases List.mem_cons.1 hx with rfl | hx
          · exact hs
          · exact h1 x hx
        · cases j with
          | zero => simp [hc]
          | succ j =>
            have := h2 j (by simpa using hj)
            rw [Tr.get_put] at this
            rw [show off + (j + 1) = off + 1 + j by omega]
            by_cases e : off + 1 + j = off
            · omega
            · rwa [if_neg e] at this
        · rw [h3 i, Tr.get_put]
          by_cases hi : off + 1 ≤ i ∧ i < off + 1 + vs.length
          · rw [if_pos hi, if_pos (by simp; omega)]
            obtain ⟨k, hk⟩ : ∃ k, i - off = k + 1 := ⟨i - off - 1, by omega⟩
            rw [hk, show i - (off + 1) = k by omega]
            simp
          · rw [if_neg hi]
            by_cases e : i = off
            · subst e; rw [if_pos rfl, if_pos (by simp)]; simp
            · rw [if_neg e, if_neg (by simp; omega)]
end Go.AE
