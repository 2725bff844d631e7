/- Making, loading, storing; conversions; lengths. -/
import Derived.Test.YtongccpmdndcgaaGreatDoorEngI
namespace Go.AE
set_option linter.unusedVariables false
set_option linter.unusedSimpArgs false
variable {P : Program} {ρ : Ren} {σ : AHeap} {w : World}

theorem typeAssert_out {x x' v : Value} {xt asserted : TypeId} {ok : Bool} (h : typeAssert' P x asserted ok = some v) (hR : Rel P ρ σ w) (hx : VR P ρ x x') : OutV P ρ σ w v σ ((Instr.typeAssert x' xt asserted ok).run P w) := by
  have hfail : ∀ (s d : Option TypeId) (m : String), (if ok then (zeroOf P asserted).map fun z => Value.tuple #[z, .bool false] else none) = some v →
      ∃ z, zeroOf P asserted = some z ∧ ok = true ∧ v = .tuple #[z, .bool false] := by
    intro _ _ _ e
    cases ok with
    | false => simp at e
    | true =>
      simp only [if_true] at e
      cases hz : zeroOf P asserted with
      | none => rw [hz] at e; simp at e
      | some z => rw [hz] at e; simp at e; exact ⟨z, rfl, rfl, e.symm⟩
  have hz2 : ∀ z, zeroOf P asserted = some z → VR P ρ (.tuple #[z, .bool false]) (.tuple #[z, .bool false]) := fun z hz =>
    VR.tuple_iff (.cons (VR.of_plain (zeroOf_info hz).2) (.cons (.atom rfl) .nil))
  have hold : ∀ u u', VR P ρ u u' → VR P ρ (if ok then .tuple #[u, .bool true] else u) (if ok then .tuple #[u', .bool true] else u') := fun u u' hu => by
    cases ok with
    | true => exact VR.tuple_iff (.cons hu (.cons (.atom rfl) .nil))
    | false => exact hu
  unfold typeAssert' at h
  dsimp only at h
  split at h
  · rename_i ms hu
    rw [hx.atom_inv rfl]
    obtain ⟨z, hz, rfl, rfl⟩ := hfail none none "" h
    exact .same hR (hz2 z hz) (by simp [Instr.typeAssert, run_under hu, info_zero hz])
  · rename_i want t u hu
    obtain ⟨u', rfl, hv⟩ := hx.iface_inv
    split at h
    · rename_i i hi
      split at h
      · rename_i hmm
        cases h
        exact .same hR (hold _ _ hx) (by simp [Instr.typeAssert, run_under hu, typeInfo, hi, hmm])
      · rename_i m hmm
        obtain ⟨z, hz, rfl, rfl⟩ := hfail none none "" h
        exact .same hR (hz2 z hz) (by simp [Instr.typeAssert, run_under hu, typeInfo, hi, hmm, info_zero hz])
    · cases h
  · rename_i d hni hu
    rw [hx.atom_inv rfl]
    obtain ⟨z, hz, rfl, rfl⟩ := hfail none none "" h
    refine .same hR (hz2 z hz) ?_
    cases d <;> first | (exact absurd rfl (hni _)) | simp [Instr.typeAssert, run_under hu, info_zero hz]
  · rename_i d t u hni hu
    obtain ⟨u', rfl, hv⟩ := hx.iface_inv
    split at h
    · rename_i ht
      cases h
      refine .same hR (hold _ _ hv) ?_
      cases d <;> first | (exact absurd rfl (hni _)) | simp [Instr.typeAssert, run_under hu, ht]
    · rename_i ht
      obtain ⟨z, hz, rfl, rfl⟩ := hfail none none "" h
      refine .same hR (hz2 z hz) ?_
      cases d <;> first | (exact absurd rfl (hni _)) | simp [Instr.typeAssert, run_under hu, ht, info_zero hz]
  · cases h
theorem makeInterface_out {x x' : Value} {t : TypeId} {d : TypeDesc} (hu : P.underlying t = some d) (hd : ∀ ms, d ≠ .interface ms) (hR : Rel P ρ σ w) (hx : VR P ρ x x') : OutV P ρ σ w (.iface t x) σ ((Instr.makeInterface t x').run P w) := by
  refine .same hR (.iface hx) ?_
  cases d <;> first | (exact absurd rfl (hd _)) | simp [Instr.makeInterface, run_under hu]
theorem extract_out {x x' v : Value} {i : Nat} {vs : Array Value} (hx0 : x = .tuple vs) (h : vs[i]? = some v) (hR : Rel P ρ σ w) (hx : VR P ρ x x') : OutV P ρ σ w v σ ((Instr.extract x' i).run P w) := by
  subst hx0
  obtain ⟨vs', rfl, hl⟩ := hx.tuple_inv
  obtain ⟨v', hv', hr⟩ := hl.get (i := i) (v := v) (by simpa using h)
  exact .same hR hr (by simp only [Instr.extract]; rw [show vs'[i]? = some v' by simpa using hv']; rfl)

/-! Making. -/
theorem run_newRow (e : TypeId) (cs : Array Value) : (newRow e cs).run P w = .ok ⟨w.heap.size, 0, none⟩ (w.alloc (.cells cs e)) := by
  simp [newRow]
theorem new_out (hR : Rel P ρ σ w) (e : TypeId) {vs : List Value} {cs : Array Value} (hl : LR P ρ vs cs.toList) (g : Bool) :
    ∃ ρ', VR P ρ' (ptr (newCells σ e vs g).1 0) (.pointer (some ⟨w.heap.size, 0, none⟩)) ∧ Rel P ρ' (newCells σ e vs g).2 (w.alloc (.cells cs e)) ∧ Ext ρ σ w ρ' (newCells σ e vs g).2 (w.alloc (.cells cs e)) ∧
      ρ' (newCells σ e vs g).1 = some ⟨w.heap.size, 0, e, cs.size, g⟩ := by
  obtain ⟨h1, h2⟩ := hR.newCells e g hl [] (0, 0) (thaw_zero _)
  simp only [List.append_nil, Array.toArray_toList] at h1 h2
  exact ⟨_, .ptr' Ren.add_same rfl, h1, h2, by rw [show cs.size = cs.toList.length by simp]; exact Ren.add_same⟩
theorem alloc_out {e : TypeId} {z : Value} (hz : zeroOf P e = some z) (hR : Rel P ρ σ w) : OutV P ρ σ w (ptr (newCells σ e z.cells.toList).1 0) (newCells σ e z.cells.toList).2 ((Instr.alloc e true (.tuple #[])).run P w) := by
  obtain ⟨ρ', h1, h2, h3, _⟩ := new_out hR e (VR.of_plain (P := P) (ρ := ρ) (zeroOf_info hz).2).cells false
  exact ⟨ρ', _, _, by simp [Instr.alloc, info_zero hz, newVar, run_newRow], h1, h2, h3⟩
theorem box_out {e : TypeId} {x x' : Value} (hR : Rel P ρ σ w) (hx : VR P ρ x x') : OutV P ρ σ w (ptr (newCells σ e x.cells.toList).1 0) (newCells σ e x.cells.toList).2 ((Instr.box e x').run P w) := by
  obtain ⟨ρ', h1, h2, h3, _⟩ := new_out hR e hx.cells false
  exact ⟨ρ', _, _, by simp [Instr.box, newVar, run_newRow], h1, h2, h3⟩
theorem slice_new {b n c e : Nat} {g : Bool} {rows : Nat} {k : Nat} {ρ' : Ren} (h : ρ' b = some ⟨k, 0, e, rows, g⟩) (hn : n ≤ c) : VR P ρ' (.slice (some ⟨b, 0, none⟩) n c) (.slice (some ⟨k, 0, none⟩) n c) := by
  have := VR.slice (P := P) (s := 0) (o := 0) (n := n) (c := c) (c' := c) h hn (Nat.le_refl _) (.inl rfl)
  simpa using this
theorem zerosN_length (z : List Value) : ∀ n, (zerosN z n).length = n * z.length
  | 0 => by simp [zerosN]
  | n + 1 => by rw [zerosN, List.length_append, zerosN_length z n, Nat.add_mul]; omega
theorem zerosN_get (z : List Value) : ∀ (n i : Nat), i < n * z.length → (zerosN z n)[i]? = z[i % z.length]?
  | 0, i, h => by simp at h
  | n + 1, i, h => by
    rw [zerosN, List.getElem?_append]
    by_cases hi : i < z.length
    · rw [if_pos hi, Nat.mod_eq_of_lt hi]
    · have h' : i < n * z.length + z.length := by rw [Nat.add_mul, Nat.one_mul] at h; exact h
      rw [if_neg hi, zerosN_get z n (i - z.length) (by omega)]
      rw [← Nat.mod_eq_sub_mod (by omega)]
theorem zeros_map (z : Value) (n : Nat) : (zerosN z.cells.toList n) = ((Array.range (n * z.cells.size)).map fun i => z.cells[i % z.cells.size]!).toList := by
  apply List.ext_getElem?
  intro i
  by_cases h : i < n * z.cells.size
  · rw [zerosN_get _ _ _ (by simpa using h)]
    have hp : 0 < z.cells.size := by rcases Nat.eq_zero_or_pos z.cells.size with e | e; · rw [e] at h; simp at h
                                     · exact e
    have hm := Nat.mod_lt i hp
    simp only [Array.toList_map, Array.toList_range, List.getElem?_map, List.getElem?_range h, Option.map_some, Array.length_toList]
    rw [List.getElem?_eq_getElem (by simpa using hm)]
    simp [getElem!_pos, hm]
  · rw [List.getElem?_eq_none (by rw [zerosN_length]; simpa using h), List.getElem?_eq_none (by simpa using h)]
theorem zeros_LR {e : TypeId} {z : Value} (hz : zeroOf P e = some z) (n : Nat) : LR P ρ (zerosN z.cells.toList n) (zerosN z.cells.toList n) := by
  have h := (VR.of_plain (P := P) (ρ := ρ) (zeroOf_info hz).2).cells
  induction n with
  | zero => exact .nil
  | succ n ih => exact h.append ih
end Go.AE
