/- Structs out of parts; slicing; the small rest of the operations that leave memory as it is. -/
import Derived.Test.YtongccpmdndcgaaGreatDoorEngG
namespace Go.AE
set_option linter.unusedVariables false
set_option linter.unusedSimpArgs false
variable {P : Program} {ρ : Ren} {σ : AHeap} {w : World}

theorem run_mapM_list {α β : Type} (f : α → Sem β) (g : α → β) : ∀ (l : List α), (∀ x ∈ l, (f x).run P w = .ok (g x) w) → (l.mapM f).run P w = .ok (l.map g) w
  | [], _ => by simp
  | x :: l, h => by
    rw [List.mapM_cons]
    simp only [Sem.run_bind, h x (by simp), Result.andThen_ok, run_mapM_list f g l (fun y hy => h y (by simp [hy])), Sem.run_pure, List.map_cons]
theorem run_mapM {α β : Type} (f : α → Sem β) (g : α → β) (l : Array α) (h : ∀ x ∈ l.toList, (f x).run P w = .ok (g x) w) : (l.mapM f).run P w = .ok (l.map g) w := by
  have h1 : (l.mapM f) = (fun r => r.toArray) <$> (l.toList.mapM f) := by
    rw [Array.mapM_eq_mapM_toList]
  rw [h1, Sem.run_map, run_mapM_list f g l.toList h, Result.andThen_ok]
  congr 1
  apply Array.ext'
  simp
theorem places_spec : ∀ (fs : List Field) (ps : List (Nat × Nat)), places P fs = some ps → (∀ f ∈ fs, ∃ n, sizeOf' P f.type = some n) ∧ ps = fs.map fun f => (f.offset, (sizeOf' P f.type).getD 0)
  | [], ps, h => by simp only [places, Option.some.injEq] at h; subst h; simp
  | f :: fs, ps, h => by
    rw [places] at h
    split at h
    · rename_i n qs hn hq
      cases h
      obtain ⟨h1, h2⟩ := places_spec fs qs hq
      refine ⟨fun g hg => ?_, by simp [hn, h2]⟩
      rcases List.mem_cons.1 hg with rfl | hg
      · exact ⟨n, hn⟩
      · exact h1 g hg
    · cases h
theorem build_out {t : TypeId} {parts : List (Nat × Value)} {parts' : Array (Nat × Value)} {v : Value} (h : build' P t parts = some v) (hR : Rel P ρ σ w)
    (hi : parts.map (·.1) = parts'.toList.map (·.1)) (hv : LR P ρ (parts.map (·.2)) (parts'.toList.map (·.2))) : OutV P ρ σ w v σ ((Instr.build t parts').run P w) := by
  unfold build' at h
  split at h
  · rename_i z fields hz hu
    split at h
    · rename_i ps hp
      cases hf : fill' (fun i => ps[i]?) z.cells.toList parts with
      | none => rw [hf] at h; simp at h
      | some r =>
        rw [hf] at h
        simp only [Option.map_some, Option.some.injEq] at h
        subst h
        obtain ⟨hall, hps⟩ := places_spec _ _ hp
        have hzz := (VR.of_plain (P := P) (ρ := ρ) (zeroOf_info hz).2).cells
        obtain ⟨r', hr', hlr⟩ := fill_sound parts parts'.toList _ _ r hf hzz hi hv
        refine .same hR (v' := .agg r') (VR.agg_iff (by simpa using hlr)) ?_
        have hm : (fields.mapM fun f => do pure (f.offset, ← sizeOf f.type) : Sem _).run P w = .ok (fields.map fun f => (f.offset, (sizeOf' P f.type).getD 0)) w :=
          run_mapM _ _ _ fun f hf => by obtain ⟨n, hn⟩ := hall f hf; simp [info_size hn, hn]
        have hpl : (fun (i : Nat) => (fields.map fun f => (f.offset, (sizeOf' P f.type).getD 0))[i]?) = fun (i : Nat) => ps[i]? := by
          funext i; rw [hps, List.getElem?_map, Array.getElem?_map]; simp
        simp only [Instr.build, Sem.run_bind, info_zero hz, Result.andThen_ok, run_under hu, hm]
        rw [hpl, hr']
        rfl
    · cases h
  · rename_i z len elem hz hu
    split at h
    · rename_i size hs
      cases hf : fill' (fun i => some (i * size, size)) z.cells.toList parts with
      | none => rw [hf] at h; simp at h
      | some r =>
        rw [hf] at h
        simp only [Option.map_some, Option.some.injEq] at h
        subst h
        have hzz := (VR.of_plain (P := P) (ρ := ρ) (zeroOf_info hz).2).cells
        obtain ⟨r', hr', hlr⟩ := fill_sound parts parts'.toList _ _ r hf hzz hi hv
        refine .same hR (v' := .agg r') (VR.agg_iff (by simpa using hlr)) ?_
        simp only [Instr.build, Sem.run_bind, info_zero hz, Result.andThen_ok, run_under hu, info_size hs]
        rw [hr']
        rfl
    · cases h
  · cases h

/-! Bounds. -/
structure OR (P : Program) (ρ : Ren) (o o' : Option Value) : Prop where
  none_ : o = none → o' = none
  some_ : ∀ v, o = some v → ∃ v', o' = some v' ∧ VR P ρ v v'
theorem run_sliceBound {k : IntKind} {n y : Nat} {c : BoundsCode} (h : n ≤ y) : (Instr.sliceBound (.int k (n : Int)) y c).run P w = .ok n w := by
  simp only [Instr.sliceBound, Sem.run_bind, run_asIntOf, Result.andThen_ok]
  rw [if_pos (by omega)]
  rfl
theorem bound_inv {v v' : Value} {y n : Nat} (h : ubound v y = some n) (hv : VR P ρ v v') : n ≤ y ∧ ∃ k, v' = .int k (n : Int) := by
  unfold ubound at h
  split at h
  · rename_i j hn
    split at h
    · rename_i hle
      cases h
      obtain ⟨rfl, k, hk⟩ := nat_inv hn hv
      exact ⟨Nat.le_of_ble_eq_true hle, k, hk⟩
    · cases h
  · cases h
theorem lowB_inv {low low' : Option Value} {l hh m a b : Nat} (h : lowB low a b = some (l, hh, m)) (hl : OR P ρ low low') : hh = a ∧ m = b ∧ l ≤ hh ∧ ((low' = none ∧ l = 0) ∨ ∃ k, low' = some (.int k (l : Int))) := by
  unfold lowB at h
  split at h
  · cases h; exact ⟨rfl, rfl, Nat.zero_le _, .inl ⟨hl.none_ rfl, rfl⟩⟩
  · rename_i v
    split at h
    · rename_i n hb
      cases h
      obtain ⟨v', rfl, hr⟩ := hl.some_ v rfl
      obtain ⟨hle, k, rfl⟩ := bound_inv hb hr
      exact ⟨rfl, rfl, hle, .inr ⟨k, rfl⟩⟩
    · cases h
theorem bounds_sound {isSlice : Bool} {len cap cap' l hh m : Nat} {low high max low' high' max' : Option Value} (h : bounds len cap low high max = some (l, hh, m)) (hlen : len ≤ cap) (hc : cap ≤ cap')
    (hl : OR P ρ low low') (hhi : OR P ρ high high') (hm : OR P ρ max max') : l ≤ hh ∧ hh ≤ m ∧ m ≤ cap ∧ (max = none → m = cap) ∧
      (Instr.sliceBounds isSlice len cap' low' high' max').run P w = .ok (l, hh, if max.isNone then cap' else m) w := by
  unfold bounds at h
  split at h
  · rw [hm.none_ rfl, hhi.none_ rfl]
    obtain ⟨rfl, rfl, hle, hlow⟩ := lowB_inv h hl
    refine ⟨hle, hlen, Nat.le_refl _, fun _ => rfl, ?_⟩
    rcases hlow with ⟨rfl, rfl⟩ | ⟨k, rfl⟩
    · simp [Instr.sliceBounds]
    · simp [Instr.sliceBounds, run_sliceBound hle]
  · rename_i v
    rw [hm.none_ rfl]
    obtain ⟨v', rfl, hr⟩ := hhi.some_ v rfl
    split at h
    · rename_i n hb
      obtain ⟨hn, k, rfl⟩ := bound_inv hb hr
      obtain ⟨rfl, rfl, hle, hlow⟩ := lowB_inv h hl
      refine ⟨hle, hn, Nat.le_refl _, fun _ => rfl, ?_⟩
      rcases hlow with ⟨rfl, rfl⟩ | ⟨k, rfl⟩
      · simp [Instr.sliceBounds, run_sliceBound (Nat.le_trans hn hc)]
      · simp [Instr.sliceBounds, run_sliceBound (Nat.le_trans hn hc), run_sliceBound hle]
    · cases h
  · rename_i u v
    obtain ⟨u', rfl, hur⟩ := hm.some_ u rfl
    obtain ⟨v', rfl, hr⟩ := hhi.some_ v rfl
    split at h
    · rename_i mx hu
      obtain ⟨hmx, ku, rfl⟩ := bound_inv hu hur
      split at h
      · rename_i n hb
        obtain ⟨hn, k, rfl⟩ := bound_inv hb hr
        obtain ⟨rfl, rfl, hle, hlow⟩ := lowB_inv h hl
        refine ⟨hle, hn, hmx, fun e => by simp at e, ?_⟩
        rcases hlow with ⟨rfl, rfl⟩ | ⟨k, rfl⟩
        · simp [Instr.sliceBounds, run_sliceBound (Nat.le_trans hmx hc), run_sliceBound hn]
        · simp [Instr.sliceBounds, run_sliceBound (Nat.le_trans hmx hc), run_sliceBound hn, run_sliceBound hle]
      · cases h
    · cases h
  · cases h
end Go.AE
