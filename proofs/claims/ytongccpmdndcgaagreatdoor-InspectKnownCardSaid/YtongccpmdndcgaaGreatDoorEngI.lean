/- Slicing. -/
import Derived.Test.YtongccpmdndcgaaGreatDoorEngH
namespace Go.AE
set_option linter.unusedVariables false
set_option linter.unusedSimpArgs false
variable {P : Program} {ρ : Ren} {σ : AHeap} {w : World}

theorem extract_mk (s : ByteArray) (l h : Nat) : s.extract l h = ⟨((s.data.toList.take h).drop l).toArray⟩ := by
  have : (s.extract l h).data = ((s.data.toList.take h).drop l).toArray := by
    rw [ByteArray.data_extract]
    apply Array.ext'
    simp only [Array.toList_extract, List.extract_eq_take_drop]
    rw [← List.drop_take]
  cases hs : s.extract l h with
  | mk d => rw [hs] at this; simp only at this; rw [this]
theorem sliceArr_sound {size l h m : Nat} {b o : Nat} {g : Img} (hg : ρ b = some g) (h1 : l ≤ h) (h2 : h ≤ m) :
    VR P ρ (sliceArr size l h m ⟨b, o, none⟩) (.slice (some (if m = l then ⟨g.blk, o + g.shift, none⟩ else (⟨g.blk, o + g.shift, none⟩ : Addr).add (l * size))) (h - l) (m - l)) := by
  unfold sliceArr
  by_cases e : m = l
  · subst e
    rw [if_pos rfl, show m.beq m = true from Nat.beq_refl m, show h - m = 0 by omega, show m - m = 0 by omega]
    exact .empty rfl
  · rw [if_neg e, show m.beq l = false by rw [beq_tf]; simp [e], addr_add, addr_add]
    have := VR.slice (P := P) (s := 0) (o := o + l * size) (n := h - l) (c := m - l) (c' := m - l) hg (by omega) (Nat.le_refl _) (.inl rfl)
    rw [show o + l * size + g.shift = o + g.shift + l * size by omega] at this
    exact this
theorem OR.isNone {o o' : Option Value} (h : OR P ρ o o') : o'.isNone = o.isNone := by
  cases o with
  | none => rw [h.none_ rfl]
  | some v => obtain ⟨v', rfl, _⟩ := h.some_ v rfl; rfl
theorem sliceRow_sound (hR : Rel P ρ σ w) {elem e : TypeId} {size len cap l h m n : Nat} {c : Tr Value} {gr ro : Bool} {a : Addr} {x' : Value} {max : Option Value} (hsz : sizeOf' P elem = some size)
    (hx : VR P ρ (.slice (some a) len cap) x') (hsp : a.spot = none) (hg : σ.get a.block = some (.cells n c e gr ro)) (he : gr = true → e = elem) (h1 : l ≤ h) (h2 : h ≤ m) (h3 : m ≤ cap) (h4 : max = none → m = cap) :
    ∃ a' cap', x' = .slice (some a') len cap' ∧ cap ≤ cap' ∧ VR P ρ (sliceRow size l h m max.isSome gr a) (.slice (if (if max.isNone then cap' else m) = l then some a' else (some a').map (·.add (l * size))) (h - l) ((if max.isNone then cap' else m) - l)) := by
  obtain ⟨im, him, hel, hgr, _⟩ := hR.obj _ _ hg
  obtain ⟨b, o, sp⟩ := a
  simp only at hsp him; subst hsp
  rcases hx.slice_inv with ⟨m2, c', s, _, hm2, hn, hc, hz, rfl⟩ | ⟨m2, a', _, hm2, hg2, rfl, rfl, rfl⟩ | ⟨k, a', hk, _⟩
  · simp only at hm2 hz ⊢
    rw [him] at hm2; cases hm2
    refine ⟨_, c', rfl, hc, ?_⟩
    have hsame : gr = true → ∀ s', sizeOf' P im.elem = some s' → s' = size := fun hgt s' hs' => by
      rw [hel, he hgt, hsz] at hs'; cases hs'; rfl
    unfold sliceRow
    by_cases e : m = l
    · subst e
      have eh : h - m = 0 := by omega
      rw [show m.beq m = true from Nat.beq_refl m, eh]
      cases max with
      | some u =>
        simp only [Option.isSome_some, Bool.true_or, Option.isNone_some, Bool.false_eq_true, if_false, if_true, Nat.sub_self]
        exact .empty rfl
      | none =>
        have hmc := h4 rfl
        simp only [Option.isSome_none, Bool.false_or, Option.isNone_none, if_true]
        cases hgv : gr with
        | false =>
          have hcc : cap = c' := by
            rcases hz with hz | ⟨hz, _⟩
            · exact hz
            · rw [hgr, hgv] at hz; cases hz
          simp only [Bool.not_false]
          rw [if_pos (by omega), show c' - m = 0 by omega]
          exact .empty rfl
        | true =>
          simp only [Bool.not_true]
          by_cases ec : c' = m
          · rw [if_pos ec, show c' - m = 0 by omega, addr_add]
            exact .tail him (by rw [hgr, hgv])
          · rw [if_neg ec]
            simp only [Option.map_some, addr_add]
            obtain ⟨_, hs', hb⟩ := hz.resolve_left (by omega)
            have es := hsame hgv s hs'
            subst es
            have hmul : c' * s = m * s + (c' - m) * s := by rw [← Nat.add_mul]; congr 1; omega
            have := VR.slice (P := P) (s := s) (o := o + m * s) (n := 0) (c := 0) (c' := c' - m) him (Nat.le_refl _) (Nat.zero_le _) (.inr ⟨by rw [hgr, hgv], hs', by omega⟩)
            rw [show o + m * s + im.shift = o + im.shift + m * s by omega] at this
            exact this
    · rw [show m.beq l = false by rw [beq_tf]; simp [e], addr_add]
      cases max with
      | some u =>
        simp only [Option.isNone_some, Bool.false_eq_true, if_false]
        rw [if_neg e]
        simp only [Option.map_some, addr_add]
        have := VR.slice (P := P) (s := 0) (o := o + l * size) (n := h - l) (c := m - l) (c' := m - l) him (by omega) (Nat.le_refl _) (.inl rfl)
        rw [show o + l * size + im.shift = o + im.shift + l * size by omega] at this
        exact this
      | none =>
        have hmc := h4 rfl
        simp only [Option.isNone_none, if_true]
        rw [if_neg (by omega)]
        simp only [Option.map_some, addr_add]
        have hz' : m - l = c' - l ∨ (im.grown = true ∧ sizeOf' P im.elem = some s ∧ o + l * size + im.shift + (c' - l) * s ≤ im.rows) := by
          rcases hz with hz | ⟨hg3, hs', hb⟩
          · exact .inl (by omega)
          · right
            have es := hsame (by rw [← hgr]; exact hg3) s hs'
            subst es
            have hmul : c' * s = l * s + (c' - l) * s := by rw [← Nat.add_mul]; congr 1; omega
            exact ⟨hg3, hs', by omega⟩
        have := VR.slice (P := P) (s := s) (o := o + l * size) (n := h - l) (c := m - l) (c' := c' - l) him (by omega) (by omega) hz'
        rw [show o + l * size + im.shift = o + im.shift + l * size by omega] at this
        exact this
  · simp only at hm2
    rw [him] at hm2; cases hm2
    refine ⟨a', 0, rfl, Nat.le_refl _, ?_⟩
    obtain rfl : m = 0 := by omega
    obtain rfl : h = 0 := by omega
    obtain rfl : l = 0 := by omega
    have hgt : gr = true := by rw [← hgr]; exact hg2
    unfold sliceRow
    rw [show Nat.beq 0 0 = true from rfl]
    cases max with
    | some u => simp only [Option.isSome_some, Bool.true_or, Option.isNone_some, Bool.false_eq_true, if_false, if_true, Nat.sub_self]; exact .empty rfl
    | none => rw [hgt]; simp only [Option.isSome_none, Bool.false_or, Option.isNone_none, if_true, Bool.not_true, Nat.sub_self]; rw [addr_add]; exact .tail him hg2
  · simp at hk
theorem sliceOp_out {t : TypeId} {x x' v : Value} {low high max low' high' max' : Option Value} (h : sliceOp P t x low high max σ = some v) (hR : Rel P ρ σ w) (hx : VR P ρ x x')
    (hl : OR P ρ low low') (hh : OR P ρ high high') (hm : OR P ρ max max') : OutV P ρ σ w v σ ((Instr.sliceAt t x' low' high' max').run P w) := by
  unfold sliceOp at h
  split at h
  · rename_i hu
    split at h
    · rename_i s
      rw [hx.string_inv, hm.none_ rfl]
      split at h
      · rename_i l hi mm hb
        cases h
        obtain ⟨_, _, _, _, hrun⟩ := bounds_sound (w := w) (isSlice := false) hb (Nat.le_refl _) (Nat.le_refl _) hl hh hm
        rw [hm.none_ rfl] at hrun
        refine .same hR (v' := _) (.atom rfl) ?_
        simp only [Instr.sliceAt, Sem.run_bind, run_under hu, Result.andThen_ok, Instr.slice]
        simp [hrun, extract_mk]
      · cases h
    · cases h
  · rename_i elem hu
    split at h
    · rename_i a len cap size hs
      split at h
      · rename_i l hi mm hle hb
        have hle := Nat.le_of_ble_eq_true hle
        split at h
        · cases h
          rw [hx.atom_inv rfl]
          obtain ⟨_, _, _, hmn, hrun⟩ := bounds_sound (w := w) (isSlice := true) hb hle (Nat.le_refl _) hl hh hm
          refine .same hR (v' := .slice none (hi - l) (mm - l)) (.atom rfl) ?_
          simp only [Instr.sliceAt, Sem.run_bind, run_under hu, Result.andThen_ok, Instr.slice, hrun, info_size hs, Sem.run_pure]
          cases max with
          | none => rw [hmn rfl]; simp
          | some u => simp
        · rename_i a
          split at h
          · rename_i k hk
            cases h
            rcases hx.slice_inv with ⟨_, _, _, hn, _⟩ | ⟨_, _, hn, _⟩ | ⟨k', a', _, rfl, rfl, rfl⟩
            · rw [hk] at hn; cases hn
            · rw [hk] at hn; cases hn
            · obtain ⟨h1, h2, h3, h4, hrun⟩ := bounds_sound (w := w) (isSlice := true) hb hle (Nat.le_refl _) hl hh hm
              refine .same hR (v' := .slice (some a') 0 0) (.empty rfl) ?_
              simp only [Instr.sliceAt, Sem.run_bind, run_under hu, Result.andThen_ok, Instr.slice, hrun, info_size hs, Sem.run_pure]
              obtain rfl : mm = 0 := by omega
              obtain rfl : hi = 0 := by omega
              obtain rfl : l = 0 := by omega
              simp
          · rename_i hsp
            split at h
            · rename_i n c e g ro hg
              split at h
              · rename_i hc
                cases h
                have hcap : ∃ cap', cap ≤ cap' ∧ ∃ a', x' = .slice (some a') len cap' := by
                  rcases hx.slice_inv with ⟨m2, c', s, _, _, _, hc, _, rfl⟩ | ⟨m2, a', _, _, _, rfl, rfl, rfl⟩ | ⟨k, a', hk, _⟩
                  · exact ⟨c', hc, _, rfl⟩
                  · exact ⟨0, Nat.le_refl _, _, rfl⟩
                  · rw [hsp] at hk; cases hk
                obtain ⟨cap', hcc, a', rfl⟩ := hcap
                obtain ⟨h1, h2, h3, h4, hrun⟩ := bounds_sound (w := w) (isSlice := true) hb hle hcc hl hh hm
                obtain ⟨a2, cap2, e2, _, hv⟩ := sliceRow_sound (max := max) hR hs hx hsp hg (fun hgt => by rw [hgt] at hc; simp at hc; exact hc) h1 h2 h3 h4
                cases e2
                refine .same hR hv ?_
                simp only [Instr.sliceAt, Sem.run_bind, run_under hu, Result.andThen_ok, Instr.slice, hrun, info_size hs, Sem.run_pure]
              · cases h
            · cases h
      · cases h
    · cases h
  · rename_i n elem hu
    split at h
    · rename_i a size hs
      split at h
      · rename_i l hi mm hb
        cases h
        obtain ⟨m2, hm2, hsp, rfl⟩ := hx.ptr_inv
        obtain ⟨b, o, sp⟩ := a
        simp only at hm2 hsp; subst hsp
        obtain ⟨h1, h2, h3, h4, hrun⟩ := bounds_sound (w := w) (isSlice := false) hb (Nat.le_refl _) (Nat.le_refl _) hl hh hm
        have hmm : (if max.isNone then n else mm) = mm := by cases max with | none => rw [h4 rfl]; rfl | some u => rfl
        rw [hmm] at hrun
        refine .same hR (sliceArr_sound hm2 h1 h2) ?_
        simp only [Instr.sliceAt, Sem.run_bind, run_under hu, Result.andThen_ok, Instr.sureAddr, Sem.run_pure, hrun, info_size hs]
      · cases h
    · cases h
  · rename_i arr hu
    split at h
    · rename_i n elem hu2
      split at h
      · rename_i a size hs
        split at h
        · rename_i l hi mm hb
          cases h
          obtain ⟨m2, hm2, hsp, rfl⟩ := hx.ptr_inv
          obtain ⟨b, o, sp⟩ := a
          simp only at hm2 hsp; subst hsp
          obtain ⟨h1, h2, h3, h4, hrun⟩ := bounds_sound (w := w) (isSlice := false) hb (Nat.le_refl _) (Nat.le_refl _) hl hh hm
          have hmm : (if max.isNone then n else mm) = mm := by cases max with | none => rw [h4 rfl]; rfl | some u => rfl
          rw [hmm] at hrun
          refine .same hR (sliceArr_sound hm2 h1 h2) ?_
          simp only [Instr.sliceAt, Sem.run_bind, run_under hu, Result.andThen_ok, Instr.slice, asAddr, Sem.run_pure, run_under hu2, hrun, info_size hs]
        · cases h
      · cases h
    · cases h
  · cases h
end Go.AE
