/- Every order of such a region. -/
import Derived.Test.YtongccpmdndcgaaGreatDoorEngZ
namespace Go.AE
set_option linter.unusedVariables false
set_option linter.unusedSimpArgs false
variable {P : Program}

theorem stepFl_cases {call : CallF} {ops : List Oper} {fls : List Nat} {base i : Nat} {o : Oper} {ps ps2 : List Fl} {fr : AFr} {σ σ2 : AHeap} {v : Value} (h : stepFl P call ops fls base o i ps fr σ = some (v, ps2, σ2)) :
    (wanted' ops fr o = false ∧ v = undef ∧ ps2 = ps ∧ σ2 = σ) ∨
    (wanted' ops fr o = true ∧ i ∈ fls ∧ ∃ e vs k, flOf P o fr = some (e, vs, k) ∧ v = flV (base + i) k ∧ ps2 = ⟨i, e, vs⟩ :: ps ∧ σ2 = σ) ∨
    (wanted' ops fr o = true ∧ i ∉ fls ∧ acts P o = true ∧ aop P call o fr (landAll base (ps.filter fun f => waitsFor ops i f.p) σ) = some (v, σ2) ∧ ps2 = ps.filter fun f => !waitsFor ops i f.p) ∨
    (wanted' ops fr o = true ∧ i ∉ fls ∧ acts P o = false ∧ aop P call o fr σ = some (v, σ) ∧ ps2 = ps ∧ σ2 = σ) := by
  unfold stepFl at h
  split at h
  · rename_i hw
    simp only [Option.some.injEq, Prod.mk.injEq] at h
    obtain ⟨rfl, rfl, rfl⟩ := h
    exact .inl ⟨hw, rfl, rfl, rfl⟩
  · rename_i hw
    split at h
    · rename_i hf
      split at h
      · rename_i e vs k hq
        simp only [Option.some.injEq, Prod.mk.injEq] at h
        obtain ⟨rfl, rfl, rfl⟩ := h
        exact .inr (.inl ⟨hw, List.contains_iff_mem.1 hf, e, vs, k, hq, rfl, rfl, rfl⟩)
      · cases h
    · rename_i hf
      have hf : i ∉ fls := fun q => by rw [List.contains_iff_mem.2 q] at hf; cases hf
      split at h
      · rename_i ha
        split at h
        · rename_i u s hq
          simp only [Option.some.injEq, Prod.mk.injEq] at h
          obtain ⟨rfl, rfl, rfl⟩ := h
          exact .inr (.inr (.inl ⟨hw, hf, ha, hq, rfl⟩))
        · cases h
      · rename_i ha
        split at h
        · rename_i u s hq
          simp only [Option.some.injEq, Prod.mk.injEq] at h
          obtain ⟨rfl, rfl, rfl⟩ := h
          have : s = σ := by
            unfold acts at ha
            cases hc : clsOf P o.op with
            | acts => rw [hc] at ha; cases ha
            | pure => exact (aop_pure hc hq).1
            | reads => exact aop_reads hc hq
          subst this
          exact .inr (.inr (.inr ⟨hw, hf, ha, hq, rfl, rfl⟩))
        · cases h

section
variable {call : CallF} {ops : List Oper} {fls : List Nat} {base : Nat} {fr fr' : AFr} {σ σ' : AHeap} {tr : List (AFr × AHeap × Value)} {pl : List (List Fl)} {pe : List Fl}
theorem RunF.at' (R : RunF P call ops fls base ops 0 [] fr σ tr pl pe fr' σ') {i : Nat} {o : Oper} (ho : ops[i]? = some o) : trF tr fr' (i + 1) = (trF tr fr' i).put o.dst (trV tr i) ∧ stepFl P call ops fls base o i (trP pl pe i) (trF tr fr' i) (trS tr σ' i) = some (trV tr i, trP pl pe (i + 1), trS tr σ' (i + 1)) := by
  have := R.step i o ho
  rwa [Nat.zero_add] at this
theorem RunF.same (R : RunF P call ops fls base ops 0 [] fr σ tr pl pe fr' σ') : ∀ (d k : Nat), k + d ≤ ops.length → (∀ j o, k ≤ j → j < k + d → ops[j]? = some o → acts P o = true → j ∈ fls) → trS tr σ' (k + d) = trS tr σ' k
  | 0, k, _, _ => rfl
  | d + 1, k, hle, hn => by
    obtain ⟨o, ho⟩ : ∃ o, ops[k + d]? = some o := ⟨ops[k + d]'(by omega), List.getElem?_eq_getElem (by omega)⟩
    have ih := R.same d k (by omega) (fun j o h1 h2 h3 => hn j o h1 (by omega) h3)
    rw [← ih, show k + (d + 1) = k + d + 1 by omega]
    rcases stepFl_cases (R.at' ho).2 with ⟨_, _, _, h⟩ | ⟨_, _, _, _, _, _, _, _, h⟩ | ⟨_, h1, h2, _⟩ | ⟨_, _, _, _, _, h⟩
    · exact h
    · exact h
    · exact absurd (hn (k + d) o (by omega) (by omega) ho h2) h1
    · exact h
theorem RunF.f_n (R : RunF P call ops fls base ops 0 [] fr σ tr pl pe fr' σ') : ∀ m, m ≤ ops.length → (trF tr fr' m).n = fr.n
  | 0, _ => by rw [R.f0]
  | m + 1, h => by
    obtain ⟨o, ho⟩ : ∃ o, ops[m]? = some o := ⟨ops[m]'(by omega), List.getElem?_eq_getElem (by omega)⟩
    rw [(R.at' ho).1, AFr.put_n, R.f_n m (by omega)]
theorem RunF.f_at (hd : DrawOk P fls ops) (R : RunF P call ops fls base ops 0 [] fr σ tr pl pe fr' σ') (t : Nat) : ∀ m, m ≤ ops.length →
    (∀ i o, i < m → ops[i]? = some o → o.dst = some t → (trF tr fr' m).at_ t = if t < fr.n then trV tr i else fr.at_ t) ∧ ((∀ i o, i < m → ops[i]? = some o → o.dst ≠ some t) → (trF tr fr' m).at_ t = fr.at_ t)
  | 0, _ => ⟨fun i o h => by omega, fun _ => by rw [R.f0]⟩
  | m + 1, h => by
    obtain ⟨o, ho⟩ : ∃ o, ops[m]? = some o := ⟨ops[m]'(by omega), List.getElem?_eq_getElem (by omega)⟩
    obtain ⟨h1, h2⟩ := R.f_at hd t m (by omega)
    rw [(R.at' ho).1]
    have hn := R.f_n m (by omega)
    refine ⟨fun i oi hi hoi hdi => ?_, fun hno => ?_⟩
    · rw [AFr.put_at, hn]
      by_cases e : i = m
      · subst e
        rw [ho] at hoi; cases hoi
        by_cases ht : t < fr.n
        · rw [if_pos ⟨hdi, ht⟩, if_pos ht]
        · rw [if_neg (fun q => ht q.2), if_neg ht]
          exact h2 fun j oj hj hoj hdj => hd.once i j o oj t ho hoj (by omega) hdi hdj
      · rw [if_neg (fun q => hd.once i m oi o t hoi ho e hdi q.1)]
        exact h1 i oi (by omega) hoi hdi
    · rw [AFr.put_at, if_neg (fun q => hno m o (by omega) ho q.1)]
      exact h2 fun j oj hj hoj => hno j oj (by omega) hoj
def Made (P : Program) (ops : List Oper) (fls : List Nat) (tr : List (AFr × AHeap × Value)) (fr' : AFr) (f : Fl) : Prop :=
  f.p ∈ fls ∧ ∃ o k, ops[f.p]? = some o ∧ wanted' ops (trF tr fr' f.p) o = true ∧ flOf P o (trF tr fr' f.p) = some (f.e, f.vs, k)
theorem RunF.pend (R : RunF P call ops fls base ops 0 [] fr σ tr pl pe fr' σ') : ∀ i, i ≤ ops.length → (∀ f ∈ trP pl pe i, f.p < i ∧ Made P ops fls tr fr' f) ∧ ((trP pl pe i).map (·.p)).Nodup
  | 0, _ => by rw [R.p0]; simp
  | i + 1, h => by
    obtain ⟨o, ho⟩ : ∃ o, ops[i]? = some o := ⟨ops[i]'(by omega), List.getElem?_eq_getElem (by omega)⟩
    obtain ⟨h1, h2⟩ := R.pend i (by omega)
    have up : ∀ f ∈ trP pl pe i, f.p < i + 1 ∧ Made P ops fls tr fr' f := fun f hf => ⟨by have := (h1 f hf).1; omega, (h1 f hf).2⟩
    rcases stepFl_cases (R.at' ho).2 with ⟨_, _, e, _⟩ | ⟨hw, hi, e1, vs, k, hq, _, e, _⟩ | ⟨_, _, _, _, e⟩ | ⟨_, _, _, _, e, _⟩
    · rw [e]; exact ⟨up, h2⟩
    · rw [e]
      refine ⟨fun f hf => ?_, ?_⟩
      · rcases List.mem_cons.1 hf with rfl | hf
        · exact ⟨Nat.lt_succ_self _, hi, o, k, ho, hw, hq⟩
        · exact up f hf
      · rw [List.map_cons, List.nodup_cons]
        refine ⟨fun hm => ?_, h2⟩
        obtain ⟨g, hg, e⟩ := List.mem_map.1 hm
        have := (h1 g hg).1
        simp only at e
        omega
    · rw [e]
      exact ⟨fun f hf => up f (List.mem_filter.1 hf).1, List.Nodup.sublist (List.Sublist.map _ List.filter_sublist) h2⟩
    · rw [e]; exact ⟨up, h2⟩
def AsideAt (pl : List (List Fl)) (pe : List Fl) (k : Nat) (f : Fl) : Prop := f ∈ trP pl pe k ∨ (k ≤ f.p ∧ f ∈ trP pl pe (f.p + 1))
theorem RunF.back (R : RunF P call ops fls base ops 0 [] fr σ tr pl pe fr' σ') (k : Nat) {f : Fl} : ∀ d, k + d ≤ ops.length → f ∈ trP pl pe (k + d) → AsideAt pl pe k f
  | 0, _, h => .inl h
  | d + 1, h, hf => by
    obtain ⟨o, ho⟩ : ∃ o, ops[k + d]? = some o := ⟨ops[k + d]'(by omega), List.getElem?_eq_getElem (by omega)⟩
    have hf' : f ∈ trP pl pe (k + d + 1) := hf
    rcases stepFl_cases (R.at' ho).2 with ⟨_, _, e, _⟩ | ⟨hw, hi, e1, vs, q, hq, _, e, _⟩ | ⟨_, _, _, _, e⟩ | ⟨_, _, _, _, e, _⟩
    · rw [e] at hf'; exact R.back k d (by omega) hf'
    · have hf2 := hf'
      rw [e] at hf2
      rcases List.mem_cons.1 hf2 with rfl | hf2
      · exact .inr ⟨Nat.le_add_right _ _, hf'⟩
      · exact R.back k d (by omega) hf2
    · rw [e] at hf'; exact R.back k d (by omega) (List.mem_filter.1 hf').1
    · rw [e] at hf'; exact R.back k d (by omega) hf'
theorem RunF.back' (R : RunF P call ops fls base ops 0 [] fr σ tr pl pe fr' σ') {k i : Nat} {f : Fl} (h : k ≤ i) (hi : i ≤ ops.length) (hf : f ∈ trP pl pe i) : AsideAt pl pe k f := by
  have := R.back k (f := f) (i - k) (by omega) (by rw [show k + (i - k) = i by omega]; exact hf)
  exact this
theorem RunF.down (R : RunF P call ops fls base ops 0 [] fr σ tr pl pe fr' σ') {k i : Nat} {f : Fl} (h : k ≤ i) (hi : i ≤ ops.length) (hf : AsideAt pl pe i f) : AsideAt pl pe k f := by
  rcases hf with hf | ⟨h1, h2⟩
  · exact R.back' h hi hf
  · exact .inr ⟨by omega, h2⟩
theorem RunF.made (R : RunF P call ops fls base ops 0 [] fr σ tr pl pe fr' σ') {k : Nat} {f : Fl} (hk : k ≤ ops.length) (hf : AsideAt pl pe k f) : Made P ops fls tr fr' f := by
  rcases hf with hf | ⟨_, hf⟩
  · exact ((R.pend k hk).1 f hf).2
  · by_cases h : f.p + 1 ≤ ops.length
    · exact ((R.pend _ h).1 f hf).2
    · have e : trP pl pe (f.p + 1) = trP pl pe ops.length := by
        unfold trP
        rw [List.getElem?_eq_none (by rw [R.plen]; omega), List.getElem?_eq_none (by rw [R.plen]; exact Nat.le_refl _)]
      rw [e] at hf
      exact ((R.pend _ (Nat.le_refl _)).1 f hf).2
/-- What is known of what stands aside. -/
structure Asides (P : Program) (ops : List Oper) (fls : List Nat) (base n0 : Nat) (pl : List (List Fl)) (pe : List Fl) (L : Nat → Bool) (k : Nat) (ρ : Ren) (σk : AHeap) (w : World) : Prop where
  free : ∀ p, p < ops.length → p ∈ fls → L p = false → ρ (base + p) = none
  held : ∀ f, AsideAt pl pe k f → L f.p = true → Aside P base n0 ρ σk w f
  apart : ∀ f g, AsideAt pl pe k f → AsideAt pl pe k g → L f.p = true → L g.p = true → f.p ≠ g.p → ∀ m m', ρ (base + f.p) = some m → ρ (base + g.p) = some m' → m.blk ≠ m'.blk
/-- A step that is none of theirs. -/
theorem Asides.step {n0 k k' : Nat} {L L' : Nat → Bool} {ρ ρ' : Ren} {σk σk' σ1 : AHeap} {w w' : World} (h : Asides P ops fls base n0 pl pe L k ρ σk w) (hnext : base + ops.length ≤ σ1.next) (hR : Rel P ρ σ1 w) (hE : Ext ρ σ1 w ρ' σk' w')
    (hin : ∀ f, AsideAt pl pe k' f → AsideAt pl pe k f) (hL : ∀ p, p ∈ fls → L' p = L p) (hfl : ∀ f, AsideAt pl pe k f → f.p ∈ fls) (hun : ∀ f, AsideAt pl pe k' f → L f.p = true → Aside P base n0 ρ σ1 w f) : Asides P ops fls base n0 pl pe L' k' ρ' σk' w' := by
  refine ⟨fun p hp hpf hl => ?_, fun f hf hl => ?_, fun f g hf hg hlf hlg hne m m' hm hm' => ?_⟩
  · rw [hL p hpf] at hl
    rw [hE.old _ (by omega)]
    exact h.free p hp hpf hl
  · rw [hL _ (hfl f (hin f hf))] at hl
    exact (hun f hf hl).step hR hE
  · rw [hL _ (hfl f (hin f hf))] at hlf
    rw [hL _ (hfl g (hin g hg))] at hlg
    obtain ⟨m1, hm1, _⟩ := h.held f (hin f hf) hlf
    obtain ⟨m2, hm2, _⟩ := h.held g (hin g hg) hlg
    have e1 := hE.ren _ _ hm1
    have e2 := hE.ren _ _ hm2
    rw [hm] at e1; cases e1
    rw [hm'] at e2; cases e2
    exact h.apart f g (hin f hf) (hin g hg) hlf hlg hne m m' hm1 hm2
end
end Go.AE
