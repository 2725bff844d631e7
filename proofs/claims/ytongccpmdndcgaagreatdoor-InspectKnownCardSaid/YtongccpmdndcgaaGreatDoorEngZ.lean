/- A drawn region in which rows are made beside calls: the rows stand aside until they are waited for. -/
import Derived.Test.YtongccpmdndcgaaGreatDoorEngV
namespace Go.AE
set_option linter.unusedVariables false
set_option linter.unusedSimpArgs false
variable {P : Program} {ρ : Ren} {σ : AHeap} {w : World}

theorem land_next (base : Nat) : ∀ (l : List Fl) (σ : AHeap), (landAll base l σ).next = σ.next
  | [], _ => rfl
  | f :: l, σ => land_next base l σ
theorem land_get (base : Nat) : ∀ (l : List Fl) (σ : AHeap) (b : Nat) (o : AObj), (landAll base l σ).get b = some o → (∃ g ∈ l, b = base + g.p ∧ o = g.obj) ∨ σ.get b = some o
  | [], _, _, _, h => .inr h
  | f :: l, σ, b, o, h => by
    rw [landAll, AHeap.get_set] at h
    split at h
    · rename_i hb; cases h; exact .inl ⟨f, by simp, hb, rfl⟩
    · rcases land_get base l σ b o h with ⟨g, hg, h1, h2⟩ | h
      · exact .inl ⟨g, by simp [hg], h1, h2⟩
      · exact .inr h

/-- A row that stands aside. -/
def Aside (P : Program) (base n0 : Nat) (ρ : Ren) (σ : AHeap) (w : World) (f : Fl) : Prop :=
  ∃ m, ρ (base + f.p) = some m ∧ n0 ≤ m.blk ∧ ObjR P ρ w m f.obj ∧ ∀ b o m', σ.get b = some o → ρ b = some m' → m'.blk ≠ m.blk
theorem Rel.land (h : Rel P ρ σ w) {b : Nat} {o : AObj} {m : Img} (hm : ρ b = some m) (ho : ObjR P ρ w m o) (hu : ∀ b' o' m', σ.get b' = some o' → ρ b' = some m' → m'.blk ≠ m.blk) : Rel P ρ (σ.set b o) w := by
  refine ⟨h.dom, h.lt, fun b' o' e => ?_, fun b1 b2 o1 o2 m1 m2 e1 e2 k1 k2 hr he => ?_⟩
  · rw [AHeap.get_set] at e
    split at e
    · rename_i hb; subst hb; cases e; exact ⟨m, hm, ho⟩
    · exact h.obj b' o' e
  · rw [AHeap.get_set] at e1 e2
    split at e1 <;> split at e2
    · rename_i a c; rw [a, c]
    · rename_i a c; subst a; rw [hm] at k1; cases k1; exact absurd he.symm (hu b2 o2 m2 e2 k2)
    · rename_i a c; subst c; rw [hm] at k2; cases k2; exact absurd he (hu b1 o1 m1 e1 k1)
    · exact h.inj b1 b2 o1 o2 m1 m2 e1 e2 k1 k2 hr he
theorem Rel.landAll (h : Rel P ρ σ w) {base n0 : Nat} : ∀ (l : List Fl), (l.map (·.p)).Nodup → (∀ f ∈ l, Aside P base n0 ρ σ w f) → (∀ f g, f ∈ l → g ∈ l → f.p ≠ g.p → ∀ m m', ρ (base + f.p) = some m → ρ (base + g.p) = some m' → m.blk ≠ m'.blk) → Rel P ρ (AE.landAll base l σ) w
  | [], _, _, _ => h
  | f :: l, hn, ha, hd => by
    rw [List.map_cons, List.nodup_cons] at hn
    have ih := h.landAll l hn.2 (fun g hg => ha g (by simp [hg])) (fun g g' h1 h2 => hd g g' (by simp [h1]) (by simp [h2]))
    obtain ⟨m, hm, _, ho, hu⟩ := ha f (by simp)
    refine ih.land hm ho fun b' o' m' hb' hm' => ?_
    rcases land_get base l σ b' o' hb' with ⟨g, hg, h1, h2⟩ | hb'
    · subst h1
      exact hd g f (by simp [hg]) (by simp) (fun e => hn.1 (by rw [← e]; exact List.mem_map_of_mem hg)) m' m hm' hm
    · exact hu b' o' m' hb' hm'
theorem Ext.landAll {ρ0 : Ren} {σ0 : AHeap} {w0 : World} (h : Ext ρ0 σ0 w0 ρ σ w) {base : Nat} (l : List Fl) (ha : ∀ f ∈ l, Aside P base w0.heap.size ρ σ w f) : Ext ρ0 σ0 w0 ρ (AE.landAll base l σ) w := by
  refine ⟨h.ren, by rw [land_next]; exact h.next, h.size, h.os, h.tape, h.output, h.frame, fun k hk ⟨b, o, m, hg, hr, hm, hb⟩ => ?_, h.old, fun b o hg hr => ?_⟩
  · rcases land_get base l σ b o hg with ⟨g, hgl, h1, h2⟩ | hg
    · subst h1
      obtain ⟨m2, hm2, hn, _⟩ := ha g hgl
      rw [hm] at hm2; cases hm2
      omega
    · exact h.fresh k hk ⟨b, o, m, hg, hr, hm, hb⟩
  · rcases land_get base l σ b o hg with ⟨g, hgl, h1, h2⟩ | hg
    · rw [h2] at hr; cases hr
    · exact h.ro b o hg hr
/-- What stands aside is left alone. -/
theorem Aside.step {base n0 : Nat} {ρ' : Ren} {σ' : AHeap} {w' : World} {f : Fl} (h : Aside P base n0 ρ σ w f) (hR : Rel P ρ σ w) (hE : Ext ρ σ w ρ' σ' w') : Aside P base n0 ρ' σ' w' f := by
  obtain ⟨m, hm, hn, ho, hu⟩ := h
  have hlt := hR.lt _ _ hm
  have hno : ¬ Owns ρ σ m.blk := fun ⟨b, o, m', hg, _, hm', hb⟩ => hu b o m' hg hm' hb
  refine ⟨m, hE.ren _ _ hm, hn, (ho.of_heap (hE.frame _ hlt hno)).mono hE.ren, fun b o m' hg hm' hb => ?_⟩
  cases hr : o.ro with
  | true =>
    have h1 := hE.ro b o hg hr
    obtain ⟨m2, hm2, _⟩ := hR.obj b o h1
    have := hE.ren _ _ hm2
    rw [hm'] at this; cases this
    exact hu b o m' h1 hm2 hb
  | false => exact hno (hE.fresh _ hlt ⟨b, o, m', hg, hr, hm', hb⟩)
/-- A row more, aside. -/
theorem Rel.more (h : Rel P ρ σ w) {b : Nat} {m : Img} (hb : ρ b = none) (hlt : b < σ.next) (hblk : m.blk = w.heap.size) (c : Obj) : Rel P (ρ.add b m) σ (w.alloc c) := by
  have hle := Ren.le_add (m := m) hb
  have off : ∀ {b'}, ρ b' ≠ none → (ρ.add b m) b' = ρ b' := fun {b'} hn => by unfold Ren.add; rw [if_neg (fun e => hn (by rw [e]; exact hb))]
  have old : ∀ k, k < w.heap.size → (w.alloc c).heap[k]? = w.heap[k]? := fun k hk => by
    simp only [World.alloc, Array.getElem?_push]
    rw [if_neg (by omega)]
  refine ⟨fun b' hb' => ?_, fun b' m' e => ?_, fun b' o e => ?_, fun b1 b2 o1 o2 m1 m2 e1 e2 k1 k2 hr he => ?_⟩
  · unfold Ren.add; rw [if_neg (by omega)]; exact h.dom b' hb'
  · simp only [World.size_alloc]
    unfold Ren.add at e
    split at e
    · cases e; omega
    · have := h.lt b' m' e; omega
  · obtain ⟨m2, hm2, ho2⟩ := h.obj b' o e
    exact ⟨m2, hle _ _ hm2, (ho2.of_heap (old _ (h.lt _ _ hm2))).mono hle⟩
  · obtain ⟨n1, q1, _⟩ := h.obj b1 o1 e1
    obtain ⟨n2, q2, _⟩ := h.obj b2 o2 e2
    rw [off (by rw [q1]; simp)] at k1
    rw [off (by rw [q2]; simp)] at k2
    exact h.inj b1 b2 o1 o2 m1 m2 e1 e2 k1 k2 hr he

/-! What the operation makes. -/
theorem fl_sound {o : Oper} {fr : AFr} {a : Act} {e : TypeId} {vs : List Value} {k : Option Nat} (h : flOf P o fr = some (e, vs, k)) (hE : ∀ x ∈ o.op.operands.toList, VR P ρ (fr.eval x) (a.eval x)) {K : Act → World → Prop} {Q : Exit → Act → World → Prop}
    (hK : ∀ (cs : Array Value) (v' : Value), LR P ρ vs cs.toList → (∀ ρ' b, ρ' b = some ⟨w.heap.size, 0, e, cs.size, false⟩ → VR P ρ' (flV b k) v') → K (a.put o.dst v') (w.alloc (.cells cs e))) : Oper.wp P o a w K Q := by
  obtain ⟨dst, op, ty, pos, after, guard⟩ := o
  cases op
  case alloc e' =>
    simp only [flOf] at h
    split at h
    · rename_i z hz
      simp only [Option.some.injEq, Prod.mk.injEq] at h
      obtain ⟨rfl, rfl, rfl⟩ := h
      have hr : (execOp a.eval ⟨dst, .alloc e', ty, pos, after, guard⟩).run P w = .ok (.value (.pointer (some ⟨w.heap.size, 0, none⟩))) (w.alloc (.cells z.cells e')) := by
        simp [execOp, Instr.alloc, info_zero hz, newVar, run_newRow]
      unfold Oper.wp
      rw [hr]
      exact hK z.cells _ (VR.of_plain (zeroOf_info hz).2).cells fun ρ' b hb => .ptr' hb rfl
    · cases h
  case buildSlice t len parts =>
    simp only [flOf] at h
    have hps : ∀ p ∈ parts.toList, VR P ρ (fr.eval p.2) (a.eval p.2) := fun p hp => hE p.2 (by simp only [Op.operands]; exact List.mem_map_of_mem hp)
    split at h
    · rename_i elem hu
      split at h
      · rename_i size z he
        split at h
        · rename_i hle
          split at h
          · rename_i cs hf
            cases h
            obtain ⟨r', hl, hr'⟩ := buildSlice_run (ρ := ρ) (w := w) (parts' := parts.map fun p => (p.1, a.eval p.2)) hu he (Nat.le_of_ble_eq_true hle) hf (by simp) (by simp only [Array.toList_map, List.map_map]; exact .map hps)
            have hr : (execOp a.eval ⟨dst, .buildSlice t len parts, ty, pos, after, guard⟩).run P w = .ok (.value (.slice (some ⟨w.heap.size, 0, none⟩) len len)) (w.alloc (.cells r' e)) := by
              simp only [execOp, Sem.run_bind, hr', Result.andThen_ok, Sem.run_pure]
            unfold Oper.wp
            rw [hr]
            exact hK r' _ hl fun ρ' b hb => slice_new hb (Nat.le_refl _)
          · cases h
        · cases h
      · cases h
    · cases h
  all_goals (simp [flOf] at h)

/-! The run. -/
def trP (pl : List (List Fl)) (pe : List Fl) (i : Nat) : List Fl := match pl[i]? with | some l => l | none => pe
structure RunF (P : Program) (call : CallF) (ops : List Oper) (fls : List Nat) (base : Nat) (l : List Oper) (i0 : Nat) (ps : List Fl) (fr : AFr) (σ : AHeap) (tr : List (AFr × AHeap × Value)) (pl : List (List Fl)) (pe : List Fl) (fr' : AFr) (σ' : AHeap) : Prop where
  len : tr.length = l.length
  plen : pl.length = l.length
  f0 : trF tr fr' 0 = fr
  s0 : trS tr σ' 0 = σ
  p0 : trP pl pe 0 = ps
  step : ∀ k o, l[k]? = some o → trF tr fr' (k + 1) = (trF tr fr' k).put o.dst (trV tr k) ∧ stepFl P call ops fls base o (i0 + k) (trP pl pe k) (trF tr fr' k) (trS tr σ' k) = some (trV tr k, trP pl pe (k + 1), trS tr σ' (k + 1))
theorem runFl_run {call : CallF} {ops : List Oper} {fls : List Nat} {base : Nat} : ∀ (l : List Oper) (i0 : Nat) (ps : List Fl) (fr : AFr) (σ : AHeap) (tr : List (AFr × AHeap × Value)) (pl : List (List Fl)) (pe : List Fl) (fr' : AFr) (σ' : AHeap),
    runFl P call ops fls base l i0 ps fr σ = some (tr, pl, pe, fr', σ') → RunF P call ops fls base l i0 ps fr σ tr pl pe fr' σ'
  | [], i0, ps, fr, σ, tr, pl, pe, fr', σ', h => by
    simp only [runFl, Option.some.injEq, Prod.mk.injEq] at h
    obtain ⟨rfl, rfl, rfl, rfl, rfl⟩ := h
    exact ⟨rfl, rfl, rfl, rfl, rfl, fun i o h => by simp at h⟩
  | o :: l, i0, ps, fr, σ, tr, pl, pe, fr', σ', h => by
    rw [runFl] at h
    split at h
    · cases h
    · rename_i v ps2 σ2 hs
      split at h
      · rename_i t pl2 r hr
        simp only [Option.some.injEq, Prod.mk.injEq] at h
        obtain ⟨rfl, rfl, rfl⟩ := h
        have R := runFl_run l (i0 + 1) ps2 _ σ2 t pl2 _ _ _ hr
        refine ⟨by simp [R.len], by simp [R.plen], rfl, rfl, rfl, fun k q hq => ?_⟩
        cases k with
        | zero =>
          simp at hq; subst hq
          have e1 : trF ((fr, σ, v) :: t) fr' 1 = trF t fr' 0 := rfl
          have e2 : trS ((fr, σ, v) :: t) σ' 1 = trS t σ' 0 := rfl
          have e3 : trP (ps :: pl2) pe 1 = trP pl2 pe 0 := rfl
          rw [e1, e2, e3, R.f0, R.s0, R.p0]
          exact ⟨rfl, hs⟩
        | succ k =>
          have := R.step k q (by simpa using hq)
          rw [show i0 + 1 + k = i0 + (k + 1) by omega] at this
          exact this
      · cases h
end Go.AE
