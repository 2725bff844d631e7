/- Texts of this proof, gathered. What each part says stands at its head; conditions: none but those that its theorems name. -/
import Derived.Test.YtongccpmdndcgaaDoorE2
import Derived.LoopN
import Derived.Scope
import Derived.Below
import Derived.Lib.Repeat
import Derived.Sort.KeysCollected
import Derived.Sort.EncStr
/- A drawn region in which rows are made beside calls: the rows stand aside until they are waited for. -/
section
set_option linter.all false
namespace Go.AE
variable {D : Prop} {P : Program} {ρ : Ren} {σ : AHeap} {w : World}

theorem land_next (base : Nat) : ∀ (l : List Fl) (σ : AHeap), (landAll base l σ).next = σ.next
  | [], _ => rfl
  | f :: l, σ => land_next base l σ
theorem land_get (base : Nat) : ∀ (l : List Fl) (σ : AHeap) (b : Nat) (o : AObj), (landAll base l σ).get b = some o → (∃ g ∈ l, b = base + g.p ∧ o = g.obj) ∨ σ.get b = some o
  | [], _, _, _, h => .inr h
  | f :: l, σ, b, o, h => by
    rw [landAll, AHeap.get_set] at h
    split at h
    · rename_i hb; cases h; exact .inl ⟨f, by simp, hb, rfl⟩
    · rcases land_get base l σ b o h with ⟨g, hg, h1, h2⟩ | h
      · exact .inl ⟨g, by simp [hg], h1, h2⟩
      · exact .inr h

/-- A row that stands aside. -/
def Aside (P : Program) (base n0 : Nat) (ρ : Ren) (σ : AHeap) (w : World) (f : Fl) : Prop :=
  ∃ m, ρ (base + f.p) = some m ∧ n0 ≤ m.blk ∧ ObjR P ρ w m f.obj ∧ ∀ b o m', σ.get b = some o → ρ b = some m' → m'.blk ≠ m.blk
theorem Rel.land (h : Rel P ρ σ w) {b : Nat} {o : AObj} {m : Img} (hm : ρ b = some m) (ho : ObjR P ρ w m o) (hu : ∀ b' o' m', σ.get b' = some o' → ρ b' = some m' → m'.blk ≠ m.blk) : Rel P ρ (σ.set b o) w := by
  refine ⟨h.dom, h.lt, fun b' o' e => ?_, fun b1 b2 o1 o2 m1 m2 e1 e2 k1 k2 hr he => ?_⟩
  · rw [AHeap.get_set] at e
    split at e
    · rename_i hb; subst hb; cases e; exact ⟨m, hm, ho⟩
    · exact h.obj b' o' e
  · rw [AHeap.get_set] at e1 e2
    split at e1 <;> split at e2
    · rename_i a c; rw [a, c]
    · rename_i a c; subst a; rw [hm] at k1; cases k1; exact absurd he.symm (hu b2 o2 m2 e2 k2)
    · rename_i a c; subst c; rw [hm] at k2; cases k2; exact absurd he (hu b1 o1 m1 e1 k1)
    · exact h.inj b1 b2 o1 o2 m1 m2 e1 e2 k1 k2 hr he
theorem Rel.landAll (h : Rel P ρ σ w) {base n0 : Nat} : ∀ (l : List Fl), (l.map (·.p)).Nodup → (∀ f ∈ l, Aside P base n0 ρ σ w f) → (∀ f g, f ∈ l → g ∈ l → f.p ≠ g.p → ∀ m m', ρ (base + f.p) = some m → ρ (base + g.p) = some m' → m.blk ≠ m'.blk) → Rel P ρ (AE.landAll base l σ) w
  | [], _, _, _ => h
  | f :: l, hn, ha, hd => by
    rw [List.map_cons, List.nodup_cons] at hn
    have ih := h.landAll l hn.2 (fun g hg => ha g (by simp [hg])) (fun g g' h1 h2 => hd g g' (by simp [h1]) (by simp [h2]))
    obtain ⟨m, hm, _, ho, hu⟩ := ha f (by simp)
    refine ih.land hm ho fun b' o' m' hb' hm' => ?_
    rcases land_get base l σ b' o' hb' with ⟨g, hg, h1, h2⟩ | hb'
    · subst h1
      exact hd g f (by simp [hg]) (by simp) (fun e => hn.1 (by rw [← e]; exact List.mem_map_of_mem hg)) m' m hm' hm
    · exact hu b' o' m' hb' hm'
theorem Ext.landAll {ρ0 : Ren} {σ0 : AHeap} {w0 : World} (h : Ext D ρ0 σ0 w0 ρ σ w) {base : Nat} (l : List Fl) (ha : ∀ f ∈ l, Aside P base w0.heap.size ρ σ w f) : Ext D ρ0 σ0 w0 ρ (AE.landAll base l σ) w := by
  refine ⟨h.ren, by rw [land_next]; exact h.next, h.size, h.os, h.tape, h.output, h.frame, fun k hk ⟨b, o, m, hg, hr, hm, hb⟩ => ?_, h.old, fun b o hg hr => ?_, h.drawn⟩
  · rcases land_get base l σ b o hg with ⟨g, hgl, h1, h2⟩ | hg
    · subst h1
      obtain ⟨m2, hm2, hn, _⟩ := ha g hgl
      rw [hm] at hm2; cases hm2
      omega
    · exact h.fresh k hk ⟨b, o, m, hg, hr, hm, hb⟩
  · rcases land_get base l σ b o hg with ⟨g, hgl, h1, h2⟩ | hg
    · rw [h2] at hr; cases hr
    · exact h.ro b o hg hr
/-- What stands aside is left alone. -/
theorem Aside.step {base n0 : Nat} {ρ' : Ren} {σ' : AHeap} {w' : World} {f : Fl} (h : Aside P base n0 ρ σ w f) (hR : Rel P ρ σ w) (hE : Ext D ρ σ w ρ' σ' w') : Aside P base n0 ρ' σ' w' f := by
  obtain ⟨m, hm, hn, ho, hu⟩ := h
  have hlt := hR.lt _ _ hm
  have hno : ¬ Owns ρ σ m.blk := fun ⟨b, o, m', hg, _, hm', hb⟩ => hu b o m' hg hm' hb
  refine ⟨m, hE.ren _ _ hm, hn, (ho.of_heap (hE.frame _ hlt hno)).mono hE.ren, fun b o m' hg hm' hb => ?_⟩
  cases hr : o.ro with
  | true =>
    have h1 := hE.ro b o hg hr
    obtain ⟨m2, hm2, _⟩ := hR.obj b o h1
    have := hE.ren _ _ hm2
    rw [hm'] at this; cases this
    exact hu b o m' h1 hm2 hb
  | false => exact hno (hE.fresh _ hlt ⟨b, o, m', hg, hr, hm', hb⟩)
/-- A row more, aside. -/
theorem Rel.more (h : Rel P ρ σ w) {b : Nat} {m : Img} (hb : ρ b = none) (hlt : b < σ.next) (hblk : m.blk = w.heap.size) (c : Obj) : Rel P (ρ.add b m) σ (w.alloc c) := by
  have hle := Ren.le_add (m := m) hb
  have off : ∀ {b'}, ρ b' ≠ none → (ρ.add b m) b' = ρ b' := fun {b'} hn => by unfold Ren.add; rw [if_neg (fun e => hn (by rw [e]; exact hb))]
  have old : ∀ k, k < w.heap.size → (w.alloc c).heap[k]? = w.heap[k]? := fun k hk => by
    simp only [World.alloc, Array.getElem?_push]
    rw [if_neg (by omega)]
  refine ⟨fun b' hb' => ?_, fun b' m' e => ?_, fun b' o e => ?_, fun b1 b2 o1 o2 m1 m2 e1 e2 k1 k2 hr he => ?_⟩
  · unfold Ren.add; rw [if_neg (by omega)]; exact h.dom b' hb'
  · simp only [World.size_alloc]
    unfold Ren.add at e
    split at e
    · cases e; omega
    · have := h.lt b' m' e; omega
  · obtain ⟨m2, hm2, ho2⟩ := h.obj b' o e
    exact ⟨m2, hle _ _ hm2, (ho2.of_heap (old _ (h.lt _ _ hm2))).mono hle⟩
  · obtain ⟨n1, q1, _⟩ := h.obj b1 o1 e1
    obtain ⟨n2, q2, _⟩ := h.obj b2 o2 e2
    rw [off (by rw [q1]; simp)] at k1
    rw [off (by rw [q2]; simp)] at k2
    exact h.inj b1 b2 o1 o2 m1 m2 e1 e2 k1 k2 hr he

/-! What the operation makes. -/
theorem fl_sound {o : Oper} {fr : AFr} {a : Act} {e : TypeId} {vs : List Value} {k : Option Nat} (h : flOf P o fr = some (e, vs, k)) (hE : ∀ x ∈ o.op.operands.toList, VR P ρ (fr.eval x) (a.eval x)) {K : Act → World → Prop} {Q : Exit → Act → World → Prop}
    (hK : ∀ (cs : Array Value) (v' : Value), LR P ρ vs cs.toList → (∀ ρ' b, ρ' b = some ⟨w.heap.size, 0, e, cs.size, false⟩ → VR P ρ' (flV b k) v') → K (a.put o.dst v') (w.alloc (.cells cs e))) : Oper.wp P o a w K Q := by
  obtain ⟨dst, op, ty, pos, after, guard⟩ := o
  cases op
  case alloc e' =>
    simp only [flOf] at h
    split at h
    · rename_i z hz
      simp only [Option.some.injEq, Prod.mk.injEq] at h
      obtain ⟨rfl, rfl, rfl⟩ := h
      have hr : (execOp a.eval ⟨dst, .alloc e', ty, pos, after, guard⟩).run P w = .ok (.value (.pointer (some ⟨w.heap.size, 0, none⟩))) (w.alloc (.cells z.cells e')) := by
        simp [execOp, Instr.alloc, info_zero hz, newVar, run_newRow]
      unfold Oper.wp
      rw [hr]
      exact hK z.cells _ (VR.of_plain (zeroOf_info hz).2).cells fun ρ' b hb => .ptr' hb rfl
    · cases h
  case buildSlice t len parts =>
    simp only [flOf] at h
    have hps : ∀ p ∈ parts.toList, VR P ρ (fr.eval p.2) (a.eval p.2) := fun p hp => hE p.2 (by simp only [Op.operands]; exact List.mem_map_of_mem hp)
    split at h
    · rename_i elem hu
      split at h
      · rename_i size z he
        split at h
        · rename_i hle
          split at h
          · rename_i cs hf
            cases h
            obtain ⟨r', hl, hr'⟩ := buildSlice_run (ρ := ρ) (w := w) (parts' := parts.map fun p => (p.1, a.eval p.2)) hu he (Nat.le_of_ble_eq_true hle) hf (by simp) (by simp only [Array.toList_map, List.map_map]; exact .map hps)
            have hr : (execOp a.eval ⟨dst, .buildSlice t len parts, ty, pos, after, guard⟩).run P w = .ok (.value (.slice (some ⟨w.heap.size, 0, none⟩) len len)) (w.alloc (.cells r' e)) := by
              simp only [execOp, Sem.run_bind, hr', Result.andThen_ok, Sem.run_pure]
            unfold Oper.wp
            rw [hr]
            exact hK r' _ hl fun ρ' b hb => slice_new hb (Nat.le_refl _)
          · cases h
        · cases h
      · cases h
    · cases h
  all_goals (simp [flOf] at h)

/-! The run. -/
def trP (pl : List (List Fl)) (pe : List Fl) (i : Nat) : List Fl := match pl[i]? with | some l => l | none => pe
structure RunF (P : Program) (call : CallF) (ops : List Oper) (fls : List Nat) (base : Nat) (l : List Oper) (i0 : Nat) (ps : List Fl) (fr : AFr) (σ : AHeap) (tr : List (AFr × AHeap × Value)) (pl : List (List Fl)) (pe : List Fl) (fr' : AFr) (σ' : AHeap) : Prop where
  len : tr.length = l.length
  plen : pl.length = l.length
  f0 : trF tr fr' 0 = fr
  s0 : trS tr σ' 0 = σ
  p0 : trP pl pe 0 = ps
  step : ∀ k o, l[k]? = some o → trF tr fr' (k + 1) = (trF tr fr' k).put o.dst (trV tr k) ∧ stepFl P call ops fls base o (i0 + k) (trP pl pe k) (trF tr fr' k) (trS tr σ' k) = some (trV tr k, trP pl pe (k + 1), trS tr σ' (k + 1))
theorem runFl_run {call : CallF} {ops : List Oper} {fls : List Nat} {base : Nat} : ∀ (l : List Oper) (i0 : Nat) (ps : List Fl) (fr : AFr) (σ : AHeap) (tr : List (AFr × AHeap × Value)) (pl : List (List Fl)) (pe : List Fl) (fr' : AFr) (σ' : AHeap),
    runFl P call ops fls base l i0 ps fr σ = some (tr, pl, pe, fr', σ') → RunF P call ops fls base l i0 ps fr σ tr pl pe fr' σ'
  | [], i0, ps, fr, σ, tr, pl, pe, fr', σ', h => by
    simp only [runFl, Option.some.injEq, Prod.mk.injEq] at h
    obtain ⟨rfl, rfl, rfl, rfl, rfl⟩ := h
    exact ⟨rfl, rfl, rfl, rfl, rfl, fun i o h => by simp at h⟩
  | o :: l, i0, ps, fr, σ, tr, pl, pe, fr', σ', h => by
    rw [runFl] at h
    split at h
    · cases h
    · rename_i v ps2 σ2 hs
      split at h
      · rename_i t pl2 r hr
        simp only [Option.some.injEq, Prod.mk.injEq] at h
        obtain ⟨rfl, rfl, rfl⟩ := h
        have R := runFl_run l (i0 + 1) ps2 _ σ2 t pl2 _ _ _ hr
        refine ⟨by simp [R.len], by simp [R.plen], rfl, rfl, rfl, fun k q hq => ?_⟩
        cases k with
        | zero =>
          simp at hq; subst hq
          have e1 : trF ((fr, σ, v) :: t) fr' 1 = trF t fr' 0 := rfl
          have e2 : trS ((fr, σ, v) :: t) σ' 1 = trS t σ' 0 := rfl
          have e3 : trP (ps :: pl2) pe 1 = trP pl2 pe 0 := rfl
          rw [e1, e2, e3, R.f0, R.s0, R.p0]
          exact ⟨rfl, hs⟩
        | succ k =>
          have := R.step k q (by simpa using hq)
          rw [show i0 + 1 + k = i0 + (k + 1) by omega] at this
          exact this
      · cases h
end Go.AE
end
/- Every order of such a region. -/
section
set_option linter.all false
namespace Go.AE
variable {D : Prop} {P : Program}

theorem stepFl_cases {call : CallF} {ops : List Oper} {fls : List Nat} {base i : Nat} {o : Oper} {ps ps2 : List Fl} {fr : AFr} {σ σ2 : AHeap} {v : Value} (h : stepFl P call ops fls base o i ps fr σ = some (v, ps2, σ2)) :
    (wanted' ops fr o = false ∧ v = undef ∧ ps2 = ps ∧ σ2 = σ) ∨
    (wanted' ops fr o = true ∧ i ∈ fls ∧ ∃ e vs k, flOf P o fr = some (e, vs, k) ∧ v = flV (base + i) k ∧ ps2 = ⟨i, e, vs⟩ :: ps ∧ σ2 = σ) ∨
    (wanted' ops fr o = true ∧ i ∉ fls ∧ acts P o = true ∧ aop P call o fr (landAll base (ps.filter fun f => waitsFor ops i f.p) σ) = some (v, σ2) ∧ ps2 = ps.filter fun f => !waitsFor ops i f.p) ∨
    (wanted' ops fr o = true ∧ i ∉ fls ∧ acts P o = false ∧ aop P call o fr σ = some (v, σ) ∧ ps2 = ps ∧ σ2 = σ) := by
  unfold stepFl at h
  split at h
  · rename_i hw
    simp only [Option.some.injEq, Prod.mk.injEq] at h
    obtain ⟨rfl, rfl, rfl⟩ := h
    exact .inl ⟨hw, rfl, rfl, rfl⟩
  · rename_i hw
    split at h
    · rename_i hf
      split at h
      · rename_i e vs k hq
        simp only [Option.some.injEq, Prod.mk.injEq] at h
        obtain ⟨rfl, rfl, rfl⟩ := h
        exact .inr (.inl ⟨hw, List.contains_iff_mem.1 hf, e, vs, k, hq, rfl, rfl, rfl⟩)
      · cases h
    · rename_i hf
      have hf : i ∉ fls := fun q => by rw [List.contains_iff_mem.2 q] at hf; cases hf
      split at h
      · rename_i ha
        split at h
        · rename_i u s hq
          simp only [Option.some.injEq, Prod.mk.injEq] at h
          obtain ⟨rfl, rfl, rfl⟩ := h
          exact .inr (.inr (.inl ⟨hw, hf, ha, hq, rfl⟩))
        · cases h
      · rename_i ha
        split at h
        · rename_i u s hq
          simp only [Option.some.injEq, Prod.mk.injEq] at h
          obtain ⟨rfl, rfl, rfl⟩ := h
          have : s = σ := by
            unfold acts at ha
            cases hc : clsOf P o.op with
            | acts => rw [hc] at ha; cases ha
            | pure => exact (aop_pure hc hq).1
            | reads => exact aop_reads hc hq
          subst this
          exact .inr (.inr (.inr ⟨hw, hf, ha, hq, rfl, rfl⟩))
        · cases h

section
variable {call : CallF} {ops : List Oper} {fls : List Nat} {base : Nat} {fr fr' : AFr} {σ σ' : AHeap} {tr : List (AFr × AHeap × Value)} {pl : List (List Fl)} {pe : List Fl}
theorem RunF.at' (R : RunF P call ops fls base ops 0 [] fr σ tr pl pe fr' σ') {i : Nat} {o : Oper} (ho : ops[i]? = some o) : trF tr fr' (i + 1) = (trF tr fr' i).put o.dst (trV tr i) ∧ stepFl P call ops fls base o i (trP pl pe i) (trF tr fr' i) (trS tr σ' i) = some (trV tr i, trP pl pe (i + 1), trS tr σ' (i + 1)) := by
  have := R.step i o ho
  rwa [Nat.zero_add] at this
theorem RunF.same (R : RunF P call ops fls base ops 0 [] fr σ tr pl pe fr' σ') : ∀ (d k : Nat), k + d ≤ ops.length → (∀ j o, k ≤ j → j < k + d → ops[j]? = some o → acts P o = true → j ∈ fls) → trS tr σ' (k + d) = trS tr σ' k
  | 0, k, _, _ => rfl
  | d + 1, k, hle, hn => by
    obtain ⟨o, ho⟩ : ∃ o, ops[k + d]? = some o := ⟨ops[k + d]'(by omega), List.getElem?_eq_getElem (by omega)⟩
    have ih := R.same d k (by omega) (fun j o h1 h2 h3 => hn j o h1 (by omega) h3)
    rw [← ih, show k + (d + 1) = k + d + 1 by omega]
    rcases stepFl_cases (R.at' ho).2 with ⟨_, _, _, h⟩ | ⟨_, _, _, _, _, _, _, _, h⟩ | ⟨_, h1, h2, _⟩ | ⟨_, _, _, _, _, h⟩
    · exact h
    · exact h
    · exact absurd (hn (k + d) o (by omega) (by omega) ho h2) h1
    · exact h
theorem RunF.f_n (R : RunF P call ops fls base ops 0 [] fr σ tr pl pe fr' σ') : ∀ m, m ≤ ops.length → (trF tr fr' m).n = fr.n
  | 0, _ => by rw [R.f0]
  | m + 1, h => by
    obtain ⟨o, ho⟩ : ∃ o, ops[m]? = some o := ⟨ops[m]'(by omega), List.getElem?_eq_getElem (by omega)⟩
    rw [(R.at' ho).1, AFr.put_n, R.f_n m (by omega)]
theorem RunF.f_at (hd : DrawOk P fls ops) (R : RunF P call ops fls base ops 0 [] fr σ tr pl pe fr' σ') (t : Nat) : ∀ m, m ≤ ops.length →
    (∀ i o, i < m → ops[i]? = some o → o.dst = some t → (trF tr fr' m).at_ t = if t < fr.n then trV tr i else fr.at_ t) ∧ ((∀ i o, i < m → ops[i]? = some o → o.dst ≠ some t) → (trF tr fr' m).at_ t = fr.at_ t)
  | 0, _ => ⟨fun i o h => by omega, fun _ => by rw [R.f0]⟩
  | m + 1, h => by
    obtain ⟨o, ho⟩ : ∃ o, ops[m]? = some o := ⟨ops[m]'(by omega), List.getElem?_eq_getElem (by omega)⟩
    obtain ⟨h1, h2⟩ := R.f_at hd t m (by omega)
    rw [(R.at' ho).1]
    have hn := R.f_n m (by omega)
    refine ⟨fun i oi hi hoi hdi => ?_, fun hno => ?_⟩
    · rw [AFr.put_at, hn]
      by_cases e : i = m
      · subst e
        rw [ho] at hoi; cases hoi
        by_cases ht : t < fr.n
        · rw [if_pos ⟨hdi, ht⟩, if_pos ht]
        · rw [if_neg (fun q => ht q.2), if_neg ht]
          exact h2 fun j oj hj hoj hdj => hd.once i j o oj t ho hoj (by omega) hdi hdj
      · rw [if_neg (fun q => hd.once i m oi o t hoi ho e hdi q.1)]
        exact h1 i oi (by omega) hoi hdi
    · rw [AFr.put_at, if_neg (fun q => hno m o (by omega) ho q.1)]
      exact h2 fun j oj hj hoj => hno j oj (by omega) hoj
def Made (P : Program) (ops : List Oper) (fls : List Nat) (tr : List (AFr × AHeap × Value)) (fr' : AFr) (f : Fl) : Prop :=
  f.p ∈ fls ∧ ∃ o k, ops[f.p]? = some o ∧ wanted' ops (trF tr fr' f.p) o = true ∧ flOf P o (trF tr fr' f.p) = some (f.e, f.vs, k)
theorem RunF.pend (R : RunF P call ops fls base ops 0 [] fr σ tr pl pe fr' σ') : ∀ i, i ≤ ops.length → (∀ f ∈ trP pl pe i, f.p < i ∧ Made P ops fls tr fr' f) ∧ ((trP pl pe i).map (·.p)).Nodup
  | 0, _ => by rw [R.p0]; simp
  | i + 1, h => by
    obtain ⟨o, ho⟩ : ∃ o, ops[i]? = some o := ⟨ops[i]'(by omega), List.getElem?_eq_getElem (by omega)⟩
    obtain ⟨h1, h2⟩ := R.pend i (by omega)
    have up : ∀ f ∈ trP pl pe i, f.p < i + 1 ∧ Made P ops fls tr fr' f := fun f hf => ⟨by have := (h1 f hf).1; omega, (h1 f hf).2⟩
    rcases stepFl_cases (R.at' ho).2 with ⟨_, _, e, _⟩ | ⟨hw, hi, e1, vs, k, hq, _, e, _⟩ | ⟨_, _, _, _, e⟩ | ⟨_, _, _, _, e, _⟩
    · rw [e]; exact ⟨up, h2⟩
    · rw [e]
      refine ⟨fun f hf => ?_, ?_⟩
      · rcases List.mem_cons.1 hf with rfl | hf
        · exact ⟨Nat.lt_succ_self _, hi, o, k, ho, hw, hq⟩
        · exact up f hf
      · rw [List.map_cons, List.nodup_cons]
        refine ⟨fun hm => ?_, h2⟩
        obtain ⟨g, hg, e⟩ := List.mem_map.1 hm
        have := (h1 g hg).1
        simp only at e
        omega
    · rw [e]
      exact ⟨fun f hf => up f (List.mem_filter.1 hf).1, List.Nodup.sublist (List.Sublist.map _ List.filter_sublist) h2⟩
    · rw [e]; exact ⟨up, h2⟩
def AsideAt (pl : List (List Fl)) (pe : List Fl) (k : Nat) (f : Fl) : Prop := f ∈ trP pl pe k ∨ (k ≤ f.p ∧ f ∈ trP pl pe (f.p + 1))
theorem RunF.back (R : RunF P call ops fls base ops 0 [] fr σ tr pl pe fr' σ') (k : Nat) {f : Fl} : ∀ d, k + d ≤ ops.length → f ∈ trP pl pe (k + d) → AsideAt pl pe k f
  | 0, _, h => .inl h
  | d + 1, h, hf => by
    obtain ⟨o, ho⟩ : ∃ o, ops[k + d]? = some o := ⟨ops[k + d]'(by omega), List.getElem?_eq_getElem (by omega)⟩
    have hf' : f ∈ trP pl pe (k + d + 1) := hf
    rcases stepFl_cases (R.at' ho).2 with ⟨_, _, e, _⟩ | ⟨hw, hi, e1, vs, q, hq, _, e, _⟩ | ⟨_, _, _, _, e⟩ | ⟨_, _, _, _, e, _⟩
    · rw [e] at hf'; exact R.back k d (by omega) hf'
    · have hf2 := hf'
      rw [e] at hf2
      rcases List.mem_cons.1 hf2 with rfl | hf2
      · exact .inr ⟨Nat.le_add_right _ _, hf'⟩
      · exact R.back k d (by omega) hf2
    · rw [e] at hf'; exact R.back k d (by omega) (List.mem_filter.1 hf').1
    · rw [e] at hf'; exact R.back k d (by omega) hf'
theorem RunF.back' (R : RunF P call ops fls base ops 0 [] fr σ tr pl pe fr' σ') {k i : Nat} {f : Fl} (h : k ≤ i) (hi : i ≤ ops.length) (hf : f ∈ trP pl pe i) : AsideAt pl pe k f := by
  have := R.back k (f := f) (i - k) (by omega) (by rw [show k + (i - k) = i by omega]; exact hf)
  exact this
theorem RunF.down (R : RunF P call ops fls base ops 0 [] fr σ tr pl pe fr' σ') {k i : Nat} {f : Fl} (h : k ≤ i) (hi : i ≤ ops.length) (hf : AsideAt pl pe i f) : AsideAt pl pe k f := by
  rcases hf with hf | ⟨h1, h2⟩
  · exact R.back' h hi hf
  · exact .inr ⟨by omega, h2⟩
theorem RunF.made (R : RunF P call ops fls base ops 0 [] fr σ tr pl pe fr' σ') {k : Nat} {f : Fl} (hk : k ≤ ops.length) (hf : AsideAt pl pe k f) : Made P ops fls tr fr' f := by
  rcases hf with hf | ⟨_, hf⟩
  · exact ((R.pend k hk).1 f hf).2
  · by_cases h : f.p + 1 ≤ ops.length
    · exact ((R.pend _ h).1 f hf).2
    · have e : trP pl pe (f.p + 1) = trP pl pe ops.length := by
        unfold trP
        rw [List.getElem?_eq_none (by rw [R.plen]; omega), List.getElem?_eq_none (by rw [R.plen]; exact Nat.le_refl _)]
      rw [e] at hf
      exact ((R.pend _ (Nat.le_refl _)).1 f hf).2
/-- What is known of what stands aside. -/
structure Asides (P : Program) (ops : List Oper) (fls : List Nat) (base n0 : Nat) (pl : List (List Fl)) (pe : List Fl) (L : Nat → Bool) (k : Nat) (ρ : Ren) (σk : AHeap) (w : World) : Prop where
  free : ∀ p, p < ops.length → p ∈ fls → L p = false → ρ (base + p) = none
  held : ∀ f, AsideAt pl pe k f → L f.p = true → Aside P base n0 ρ σk w f
  apart : ∀ f g, AsideAt pl pe k f → AsideAt pl pe k g → L f.p = true → L g.p = true → f.p ≠ g.p → ∀ m m', ρ (base + f.p) = some m → ρ (base + g.p) = some m' → m.blk ≠ m'.blk
/-- A step that is none of theirs. -/
theorem Asides.step {n0 k k' : Nat} {L L' : Nat → Bool} {ρ ρ' : Ren} {σk σk' σ1 : AHeap} {w w' : World} (h : Asides P ops fls base n0 pl pe L k ρ σk w) (hnext : base + ops.length ≤ σ1.next) (hR : Rel P ρ σ1 w) (hE : Ext D ρ σ1 w ρ' σk' w')
    (hin : ∀ f, AsideAt pl pe k' f → AsideAt pl pe k f) (hL : ∀ p, p ∈ fls → L' p = L p) (hfl : ∀ f, AsideAt pl pe k f → f.p ∈ fls) (hun : ∀ f, AsideAt pl pe k' f → L f.p = true → Aside P base n0 ρ σ1 w f) : Asides P ops fls base n0 pl pe L' k' ρ' σk' w' := by
  refine ⟨fun p hp hpf hl => ?_, fun f hf hl => ?_, fun f g hf hg hlf hlg hne m m' hm hm' => ?_⟩
  · rw [hL p hpf] at hl
    rw [hE.old _ (by omega)]
    exact h.free p hp hpf hl
  · rw [hL _ (hfl f (hin f hf))] at hl
    exact (hun f hf hl).step hR hE
  · rw [hL _ (hfl f (hin f hf))] at hlf
    rw [hL _ (hfl g (hin g hg))] at hlg
    obtain ⟨m1, hm1, _⟩ := h.held f (hin f hf) hlf
    obtain ⟨m2, hm2, _⟩ := h.held g (hin g hg) hlg
    have e1 := hE.ren _ _ hm1
    have e2 := hE.ren _ _ hm2
    rw [hm] at e1; cases e1
    rw [hm'] at e2; cases e2
    exact h.apart f g (hin f hf) (hin g hg) hlf hlg hne m m' hm1 hm2
end
end Go.AE
end
/- Every order of such a region comes to what the order of its text comes to. -/
section
set_option linter.all false
namespace Go.AE
variable {D : Prop} {P : Program}

theorem retold_specF {call : CallF} {ops : List Oper} {tr : List (AFr × AHeap × Value)} {fin : AHeap} {fr' : AFr} {ps : List (Nat × Nat)} {u i : Nat} {o : Oper} (h : retold P call ops tr fin ps = true) (hm : (u, i) ∈ ps) (ho : ops[i]? = some o) (hc : clsOf P o.op = .reads) (hw : wanted' ops (trF tr fr' i) o = true) :
    aop P call o (trF tr fr' i) (trS tr fin u) = some (trV tr i, trS tr fin u) ∧ aop P call o (trF tr fr' i) (trS tr fin (u + 1)) = some (trV tr i, trS tr fin (u + 1)) := retold_spec ps u i o h hm ho hc hw

structure StandsF (D : Prop) (P : Program) (gs : List Nat) (ops : List Oper) (fls : List Nat) (base : Nat) (tr : List (AFr × AHeap × Value)) (pl : List (List Fl)) (pe : List Fl) (fr : AFr) (σ' : AHeap) (ρ0 : Ren) (σ0 : AHeap) (w0 : World) (a0 : Act) (L : Nat → Bool) (a : Act) (w : World) : Prop where
  closed : Closed ops L
  defers : a.defers = a0.defers
  size : a.tmps.size = fr.n
  at_ : ∃ ρ k, k ≤ ops.length ∧ (∀ j o, ops[j]? = some o → acts P o = true → j ∉ fls → (L j = true ↔ j < k)) ∧ Rel P ρ (trS tr σ' k) w ∧ Ext D ρ0 σ0 w0 ρ (trS tr σ' k) w ∧ Gl gs ρ ∧
    (∀ i o t, ops[i]? = some o → o.dst = some t → L i = true → t < fr.n → VR P ρ (trV tr i) (a.tmps.getD t undef)) ∧
    (∀ t, ((∀ i o, ops[i]? = some o → o.dst = some t → L i = false) ∨ ¬ t < fr.n) → VR P ρ (fr.at_ t) (a.tmps.getD t undef)) ∧
    Asides P ops fls base w0.heap.size pl pe L k ρ (trS tr σ' k) w ∧ base + ops.length ≤ (trS tr σ' k).next

theorem draw_stepF {gs : List Nat} {call : CallF} (hcall : CallS D P gs call) {ops : List Oper} {fls : List Nat} {base : Nat} (hok : ∀ o ∈ ops, operOk gs o = true) (hd : DrawOk P fls ops) {fr fr' : AFr} {σ σ' : AHeap} {tr : List (AFr × AHeap × Value)} {pl : List (List Fl)} {pe : List Fl} (R : RunF P call ops fls base ops 0 [] fr σ tr pl pe fr' σ') {σo : AHeap} (hbase : σo.next ≤ base) (hret : retold P call ops tr σ' (unruly P ops) = true)
    {ρ0 : Ren} {w0 : World} {a0 : Act} {L L' : Nat → Bool} {a : Act} {w : World} {K : Act → World → Prop} {Q : Exit → Act → World → Prop} {i : Nat} {o : Oper}
    (J : StandsF D P gs ops fls base tr pl pe fr σ' ρ0 σo w0 a0 L a w) (ho : ops[i]? = some o) (hL : L i = false) (hpre : ∀ e ∈ o.after.toList, Region.binds .any e = true → L e.on = true) (hL' : ∀ j, L' j = if j = i then true else L j)
    (hK : ∀ a' w', StandsF D P gs ops fls base tr pl pe fr σ' ρ0 σo w0 a0 L' a' w' → K a' w') : wpOp P ops.toArray Q i K a w := by
  obtain ⟨hcl, hdf, hsz, ρ, k, hk, hact, hR, hE, hG, ht1, ht2, hA, hnextk⟩ := J
  have hpre' : ∀ b, ops[i]? = some b → ∀ e ∈ b.after.toList, Region.binds .any e = true → L e.on = true := fun b hb => by rw [ho] at hb; cases hb; exact hpre
  have hin : i < ops.length := (List.getElem?_eq_some_iff.1 ho).1
  have slot : ∀ t, (∀ j oj, ops[j]? = some oj → j ≠ i → oj.dst = some t → waitsFor ops i j = true) → VR P ρ ((trF tr fr' i).at_ t) (a.tmps.getD t undef) := by
    intro t hw
    obtain ⟨f1, f2⟩ := R.f_at hd t i (by omega)
    by_cases hex : ∃ j oj, ops[j]? = some oj ∧ j ≠ i ∧ oj.dst = some t
    · obtain ⟨j, oj, hj, hne, hdj⟩ := hex
      have hwj := hw j oj hj hne hdj
      have hlt := waits_lt hd i j hwj
      have hlj := waits_listed hd hcl i j hwj hpre'
      rw [f1 j oj hlt hj hdj]
      split
      · rename_i htn; exact ht1 j oj t hj hdj hlj htn
      · rename_i htn; exact ht2 t (.inr htn)
    · rw [f2 fun j oj hlt hj hdj => hex ⟨j, oj, hj, by omega, hdj⟩]
      refine ht2 t (.inl fun j oj hj hdj => ?_)
      by_cases e : j = i
      · subst e; exact hL
      · exact absurd ⟨j, oj, hj, e, hdj⟩ hex
  have hops : ∀ x ∈ o.op.operands.toList, VR P ρ ((trF tr fr' i).eval x) (a.eval x) := fun x hx =>
    eval_sound (List.all_eq_true.1 (hok o (List.mem_of_getElem? ho)) x hx) hG fun t e => slot t fun j oj hj hne hdj => hd.reads j i oj o t hj ho hne hdj (by
      subst e; unfold opTmps; rw [List.mem_filterMap]; exact ⟨_, hx, rfl⟩)
  have hwant : Region.wanted o (yielded ops.toArray a.tmps) = wanted' ops (trF tr fr' i) o := wanted_sound (P := P) (ρ := ρ) fun g want o2 t hg ho2 hdt => slot t fun j oj hj hne hdj => by
    have hgj : g = j := by
      rcases Nat.decEq g j with q | q
      · exact absurd hdj (hd.once g j o2 oj t ho2 hj q hdt)
      · exact q
    rw [← hgj]
    exact hd.guard i o g want ho hg
  have next : ∀ (ρ' : Ren) (k' : Nat) (v' : Value) (w' : World), k' ≤ ops.length → (∀ j q, ops[j]? = some q → acts P q = true → j ∉ fls → (L' j = true ↔ j < k')) → VR P ρ' (trV tr i) v' → ρ.le ρ' → Rel P ρ' (trS tr σ' k') w' → Ext D ρ0 σo w0 ρ' (trS tr σ' k') w' →
      Asides P ops fls base w0.heap.size pl pe L' k' ρ' (trS tr σ' k') w' → base + ops.length ≤ (trS tr σ' k').next → K (a.put o.dst v') w' := by
    intro ρ' k' v' w' hk' ha' hv hle hR' hE' hA' hn'
    refine hK _ _ ⟨fun j b hb hj e he hbd => ?_, (put_defers _ _ _).trans hdf, by rw [put_size, hsz], ρ', k', hk', ha', hR', hE', hG.mono hle, fun j q t hq hdq hj htn => ?_, fun t htt => ?_, hA', hn'⟩
    · rw [hL'] at hj ⊢
      split
      · rfl
      · split at hj
        · rename_i e1; subst e1; rw [ho] at hb; cases hb; exact hpre e he hbd
        · exact hcl j b hb hj e he hbd
    · rw [put_getD, hsz]
      by_cases e : j = i
      · subst e
        rw [ho] at hq; cases hq
        rw [if_pos ⟨hdq, htn⟩]; exact hv
      · rw [if_neg (fun z => hd.once j i q o t hq ho e hdq z.1)]
        rw [hL', if_neg e] at hj
        exact (ht1 j q t hq hdq hj htn).mono hle
    · rw [put_getD, hsz]
      by_cases e : o.dst = some t ∧ t < fr.n
      · exfalso
        rcases htt with z | z
        · have := z i o ho e.1; rw [hL', if_pos rfl] at this; cases this
        · exact z e.2
      · rw [if_neg e]
        refine (ht2 t ?_).mono hle
        rcases htt with z | z
        · left
          intro j q hq hdq
          have := z j q hq hdq
          rw [hL'] at this
          split at this
          · cases this
          · exact this
        · exact .inr z
  have hfl : ∀ f, AsideAt pl pe k f → f.p ∈ fls := fun f hf => (R.made hk hf).1
  -- an operation outside the chain, and no row
  have quiet : (acts P o = false ∨ i ∈ fls) → ∀ j q, ops[j]? = some q → acts P q = true → j ∉ fls → (L' j = true ↔ j < k) := fun hna j q hq ha hjf => by
    rw [hL', if_neg (fun e => by subst e; rcases hna with hna | hna; · rw [ho] at hq; cases hq; rw [hna] at ha; cases ha
                                 · exact hjf hna)]
    exact hact j q hq ha hjf
  have still : ∀ {ρ' w'}, i ∉ fls → Ext D ρ (trS tr σ' k) w ρ' (trS tr σ' k) w' → Asides P ops fls base w0.heap.size pl pe L' k ρ' (trS tr σ' k) w' := fun hni hE' =>
    hA.step hnextk hR hE' (fun f hf => hf) (fun p hp => by rw [hL', if_neg (fun e => hni (by rw [← e]; exact hp))]) hfl (fun f hf hl => hA.held f hf hl)
  have before : acts P o = true → i ∉ fls → trS tr σ' i = trS tr σ' k ∧ k ≤ i := fun ha hif => by
    have hki : k ≤ i := by
      rcases Nat.lt_or_ge i k with q | q
      · rw [(hact i o ho ha hif).2 q] at hL; cases hL
      · exact q
    refine ⟨?_, hki⟩
    have := R.same (i - k) k (by omega) (fun j q h1 h2 hq hqa => by
      rcases Classical.em (j ∈ fls) with hj | hj
      · exact hj
      · have hw := hd.chain j i q o hq ho (by omega) hqa ha hj hif
        have := (hact j q hq hqa hj).1 (waits_listed hd hcl i j hw hpre')
        omega)
    rwa [show k + (i - k) = i by omega] at this
  have after : acts P o = true → i ∉ fls → ∀ j q, ops[j]? = some q → acts P q = true → j ∉ fls → (L' j = true ↔ j < i + 1) := fun ha hif j q hq hqa hjf => by
    rw [hL']
    by_cases e : j = i
    · subst e; simp
    · rw [if_neg e, hact j q hq hqa hjf]
      have hki := (before ha hif).2
      constructor
      · intro h; omega
      · intro h
        have hji : j < i := by omega
        exact (hact j q hq hqa hjf).1 (waits_listed hd hcl i j (hd.chain j i q o hq ho hji hqa ha hjf hif) hpre')
  unfold wpOp
  rw [List.getElem?_toArray, ho]
  simp only
  rw [hwant]
  rcases stepFl_cases (R.at' ho).2 with ⟨hw, hv, hp, hs⟩ | ⟨hw, hif, e, vs, kk, hq, hv, hp, hs⟩ | ⟨hw, hif, hac, ha, hp⟩ | ⟨hw, hif, hac, ha, hp, hs⟩
  · -- not wanted
    rw [hw]
    simp only [Bool.false_eq_true, if_false]
    have hv' : VR P ρ (trV tr i) undef := by rw [hv]; exact .undef
    by_cases hch : acts P o = true ∧ i ∉ fls
    · obtain ⟨hac, hif⟩ := hch
      obtain ⟨e1, e2⟩ := before hac hif
      refine next ρ (i + 1) undef w (by omega) (after hac hif) hv' (Ren.le_refl _) (by rw [hs, e1]; exact hR) (by rw [hs, e1]; exact hE) ?_ (by rw [hs, e1]; exact hnextk)
      rw [hs, e1]
      exact hA.step hnextk hR (Ext.refl (D := D) _ _ _) (fun f hf => R.down (by omega) (by omega) hf) (fun p hp => by rw [hL', if_neg (fun e => hif (by rw [← e]; exact hp))]) hfl (fun f hf hl => hA.held f (R.down (by omega) (by omega) hf) hl)
    · have hno : acts P o = false ∨ i ∈ fls := by
        cases hac : acts P o with
        | false => exact .inl rfl
        | true => exact .inr (Classical.byContradiction fun q => hch ⟨hac, q⟩)
      refine next ρ k undef w hk (quiet hno) hv' (Ren.le_refl _) hR hE ⟨fun p hpl hpf hl => ?_, fun f hf hl => ?_, fun f g hf hg hlf hlg => ?_⟩ hnextk
      · rw [hL'] at hl; split at hl
        · cases hl
        · exact hA.free p hpl hpf hl
      all_goals
        have nof : ∀ f, AsideAt pl pe k f → f.p ≠ i := fun f hf e => by
          obtain ⟨_, o2, k2, ho2, hw2, _⟩ := R.made hk hf
          rw [e] at ho2 hw2
          rw [ho] at ho2; cases ho2
          rw [hw] at hw2; cases hw2
      · rw [hL', if_neg (nof f hf)] at hl; exact hA.held f hf hl
      · rw [hL', if_neg (nof f hf)] at hlf
        rw [hL', if_neg (nof g hg)] at hlg
        exact hA.apart f g hf hg hlf hlg
  · -- a row that stands aside
    rw [hw]
    simp only [if_true]
    left
    refine fl_sound hq hops fun cs v' hl hmk => ?_
    have hfree := hA.free i hin hif hL
    have hR' := hR.more hfree (Nat.lt_of_lt_of_le (Nat.add_lt_add_left hin _) hnextk) (m := ⟨w.heap.size, 0, e, cs.size, false⟩) rfl (.cells cs e)
    have hle : ρ.le (ρ.add (base + i) ⟨w.heap.size, 0, e, cs.size, false⟩) := Ren.le_add hfree
    have hold : ∀ q, q < w.heap.size → (w.alloc (.cells cs e)).heap[q]? = w.heap[q]? := fun q hq => by
      simp only [World.alloc, Array.getElem?_push]
      rw [if_neg (by omega)]
    have hoff : ∀ {b'}, b' ≠ base + i → (ρ.add (base + i) ⟨w.heap.size, 0, e, cs.size, false⟩) b' = ρ b' := fun {b'} hn => by unfold Ren.add; rw [if_neg hn]
    have hpres : ∀ b o m', (trS tr σ' k).get b = some o → (ρ.add (base + i) ⟨w.heap.size, 0, e, cs.size, false⟩) b = some m' → ρ b = some m' := fun b o m' hg hm => by
      obtain ⟨m2, hm2, _⟩ := hR.obj b o hg
      have := hle _ _ hm2
      rw [hm] at this; cases this
      exact hm2
    have hE' : Ext D ρ0 σo w0 (ρ.add (base + i) ⟨w.heap.size, 0, e, cs.size, false⟩) (trS tr σ' k) (w.alloc (.cells cs e)) := by
      refine ⟨Ren.le_trans hE.ren hle, hE.next, Nat.le_trans hE.size (by simp), hE.os, hE.tape, hE.output, fun q hq hn => ?_, fun q hq ⟨b, o2, m2, hg, hr, hm2, hb⟩ => ?_, fun b hb => ?_, hE.ro, hE.drawn⟩
      · rw [hold q (Nat.lt_of_lt_of_le hq hE.size)]; exact hE.frame q hq hn
      · exact hE.fresh q hq ⟨b, o2, m2, hg, hr, hpres b o2 m2 hg hm2, hb⟩
      · rw [hoff (by omega)]; exact hE.old b hb
    have hvr := hmk (ρ.add (base + i) ⟨w.heap.size, 0, e, cs.size, false⟩) (base + i) Ren.add_same
    rw [← hv] at hvr
    refine next _ k v' _ hk (quiet (.inr hif)) hvr hle hR' hE' ?_ hnextk
    have mine : ∀ f, AsideAt pl pe k f → f.p = i → f.e = e ∧ f.vs = vs := fun f hf e1 => by
      obtain ⟨_, o2, k2, ho2, _, hq2⟩ := R.made hk hf
      rw [e1] at ho2 hq2
      rw [ho] at ho2; cases ho2
      rw [hq] at hq2; cases hq2
      exact ⟨rfl, rfl⟩
    have ne : ∀ {p}, p ≠ i → (ρ.add (base + i) ⟨w.heap.size, 0, e, cs.size, false⟩) (base + p) = ρ (base + p) := fun {p} hp => hoff (by omega)
    refine ⟨fun p hpl hpf hl2 => ?_, fun f hf hl2 => ?_, fun f g hf hg hlf hlg hne m m' hm hm' => ?_⟩
    · rw [hL'] at hl2
      split at hl2
      · cases hl2
      · rename_i hp; rw [ne hp]; exact hA.free p hpl hpf hl2
    · rw [hL'] at hl2
      by_cases e1 : f.p = i
      · obtain ⟨e2, e3⟩ := mine f hf e1
        refine ⟨_, by rw [e1]; exact Ren.add_same, hE.size, ?_, fun b o2 m' hg hm hb => ?_⟩
        · refine ⟨e2.symm, rfl, cs, (0, 0), by rw [e2]; exact heap_new _ _, rfl, fun _ => ⟨thaw_zero _, fun _ => rfl⟩, fun q u hu => ?_⟩
          rw [e3, Tr.get_of] at hu
          obtain ⟨u', hu', hr⟩ := hl.get hu
          exact ⟨u', by simpa using hu', hr.mono hle⟩
        · have := hR.lt b m' (hpres b o2 m' hg hm)
          simp only at hb
          omega
      · rw [if_neg e1] at hl2
        obtain ⟨m, hm, hn, ho2, hu⟩ := hA.held f hf hl2
        exact ⟨m, hle _ _ hm, hn, (ho2.of_heap (hold _ (hR.lt _ _ hm))).mono hle, fun b o2 m' hg hm' => hu b o2 m' hg (hpres b o2 m' hg hm')⟩
    · rw [hL'] at hlf hlg
      have old1 : ∀ f, AsideAt pl pe k f → f.p ≠ i → (if f.p = i then true else L f.p) = true → ∀ m, (ρ.add (base + i) ⟨w.heap.size, 0, e, cs.size, false⟩) (base + f.p) = some m → ρ (base + f.p) = some m ∧ L f.p = true := fun f hf h1 h2 m h3 => by
        rw [if_neg h1] at h2; rw [ne h1] at h3; exact ⟨h3, h2⟩
      by_cases e1 : f.p = i
      · have e2 : g.p ≠ i := fun q => hne (e1.trans q.symm)
        rw [e1, Ren.add_same] at hm; cases hm
        have := hR.lt _ _ (old1 g hg e2 hlg m' hm').1
        show w.heap.size ≠ m'.blk
        omega
      · by_cases e2 : g.p = i
        · rw [e2, Ren.add_same] at hm'; cases hm'
          have := hR.lt _ _ (old1 f hf e1 hlf m hm).1
          show m.blk ≠ w.heap.size
          omega
        · obtain ⟨q1, q2⟩ := old1 f hf e1 hlf m hm
          obtain ⟨q3, q4⟩ := old1 g hg e2 hlg m' hm'
          exact hA.apart f g hf hg q2 q4 hne m m' q1 q3
  · -- the chain
    rw [hw]
    simp only [if_true]
    left
    obtain ⟨e1, e2⟩ := before hac hif
    rw [e1] at ha
    have now : ∀ f, f ∈ (trP pl pe i).filter (fun f => waitsFor ops i f.p) → AsideAt pl pe k f ∧ L f.p = true ∧ waitsFor ops i f.p = true := fun f hf => by
      obtain ⟨h1, h2⟩ := List.mem_filter.1 hf
      exact ⟨R.back' e2 (by omega) h1, waits_listed hd hcl i f.p h2 hpre', h2⟩
    have hland := hR.landAll (base := base) (n0 := w0.heap.size) ((trP pl pe i).filter fun f => waitsFor ops i f.p) (List.Nodup.sublist (List.Sublist.map _ List.filter_sublist) (R.pend i (by omega)).2)
      (fun f hf => hA.held f (now f hf).1 (now f hf).2.1) (fun f g hf hg => hA.apart f g (now f hf).1 (now g hg).1 (now f hf).2.1 (now g hg).2.1)
    have hEl := hE.landAll (base := base) ((trP pl pe i).filter fun f => waitsFor ops i f.p) (fun f hf => hA.held f (now f hf).1 (now f hf).2.1)
    refine aop_sound hcall ha hops hG hland fun ρ' v' w' hv hR' hE' => ?_
    refine next ρ' (i + 1) v' w' (by omega) (after hac hif) hv hE'.ren hR' (hEl.trans hE') ?_ (Nat.le_trans (by rw [land_next]; exact hnextk) hE'.next)
    refine hA.step (by rw [land_next]; exact hnextk) hland hE' (fun f hf => R.down (by omega) (by omega) hf) (fun p hp => by rw [hL', if_neg (fun e => hif (by rw [← e]; exact hp))]) hfl (fun f hf hl => ?_)
    obtain ⟨m, hm, hn, ho2, hu⟩ := hA.held f (R.down (by omega) (by omega) hf) hl
    refine ⟨m, hm, hn, ho2, fun b o2 m' hg hm' => ?_⟩
    rcases land_get base _ _ b o2 hg with ⟨g, hg1, rfl, rfl⟩ | hg
    · obtain ⟨n1, n2, n3⟩ := now g hg1
      refine (hA.apart f g (R.down (by omega) (by omega) hf) n1 hl n2 (fun q => ?_) m m' hm hm').symm
      rcases hf with hf | ⟨h1, _⟩
      · rw [hp] at hf
        have := (List.mem_filter.1 hf).2
        rw [q, n3] at this
        cases this
      · have := waits_lt hd i g.p n3
        omega
    · exact hu b o2 m' hg hm'
  · -- what makes nothing
    rw [hw]
    simp only [if_true]
    left
    cases hc : clsOf P o.op with
    | acts => unfold acts at hac; rw [hc] at hac; cases hac
    | pure =>
      have ha2 := (aop_pure hc ha).2 (trS tr σ' k)
      refine aop_sound hcall ha2 hops hG hR fun ρ' v' w' hv hR' hE' => ?_
      exact next ρ' k v' w' hk (quiet (.inl hac)) hv hE'.ren hR' (hE.trans hE') (still hif hE') hnextk
    | reads =>
      have hrd : isReads P o = true := by unfold isReads; rw [hc]
      have ha2 : aop P call o (trF tr fr' i) (trS tr σ' k) = some (trV tr i, trS tr σ' k) := by
        rcases Nat.lt_or_ge i k with hik | hik
        · by_cases hex : ∃ u q, i < u ∧ u < k ∧ ops[u]? = some q ∧ acts P q = true ∧ u ∉ fls
          · have : ∃ u q, i < u ∧ u < k ∧ ops[u]? = some q ∧ (acts P q = true ∧ u ∉ fls) ∧ ∀ j z, u < j → j < k → ops[j]? = some z → acts P z = true → j ∈ fls := by
              obtain ⟨u, q, h1, h2, h3, h4⟩ := hex
              have key : ∀ d u q, k - u = d → i < u → u < k → ops[u]? = some q → (acts P q = true ∧ u ∉ fls) → ∃ u q, i < u ∧ u < k ∧ ops[u]? = some q ∧ (acts P q = true ∧ u ∉ fls) ∧ ∀ j z, u < j → j < k → ops[j]? = some z → acts P z = true → j ∈ fls := by
                intro d
                induction d using Nat.strongRecOn with
                | _ d ih =>
                  intro u q hd1 h1 h2 h3 h4
                  by_cases hl : ∃ j z, u < j ∧ j < k ∧ ops[j]? = some z ∧ (acts P z = true ∧ j ∉ fls)
                  · obtain ⟨j, z, g1, g2, g3, g4⟩ := hl
                    exact ih (k - j) (by omega) j z rfl (by omega) g2 g3 g4
                  · exact ⟨u, q, h1, h2, h3, h4, fun j z g1 g2 g3 hz => Classical.byContradiction fun hj => hl ⟨j, z, g1, g2, g3, hz, hj⟩⟩
              exact key _ u q rfl h1 h2 h3 h4
            obtain ⟨u, q, h1, h2, h3, ⟨h4, h4'⟩, h5⟩ := this
            have hlu : L u = true := (hact u q h3 h4 h4').2 h2
            have w1 : waitsFor ops u i = false := by
              cases hq : waitsFor ops u i with
              | false => rfl
              | true =>
                have := waits_listed hd hcl u i hq (fun b hb e he hbd => hcl u b hb hlu e he hbd)
                rw [this] at hL; cases hL
            have w2 : waitsFor ops i u = false := by
              cases hq : waitsFor ops i u with
              | false => rfl
              | true => have := waits_lt hd i u hq; omega
            have hr := (retold_specF (fr' := fr') hret (unruly_mem h3 ho h4 hrd w1 w2) ho hc hw).2
            have hs2 := R.same (k - (u + 1)) (u + 1) (by omega) (fun j z g1 g2 g3 g4 => h5 j z (by omega) (by omega) g3 g4)
            rw [show u + 1 + (k - (u + 1)) = k by omega] at hs2
            rw [hs2]; exact hr
          · have hs2 := R.same (k - i) i (by omega) (fun j z g1 g2 g3 hz => by
              by_cases e : j = i
              · subst e; rw [ho] at g3; cases g3; rw [hac] at hz; cases hz
              · exact Classical.byContradiction fun hj => hex ⟨j, z, by omega, by omega, g3, hz, hj⟩)
            rw [show i + (k - i) = k by omega] at hs2
            rw [hs2, ha]
        · by_cases hex : ∃ u q, k ≤ u ∧ u < i ∧ ops[u]? = some q ∧ acts P q = true ∧ u ∉ fls
          · have : ∃ u q, k ≤ u ∧ u < i ∧ ops[u]? = some q ∧ (acts P q = true ∧ u ∉ fls) ∧ ∀ j z, k ≤ j → j < u → ops[j]? = some z → acts P z = true → j ∈ fls := by
              obtain ⟨u, q, h1, h2, h3, h4⟩ := hex
              have key : ∀ u, ∀ q, k ≤ u → u < i → ops[u]? = some q → (acts P q = true ∧ u ∉ fls) → ∃ u q, k ≤ u ∧ u < i ∧ ops[u]? = some q ∧ (acts P q = true ∧ u ∉ fls) ∧ ∀ j z, k ≤ j → j < u → ops[j]? = some z → acts P z = true → j ∈ fls := by
                intro u
                induction u using Nat.strongRecOn with
                | _ u ih =>
                  intro q h1 h2 h3 h4
                  by_cases hl : ∃ j z, k ≤ j ∧ j < u ∧ ops[j]? = some z ∧ (acts P z = true ∧ j ∉ fls)
                  · obtain ⟨j, z, g1, g2, g3, g4⟩ := hl
                    exact ih j g2 z g1 (by omega) g3 g4
                  · exact ⟨u, q, h1, h2, h3, h4, fun j z g1 g2 g3 hz => Classical.byContradiction fun hj => hl ⟨j, z, g1, g2, g3, hz, hj⟩⟩
              exact key u q h1 h2 h3 h4
            obtain ⟨u, q, h1, h2, h3, ⟨h4, h4'⟩, h5⟩ := this
            have hlu : L u = false := by
              cases hq : L u with
              | false => rfl
              | true => have := (hact u q h3 h4 h4').1 hq; omega
            have w1 : waitsFor ops u i = false := by
              cases hq : waitsFor ops u i with
              | false => rfl
              | true => have := waits_lt hd u i hq; omega
            have w2 : waitsFor ops i u = false := by
              cases hq : waitsFor ops i u with
              | false => rfl
              | true =>
                have := waits_listed hd hcl i u hq hpre'
                rw [this] at hlu; cases hlu
            have hr := (retold_specF (fr' := fr') hret (unruly_mem h3 ho h4 hrd w1 w2) ho hc hw).1
            have hs2 := R.same (u - k) k (by omega) (fun j z g1 g2 g3 g4 => h5 j z g1 (by omega) g3 g4)
            rw [show k + (u - k) = u by omega] at hs2
            rw [← hs2]; exact hr
          · have hs2 := R.same (i - k) k (by omega) (fun j z g1 g2 g3 hz => Classical.byContradiction fun hj => hex ⟨j, z, g1, by omega, g3, hz, hj⟩)
            rw [show k + (i - k) = i by omega] at hs2
            rw [← hs2, ha]
      refine aop_sound hcall ha2 hops hG hR fun ρ' v' w' hv hR' hE' => ?_
      exact next ρ' k v' w' hk (quiet (.inl hac)) hv hE'.ren hR' (hE.trans hE') (still hif hE') hnextk
end Go.AE
end
/- Regions, code, calls. -/
section
set_option linter.all false
namespace Go.AE
variable {D : Prop} {P : Program}

theorem Run.s_n {call : CallF} {ops l : List Oper} {fr fr' : AFr} {σ σ' : AHeap} {tr : List (AFr × AHeap × Value)} (R : Run P call ops l fr σ tr fr' σ') : trF tr fr' l.length = fr' ∧ trS tr σ' l.length = σ' := by
  unfold trF trS
  rw [List.getElem?_eq_none (by rw [R.len]; exact Nat.le_refl _)]
  exact ⟨rfl, rfl⟩
theorem draw_any {gs : List Nat} {call : CallF} (hcall : CallS D P gs call) {ops : List Oper} (hok : ∀ o ∈ ops, operOk gs o = true) (hd : DrawOk P [] ops) {fr fr' : AFr} {σ σ' : AHeap} {tr : List (AFr × AHeap × Value)} (R : Run P call ops ops fr σ tr fr' σ') (hret : retold P call ops tr σ' (unruly P ops) = true)
    {ρ0 : Ren} {w0 : World} {a0 : Act} {Q : Exit → Act → World → Prop} (hK : Cont D P ρ0 σ w0 a0 fr' σ' (Q .normal)) :
    ∀ (fuel : Nat) (listed : Array Bool) (a : Act) (w : World), listed.size = ops.length → ((List.range ops.length).countP fun j => !listedOf listed j) = fuel → Stands D P gs ops tr fr σ' ρ0 σ w0 a0 (listedOf listed) a w → wpAny P .any ops.toArray Q fuel listed a w := by
  -- all is done
  have done : ∀ (listed : Array Bool) (a : Act) (w : World), (∀ j, j < ops.length → listedOf listed j = true) → Stands D P gs ops tr fr σ' ρ0 σ w0 a0 (listedOf listed) a w → Q .normal a w := by
    intro listed a w hall J
    obtain ⟨hcl, hdf, hsz, ρ, k, hk, hact, hR, hE, hG, ht1, ht2⟩ := J
    have hs := R.same (ops.length - k) k (by omega) (fun j o h1 h2 h3 => by
      cases ha : acts P o with
      | false => rfl
      | true => have := (hact j o h3 ha).1 (hall j (by omega)); omega)
    rw [show k + (ops.length - k) = ops.length by omega] at hs
    have hn := R.s_n
    rw [hn.2] at hs
    rw [← hs] at hR hE
    refine hK ρ a w ⟨?_, fun t => ?_⟩ hdf hR hE
    · rw [hsz, ← hn.1, R.f_n _ (Nat.le_refl _)]
    · obtain ⟨f1, f2⟩ := R.f_at hd t ops.length (Nat.le_refl _)
      rw [hn.1] at f1 f2
      by_cases hex : ∃ (j : Nat) (oj : Oper), ops[j]? = some oj ∧ oj.dst = some t
      · obtain ⟨j, oj, hj, hdj⟩ := hex
        have hlt := (List.getElem?_eq_some_iff.1 hj).1
        rw [f1 j oj hlt hj hdj]
        split
        · rename_i htn; exact ht1 j oj t hj hdj (hall j hlt) htn
        · rename_i htn; exact ht2 t (.inr htn)
      · rw [f2 fun j oj hlt hj hdj => hex ⟨j, oj, hj, hdj⟩]
        exact ht2 t (.inl fun j oj hj hdj => absurd ⟨j, oj, hj, hdj⟩ hex)
  have both : ∀ (listed : Array Bool) (j : Nat), listed.size = ops.length → j < ops.length → listed.getD j true = listedOf listed j := fun listed j h1 h2 => by
    unfold listedOf; simp [h1, h2]
  -- who is not done and stands first is ready
  have first : ∀ (listed : Array Bool), listed.size = ops.length → Region.ready .any ops.toArray listed = [] → ∀ j, j < ops.length → listedOf listed j = true := by
    intro listed hs hr j
    induction j using Nat.strongRecOn with
    | _ j ih =>
      intro hj
      cases hl : listedOf listed j with
      | true => rfl
      | false =>
        obtain ⟨o, ho⟩ : ∃ o, ops[j]? = some o := ⟨ops[j]'hj, List.getElem?_eq_getElem hj⟩
        have : j ∈ Region.ready .any ops.toArray listed := by
          rw [mem_ready]
          refine ⟨by rw [both listed j hs hj, hl], o, by rw [List.getElem?_toArray]; exact ho, fun e he hbd => ?_⟩
          have hlt := hd.back j o ho e (Array.mem_toList_iff.2 he) hbd
          exact ih e.on hlt (by omega)
        rw [hr] at this
        cases this
  intro fuel
  induction fuel with
  | zero =>
    intro listed a w hs hc J
    have hall : ∀ j, j < ops.length → listedOf listed j = true := fun j hj => by
      have := List.countP_eq_zero.1 hc j (List.mem_range.2 hj)
      simpa using this
    refine ⟨?_, done listed a w hall J⟩
    cases hr : Region.ready .any ops.toArray listed with
    | nil => rfl
    | cons i r =>
      have hi : i ∈ Region.ready .any ops.toArray listed := by rw [hr]; simp
      obtain ⟨h0, o, ho, _⟩ := mem_ready.1 hi
      rw [List.getElem?_toArray] at ho
      have hlt := (List.getElem?_eq_some_iff.1 ho).1
      rw [both listed i hs hlt, hall i hlt] at h0
      cases h0
  | succ fuel ih =>
    intro listed a w hs hc J
    refine ⟨fun hr => done listed a w (first listed hs hr) J, fun i hi => ?_⟩
    obtain ⟨h0, o, ho, hpre⟩ := mem_ready.1 hi
    rw [List.getElem?_toArray] at ho
    have hlt := (List.getElem?_eq_some_iff.1 ho).1
    rw [both listed i hs hlt] at h0
    have hset : ∀ j, listedOf (listed.setIfInBounds i true) j = if j = i then true else listedOf listed j := fun j => by
      unfold listedOf
      simp only [Array.getD_eq_getD_getElem?]
      rw [Array.getElem?_setIfInBounds]
      by_cases e : i = j
      · subst e; simp [hs, hlt]
      · rw [if_neg e, if_neg (Ne.symm e)]
    refine draw_step hcall hok hd R hret J ho h0 (fun e he hbd => hpre e (Array.mem_toList_iff.1 he) hbd) hset fun a' w' J' => ?_
    refine ih _ a' w' (by simpa using hs) ?_ J'
    have := count_set ops.length (listedOf listed) _ i hlt h0 hset
    omega
theorem RunF.s_n {call : CallF} {ops : List Oper} {fls : List Nat} {base : Nat} {fr fr' : AFr} {σ σ' : AHeap} {tr : List (AFr × AHeap × Value)} {pl : List (List Fl)} {pe : List Fl} (R : RunF P call ops fls base ops 0 [] fr σ tr pl pe fr' σ') : trF tr fr' ops.length = fr' ∧ trS tr σ' ops.length = σ' ∧ trP pl pe ops.length = pe := by
  unfold trF trS trP
  rw [List.getElem?_eq_none (by rw [R.len]; exact Nat.le_refl _), List.getElem?_eq_none (by rw [R.plen]; exact Nat.le_refl _)]
  exact ⟨rfl, rfl, rfl⟩
theorem draw_anyF {gs : List Nat} {call : CallF} (hcall : CallS D P gs call) {ops : List Oper} {fls : List Nat} {base : Nat} (hok : ∀ o ∈ ops, operOk gs o = true) (hd : DrawOk P fls ops) {fr fr' : AFr} {σ σ' : AHeap} {tr : List (AFr × AHeap × Value)} {pl : List (List Fl)} {pe : List Fl} (R : RunF P call ops fls base ops 0 [] fr σ tr pl pe fr' σ') {σo : AHeap} (hbase : σo.next ≤ base) (hret : retold P call ops tr σ' (unruly P ops) = true)
    {ρ0 : Ren} {w0 : World} {a0 : Act} {Q : Exit → Act → World → Prop} (hK : Cont D P ρ0 σo w0 a0 fr' (landAll base pe σ') (Q .normal)) :
    ∀ (fuel : Nat) (listed : Array Bool) (a : Act) (w : World), listed.size = ops.length → ((List.range ops.length).countP fun j => !listedOf listed j) = fuel → StandsF D P gs ops fls base tr pl pe fr σ' ρ0 σo w0 a0 (listedOf listed) a w → wpAny P .any ops.toArray Q fuel listed a w := by
  -- all is done
  have done : ∀ (listed : Array Bool) (a : Act) (w : World), (∀ j, j < ops.length → listedOf listed j = true) → StandsF D P gs ops fls base tr pl pe fr σ' ρ0 σo w0 a0 (listedOf listed) a w → Q .normal a w := by
    intro listed a w hall J
    obtain ⟨hcl, hdf, hsz, ρ, k, hk, hact, hR, hE, hG, ht1, ht2, hA, hnx⟩ := J
    have hs := R.same (ops.length - k) k (by omega) (fun j o h1 h2 h3 ha => Classical.byContradiction fun hj => by
      have := (hact j o h3 ha hj).1 (hall j (by omega)); omega)
    rw [show k + (ops.length - k) = ops.length by omega] at hs
    have hn := R.s_n
    have hin : ∀ f ∈ pe, AsideAt pl pe k f ∧ listedOf listed f.p = true := fun f hf => by
      have hf : f ∈ trP pl pe ops.length := by rw [hn.2.2]; exact hf
      exact ⟨R.back' hk (Nat.le_refl _) hf, hall _ ((R.pend _ (Nat.le_refl _)).1 f hf).1⟩
    have hnd : (pe.map (·.p)).Nodup := by have := (R.pend _ (Nat.le_refl _)).2; rwa [hn.2.2] at this
    have hR := hR.landAll (base := base) (n0 := w0.heap.size) pe hnd (fun f hf => hA.held f (hin f hf).1 (hin f hf).2) (fun f g hf hg => hA.apart f g (hin f hf).1 (hin g hg).1 (hin f hf).2 (hin g hg).2)
    have hE := hE.landAll (base := base) pe (fun f hf => hA.held f (hin f hf).1 (hin f hf).2)
    rw [hn.2.1] at hs
    rw [← hs] at hR hE
    refine hK ρ a w ⟨?_, fun t => ?_⟩ hdf hR hE
    · rw [hsz, ← hn.1, R.f_n _ (Nat.le_refl _)]
    · obtain ⟨f1, f2⟩ := R.f_at hd t ops.length (Nat.le_refl _)
      rw [hn.1] at f1 f2
      by_cases hex : ∃ (j : Nat) (oj : Oper), ops[j]? = some oj ∧ oj.dst = some t
      · obtain ⟨j, oj, hj, hdj⟩ := hex
        have hlt := (List.getElem?_eq_some_iff.1 hj).1
        rw [f1 j oj hlt hj hdj]
        split
        · rename_i htn; exact ht1 j oj t hj hdj (hall j hlt) htn
        · rename_i htn; exact ht2 t (.inr htn)
      · rw [f2 fun j oj hlt hj hdj => hex ⟨j, oj, hj, hdj⟩]
        exact ht2 t (.inl fun j oj hj hdj => absurd ⟨j, oj, hj, hdj⟩ hex)
  have both : ∀ (listed : Array Bool) (j : Nat), listed.size = ops.length → j < ops.length → listed.getD j true = listedOf listed j := fun listed j h1 h2 => by
    unfold listedOf; simp [h1, h2]
  -- who is not done and stands first is ready
  have first : ∀ (listed : Array Bool), listed.size = ops.length → Region.ready .any ops.toArray listed = [] → ∀ j, j < ops.length → listedOf listed j = true := by
    intro listed hs hr j
    induction j using Nat.strongRecOn with
    | _ j ih =>
      intro hj
      cases hl : listedOf listed j with
      | true => rfl
      | false =>
        obtain ⟨o, ho⟩ : ∃ o, ops[j]? = some o := ⟨ops[j]'hj, List.getElem?_eq_getElem hj⟩
        have : j ∈ Region.ready .any ops.toArray listed := by
          rw [mem_ready]
          refine ⟨by rw [both listed j hs hj, hl], o, by rw [List.getElem?_toArray]; exact ho, fun e he hbd => ?_⟩
          have hlt := hd.back j o ho e (Array.mem_toList_iff.2 he) hbd
          exact ih e.on hlt (by omega)
        rw [hr] at this
        cases this
  intro fuel
  induction fuel with
  | zero =>
    intro listed a w hs hc J
    have hall : ∀ j, j < ops.length → listedOf listed j = true := fun j hj => by
      have := List.countP_eq_zero.1 hc j (List.mem_range.2 hj)
      simpa using this
    refine ⟨?_, done listed a w hall J⟩
    cases hr : Region.ready .any ops.toArray listed with
    | nil => rfl
    | cons i r =>
      have hi : i ∈ Region.ready .any ops.toArray listed := by rw [hr]; simp
      obtain ⟨h0, o, ho, _⟩ := mem_ready.1 hi
      rw [List.getElem?_toArray] at ho
      have hlt := (List.getElem?_eq_some_iff.1 ho).1
      rw [both listed i hs hlt, hall i hlt] at h0
      cases h0
  | succ fuel ih =>
    intro listed a w hs hc J
    refine ⟨fun hr => done listed a w (first listed hs hr) J, fun i hi => ?_⟩
    obtain ⟨h0, o, ho, hpre⟩ := mem_ready.1 hi
    rw [List.getElem?_toArray] at ho
    have hlt := (List.getElem?_eq_some_iff.1 ho).1
    rw [both listed i hs hlt] at h0
    have hset : ∀ j, listedOf (listed.setIfInBounds i true) j = if j = i then true else listedOf listed j := fun j => by
      unfold listedOf
      simp only [Array.getD_eq_getD_getElem?]
      rw [Array.getElem?_setIfInBounds]
      by_cases e : i = j
      · subst e; simp [hs, hlt]
      · rw [if_neg e, if_neg (Ne.symm e)]
    refine draw_stepF hcall hok hd R hbase hret J ho h0 (fun e he hbd => hpre e (Array.mem_toList_iff.1 he) hbd) hset fun a' w' J' => ?_
    refine ih _ a' w' (by simpa using hs) ?_ J'
    have := count_set ops.length (listedOf listed) _ i hlt h0 hset
    omega
theorem regionF_sound {gs : List Nat} {call : CallF} (hmix : P.follows .mixedOrders = true) (hcall : CallS D P gs call) {id : Nat} {ops : Array Oper} {fls : List Nat} (hok : ∀ o ∈ ops.toList, operOk gs o = true) {fr fr' : AFr} {σ σ' : AHeap} (h : regionF P call ops.toList fls fr σ = some (fr', σ'))
    {ρ : Ren} {a : Act} {w : World} {Q : Exit → Act → World → Prop} (hF : FR P ρ fr a.tmps) (hG : Gl gs ρ) (hR : Rel P ρ σ w) (hK : Cont D P ρ σ w a fr' σ' (Q .normal)) : (Code.region id ops true).wp P Q a w := by
  unfold regionF at h
  split at h
  · cases h
  · rename_i hd
    have hd := drawOk_spec hd
    split at h
    · rename_i tr pl pe fr2 σ2 ht
      split at h
      · rename_i hret
        simp only [Option.some.injEq, Prod.mk.injEq] at h
        obtain ⟨rfl, rfl⟩ := h
        have R := runFl_run _ _ _ _ _ _ _ _ _ _ ht
        refine wp_region_any hmix ?_
        have hK' : Cont D P ρ σ w.drew a fr2 (landAll σ.next pe σ2) (Q .normal) := fun ρ' a' w' h1 h2 h3 h4 => hK ρ' a' w' h1 h2 h3 (Ext.drew.trans h4)
        have hz : ∀ j, listedOf (Array.replicate ops.size false) j = false := fun j => by
          unfold listedOf
          rcases Nat.lt_or_ge j ops.size with q | q
          · simp [q]
          · simp [q]
        have hR1 : Rel P ρ ⟨σ.next + ops.toList.length, σ.m⟩ w.drew := ⟨fun b hb => hR.drew.dom b (by have : σ.next + ops.toList.length ≤ b := hb; omega), hR.drew.lt, hR.drew.obj, hR.drew.inj⟩
        have hE1 : Ext D ρ σ w.drew ρ ⟨σ.next + ops.toList.length, σ.m⟩ w.drew := ⟨Ren.le_refl _, Nat.le_add_right _ _, Nat.le_refl _, rfl, rfl, rfl, fun _ _ _ => rfl, fun _ _ h => h, fun _ _ => rfl, fun _ _ h _ => h, fun _ => Nat.le_refl _⟩
        have J : StandsF D P gs ops.toList fls σ.next tr pl pe fr σ2 ρ σ w.drew a (listedOf (Array.replicate ops.size false)) a w.drew := by
          refine ⟨fun j b hb hj => ?_, rfl, hF.size, ρ, 0, Nat.zero_le _, fun j o _ _ _ => ?_, ?_, ?_, hG, fun i o t _ _ hl => ?_, fun t _ => hF.at_ t, ⟨fun p _ _ _ => hR.dom _ (Nat.le_add_right _ _), fun f _ hl => ?_, fun f g _ _ hl => ?_⟩, ?_⟩
          · rw [hz] at hj; cases hj
          · rw [hz]; simp
          · rw [R.s0]; exact hR1
          · rw [R.s0]; exact hE1
          · rw [hz] at hl; cases hl
          · rw [hz] at hl; cases hl
          · rw [hz] at hl; cases hl
          · rw [R.s0]; exact Nat.le_refl _
        have hcount : ((List.range ops.toList.length).countP fun j => !listedOf (Array.replicate ops.size false) j) = ops.toList.length := by
          have : ((List.range ops.toList.length).countP fun j => !listedOf (Array.replicate ops.size false) j) = (List.range ops.toList.length).countP fun _ => true := by
            congr 1; funext j; rw [hz]; rfl
          rw [this, List.countP_true, List.length_range]
        have := draw_anyF hcall hok hd R (Nat.le_refl _) hret hK' ops.toList.length (Array.replicate ops.size false) a w.drew (by simp) hcount J
        simpa using this
      · cases h
    · cases h
theorem region_sound {gs : List Nat} {call : CallF} (hmix : P.follows .mixedOrders = true) (hcall : CallS D P gs call) {id : Nat} {ops : Array Oper} {draw : Bool} (hok : ∀ o ∈ ops.toList, operOk gs o = true) {fr fr' : AFr} {σ σ' : AHeap} (h : region' P call ops.toList draw fr σ = some (fr', σ'))
    {ρ : Ren} {a : Act} {w : World} {Q : Exit → Act → World → Prop} (hF : FR P ρ fr a.tmps) (hG : Gl gs ρ) (hR : Rel P ρ σ w) (hK : Cont D P ρ σ w a fr' σ' (Q .normal)) : (Code.region id ops draw).wp P Q a w := by
  unfold region' at h
  split at h
  · have := runOps_sound hcall (Q := Q) ops.toList fr σ fr' σ' hok h ρ a w hF hG hR hK
    exact wp_region_list this
  · split at h
    · exact regionF_sound hmix hcall hok h hF hG hR hK
    · rename_i hd
      have hd := drawOk_spec hd
      have go : ∀ tr, runTr P call ops.toList ops.toList fr σ = some (tr, fr', σ') → retold P call ops.toList tr σ' (unruly P ops.toList) = true → (Code.region id ops true).wp P Q a w := by
        intro tr ht hret
        have R := runTr_run _ _ _ _ _ _ ht
        refine wp_region_any hmix ?_
        have hK' : Cont D P ρ σ w.drew a fr' σ' (Q .normal) := fun ρ' a' w' h1 h2 h3 h4 => hK ρ' a' w' h1 h2 h3 (Ext.drew.trans h4)
        have hz : ∀ j, listedOf (Array.replicate ops.size false) j = false := fun j => by
          unfold listedOf
          rcases Nat.lt_or_ge j ops.size with q | q
          · simp [q]
          · simp [q]
        have J : Stands D P gs ops.toList tr fr σ' ρ σ w.drew a (listedOf (Array.replicate ops.size false)) a w.drew := by
          refine ⟨fun j b hb hj => ?_, rfl, hF.size, ρ, 0, Nat.zero_le _, fun j o _ _ => ?_, ?_, ?_, hG, fun i o t _ _ hl => ?_, fun t _ => hF.at_ t⟩
          · rw [hz] at hj; cases hj
          · rw [hz]; simp
          · rw [R.s0]; exact hR.drew
          · rw [R.s0]; exact .refl _ _ _
          · rw [hz] at hl; cases hl
        have hcount : ((List.range ops.toList.length).countP fun j => !listedOf (Array.replicate ops.size false) j) = ops.toList.length := by
          have : ((List.range ops.toList.length).countP fun j => !listedOf (Array.replicate ops.size false) j) = (List.range ops.toList.length).countP fun _ => true := by
            congr 1; funext j; rw [hz]; rfl
          rw [this, List.countP_true, List.length_range]
        have := draw_any hcall hok hd R hret hK' ops.toList.length (Array.replicate ops.size false) a w.drew (by simp) hcount J
        simpa using this
      split at h
      · rename_i hu
        obtain ⟨tr, ht⟩ := runTr_of _ _ _ _ h
        exact go tr ht (by rw [hu]; rfl)
      · split at h
        · rename_i tr fr2 σ2 ht
          split at h
          · rename_i hret
            cases h
            exact go tr ht hret
          · cases h
        · cases h

/-! Code. -/
def AExit.up : AExit → Exit
  | .normal => .normal
  | .exit id => .exit id
  | .ret => .ret
def ContE (D : Prop) (P : Program) (ρ : Ren) (σ : AHeap) (w : World) (a : Act) (e : AExit) (fr' : AFr) (σ' : AHeap) (Q : Exit → Act → World → Prop) : Prop := Cont D P ρ σ w a fr' σ' (Q e.up)
theorem exec_sound {gs : List Nat} {call : CallF} (hmix : P.follows .mixedOrders = true) (hcall : CallS D P gs call) (n : Nat) : ∀ (c : Code) (fr : AFr) (σ : AHeap) (e : AExit) (fr' : AFr) (σ' : AHeap), codeOk gs c = true → exec P call n c fr σ = some (e, fr', σ') →
    ∀ (ρ : Ren) (a : Act) (w : World) (Q : Exit → Act → World → Prop), FR P ρ fr a.tmps → Gl gs ρ → Rel P ρ σ w → ContE D P ρ σ w a e fr' σ' Q → c.wp P Q a w := by
  intro c
  induction c with
  | skip =>
    intro fr σ e fr' σ' _ h ρ a w Q hF hG hR hK
    simp only [exec, Option.some.injEq, Prod.mk.injEq] at h
    obtain ⟨rfl, rfl, rfl⟩ := h
    exact wp_skip (hK ρ a w hF rfl hR (.refl _ _ _))
  | label l =>
    intro fr σ e fr' σ' _ h ρ a w Q hF hG hR hK
    simp only [exec, Option.some.injEq, Prod.mk.injEq] at h
    obtain ⟨rfl, rfl, rfl⟩ := h
    exact wp_label (hK ρ a w hF rfl hR (.refl _ _ _))
  | region id ops draw =>
    intro fr σ e fr' σ' hok h ρ a w Q hF hG hR hK
    simp only [exec] at h
    split at h
    · rename_i f s hr
      cases h
      exact region_sound hmix hcall (fun o ho => List.all_eq_true.1 hok o ho) hr hF hG hR hK
    · cases h
  | seq x y ihx ihy =>
    intro fr σ e fr' σ' hok h ρ a w Q hF hG hR hK
    simp only [codeOk, Bool.and_eq_true] at hok
    simp only [exec] at h
    split at h
    · rename_i f s hx
      refine wp_seq (ihx _ _ _ _ _ hok.1 hx ρ a w _ hF hG hR ?_)
      intro ρ1 a1 w1 hF1 hd1 hR1 hE1
      refine ihy _ _ _ _ _ hok.2 h ρ1 a1 w1 Q hF1 (hG.mono hE1.ren) hR1 ?_
      intro ρ2 a2 w2 hF2 hd2 hR2 hE2
      exact hK ρ2 a2 w2 hF2 (hd2.trans hd1) hR2 (hE1.trans hE2)
    · rename_i hne
      refine wp_seq (ihx _ _ _ _ _ hok.1 h ρ a w _ hF hG hR ?_)
      intro ρ1 a1 w1 hF1 hd1 hR1 hE1
      cases e with
      | normal => exact absurd h (hne fr' σ')
      | exit id => exact hK ρ1 a1 w1 hF1 hd1 hR1 hE1
      | ret => exact hK ρ1 a1 w1 hF1 hd1 hR1 hE1
  | cond c x y ihx ihy =>
    intro fr σ e fr' σ' hok h ρ a w Q hF hG hR hK
    simp only [codeOk, Bool.and_eq_true] at hok
    have hc := eval_sound (P := P) hok.1.1 hG fun t _ => hF.at_ t
    simp only [exec] at h
    split at h
    · rename_i ec; rw [ec] at hc; exact wp_cond_true hc.bool_inv (ihx _ _ _ _ _ hok.1.2 h ρ a w Q hF hG hR hK)
    · rename_i ec; rw [ec] at hc; exact wp_cond_false hc.bool_inv (ihy _ _ _ _ _ hok.2 h ρ a w Q hF hG hR hK)
    · cases h
  | block id x ih =>
    intro fr σ e fr' σ' hok h ρ a w Q hF hG hR hK
    simp only [exec] at h
    split at h
    · rename_i id' f s hx
      refine wp_block (ih _ _ _ _ _ hok hx ρ a w _ hF hG hR ?_)
      intro ρ1 a1 w1 hF1 hd1 hR1 hE1
      split at h
      · rename_i he
        cases h
        simp only [AExit.up, Exit.inBlock, Nat.eq_of_beq_eq_true he, if_true]
        exact hK ρ1 a1 w1 hF1 hd1 hR1 hE1
      · rename_i he
        cases h
        have hne : ¬ id' = id := fun q => by rw [q, Nat.beq_refl] at he; cases he
        simp only [AExit.up, Exit.inBlock, hne, if_false]
        exact hK ρ1 a1 w1 hF1 hd1 hR1 hE1
    · rename_i hne
      refine wp_block (ih _ _ _ _ _ hok h ρ a w _ hF hG hR ?_)
      intro ρ1 a1 w1 hF1 hd1 hR1 hE1
      cases e with
      | normal => exact hK ρ1 a1 w1 hF1 hd1 hR1 hE1
      | exit id' => exact absurd h (hne id' fr' σ')
      | ret => exact hK ρ1 a1 w1 hF1 hd1 hR1 hE1
  | loop x ih =>
    intro fr σ e fr' σ' hok h ρ a w Q hF hG hR hK
    simp only [exec] at h
    refine wp_loop_rounds n ?_
    have key : ∀ (m : Nat) (fr : AFr) (σ : AHeap) (ρ : Ren) (a : Act) (w : World), loopN (exec P call n x) m fr σ = some (e, fr', σ') → FR P ρ fr a.tmps → Gl gs ρ → Rel P ρ σ w → ContE D P ρ σ w a e fr' σ' Q → Code.rounds P x Q m a w := by
      intro m
      induction m with
      | zero => intro fr σ ρ a w h; simp [loopN] at h
      | succ m ihm =>
        intro fr σ ρ a w h hF hG hR hK
        rw [loopN] at h
        rw [rounds_succ]
        split at h
        · rename_i f s hx
          refine ih _ _ _ _ _ hok hx ρ a w _ hF hG hR ?_
          intro ρ1 a1 w1 hF1 hd1 hR1 hE1
          refine ihm f s ρ1 a1 w1 h hF1 (hG.mono hE1.ren) hR1 ?_
          intro ρ2 a2 w2 hF2 hd2 hR2 hE2
          exact hK ρ2 a2 w2 hF2 (hd2.trans hd1) hR2 (hE1.trans hE2)
        · rename_i hne
          refine ih _ _ _ _ _ hok h ρ a w _ hF hG hR ?_
          intro ρ1 a1 w1 hF1 hd1 hR1 hE1
          cases e with
          | normal => exact absurd h (hne fr' σ')
          | exit id => exact hK ρ1 a1 w1 hF1 hd1 hR1 hE1
          | ret => exact hK ρ1 a1 w1 hF1 hd1 hR1 hE1
    exact key n fr σ ρ a w h hF hG hR hK
  | exit id =>
    intro fr σ e fr' σ' _ h ρ a w Q hF hG hR hK
    simp only [exec, Option.some.injEq, Prod.mk.injEq] at h
    obtain ⟨rfl, rfl, rfl⟩ := h
    exact wp_exit (hK ρ a w hF rfl hR (.refl _ _ _))
  | ret =>
    intro fr σ e fr' σ' _ h ρ a w Q hF hG hR hK
    simp only [exec, Option.some.injEq, Prod.mk.injEq] at h
    obtain ⟨rfl, rfl, rfl⟩ := h
    exact wp_ret (hK ρ a w hF rfl hR (.refl _ _ _))
  | scope x ih =>
    intro fr σ e fr' σ' hok h ρ a w Q hF hG hR hK
    simp only [exec] at h
    refine wp_scope_straight (ih _ _ _ _ _ hok h ρ a w _ hF hG hR ?_)
    intro ρ1 a1 w1 hF1 hd1 hR1 hE1
    have := hK ρ1 a1 w1 hF1 hd1 hR1 hE1
    cases e <;> exact this
  | _ =>
    intro fr σ e fr' σ' _ h
    simp [exec] at h
end Go.AE
end
/- Calls: what the evaluator tells of a function is what the model comes to. -/
section
set_option linter.all false
namespace Go.AE
open Go.RowKit
variable {D : Prop} {P : Program} {ρ : Ren} {σ : AHeap} {w : World}

theorem resOne_sound (hR : Rel P ρ σ w) {fr : AFr} {tmps : Array Value} (hF : FR P ρ fr tmps) {r : ResultVar} {v : Value} (h : resOne P fr σ r = some v) :
    ∃ v', (match r with | .tmp t => pure (tmps.getD t undef) | .cell a t => do loadVar t (← asAddr (tmps.getD a undef)) : Sem Value).run P w = .ok v' w ∧ VR P ρ v v' := by
  cases r with
  | tmp t => simp only [resOne, Option.some.injEq] at h; subst h; exact ⟨_, rfl, hF.at_ t⟩
  | cell a t =>
    simp only [resOne] at h
    split at h
    · rename_i b off e
      have ha := hF.at_ a
      rw [e] at ha
      obtain ⟨m, hm, _, e2⟩ := ha.ptr_inv
      obtain ⟨v', h1, h2⟩ := hR.ldVar h hm
      exact ⟨v', by simp only [e2, asAddr, Sem.run_bind, Sem.run_pure, Result.andThen_ok]; exact h1, h2⟩
    · cases h
theorem resAll_sound (hR : Rel P ρ σ w) {fr : AFr} {tmps : Array Value} (hF : FR P ρ fr tmps) : ∀ (rs : List ResultVar) (vs : List Value), resAll P fr σ rs = some vs →
    ∃ vs', (rs.mapM fun (r : ResultVar) => (match r with | .tmp t => pure (tmps.getD t undef) | .cell a t => do loadVar t (← asAddr (tmps.getD a undef)) : Sem Value)).run P w = .ok vs' w ∧ LR P ρ vs vs'
  | [], vs, h => by simp only [resAll, Option.some.injEq] at h; subst h; exact ⟨[], by simp, .nil⟩
  | r :: rs, vs, h => by
    rw [resAll] at h
    split at h
    · rename_i v us h1 h2
      cases h
      obtain ⟨v', g1, g2⟩ := resOne_sound hR hF h1
      obtain ⟨us', g3, g4⟩ := resAll_sound hR hF rs us h2
      refine ⟨v' :: us', ?_, .cons g2 g4⟩
      rw [List.mapM_cons, Sem.run_bind, g1, Result.andThen_ok, Sem.run_bind, g3]
      rfl
    · cases h
theorem results_sound (hR : Rel P ρ σ w) {fr : AFr} {tmps : Array Value} (hF : FR P ρ fr tmps) {fn : Func} {v : Value} (h : results' P fn fr σ = some v) : ∃ v', (results fn tmps).run P w = .ok v' w ∧ VR P ρ v v' := by
  have go : ∀ {vs : List Value}, resAll P fr σ fn.results.toList = some vs → ∃ vs', (fn.results.mapM fun (r : ResultVar) => (match r with | .tmp t => pure (tmps.getD t undef) | .cell a t => do loadVar t (← asAddr (tmps.getD a undef)) : Sem Value)).run P w = .ok vs'.toArray w ∧ LR P ρ vs vs' := fun {vs} e => by
    obtain ⟨vs', h1, h2⟩ := resAll_sound hR hF _ _ e
    refine ⟨vs', ?_, h2⟩
    rw [Array.mapM_eq_mapM_toList, Sem.run_map, h1]
    rfl
  unfold results' at h
  split at h
  · rename_i u e
    cases h
    obtain ⟨vs', h1, h2⟩ := go e
    obtain ⟨v', r, rfl, hv, hr⟩ := h2.cons_inv
    have := hr.nil_inv
    subst this
    refine ⟨v', ?_, hv⟩
    unfold results
    rw [Sem.run_bind]
    erw [h1]
    rfl
  · rename_i vs hne e
    cases h
    obtain ⟨vs', h1, h2⟩ := go e
    refine ⟨.tuple vs'.toArray, ?_, VR.tuple_iff (by simpa using h2)⟩
    unfold results
    rw [Sem.run_bind]
    erw [h1]
    have : ¬ vs'.toArray.size = 1 := fun q => by
      have hl := h2.len
      simp at q
      rw [q] at hl
      obtain ⟨x, hx⟩ : ∃ x, vs = [x] := by
        cases vs with
        | nil => simp at hl
        | cons x r => cases r with | nil => exact ⟨x, rfl⟩ | cons => simp at hl
      exact hne x hx
    simp only [Result.andThen_ok, this, dite_false, Sem.run_pure]
  · cases h

/-- What is told beside the text is right too. -/
def OrcS (D : Prop) (P : Program) (gs : List Nat) (orc : Orc) : Prop := ∀ f g, orc f = some g → ∀ args σ v σ', g args σ = some (v, σ') → ∀ ρ w args', Gl gs ρ → LR P ρ args args' → Rel P ρ σ w → Calls P f args'.toArray w (CallPost D P ρ σ w v σ')
theorem acall_sound {gs : List Nat} {orc : Orc} (hmix : P.follows .mixedOrders = true) (ho : OrcS D P gs orc) : ∀ n, CallS D P gs (acall P gs orc n)
  | 0 => fun f args σ v σ' h => by simp [acall] at h
  | n + 1 => fun f args σ v σ' h ρ w args' hG hl hR => by
    have ih := acall_sound hmix ho n
    rw [acall] at h
    dsimp only at h
    split at h
    · rename_i g hg; exact ho f g hg args σ v σ' h ρ w args' hG hl hR
    · split at h
      · cases h
      · rename_i fn hf
        split at h
        · cases h
        · rename_i c hb
          split at h
          · cases h
          · rename_i hok
            have hF : FR P ρ ⟨max fn.ntmps args.length, Tr.ofList args 0 .leaf⟩ (args'.toArray ++ Array.replicate (fn.ntmps - args'.toArray.size) undef) := by
              refine ⟨by simp [hl.len]; omega, fun t => ?_⟩
              show VR P ρ (((Tr.ofList args 0 .leaf).get t).getD undef) _
              rw [Tr.get_of, Array.getD_eq_getD_getElem?, Array.getElem?_append]
              by_cases ht : t < args.length
              · have ht' : t < args'.length := by rw [← hl.len]; exact ht
                rw [if_pos (by simpa using ht')]
                have := hl.at_ t _ _ (List.getElem?_eq_getElem ht) (List.getElem?_eq_getElem ht')
                rw [List.getElem?_eq_getElem ht, List.getElem?_toArray, List.getElem?_eq_getElem ht']
                exact this
              · rw [List.getElem?_eq_none (by omega), if_neg (by simp; rw [← hl.len]; omega)]
                have : (Array.replicate (fn.ntmps - args'.toArray.size) undef)[t - args'.toArray.size]?.getD undef = undef := by
                  rw [Array.getElem?_replicate]; split <;> rfl
                rw [this]
                exact .undef
            have fin : ∀ (e : AExit) (fr' : AFr), e = .normal ∨ e = .ret → exec P (acall P gs orc n) n c ⟨max fn.ntmps args.length, Tr.ofList args 0 .leaf⟩ σ = some (e, fr', σ') → results' P fn fr' σ' = some v → Calls P f args'.toArray w (CallPost D P ρ σ w v σ') := by
              intro e fr' he hx hr
              refine calls_of_wp hf hb (exec_sound hmix ih n c _ σ e fr' σ' hok hx ρ _ w _ hF hG hR ?_)
              intro ρ' a' w' hF' hd' hR' hE'
              obtain ⟨v', h1, h2⟩ := results_sound hR' hF' hr
              have : a'.defers = [] ∧ ∃ v, (results fn a'.tmps).run P w' = .ok v w' ∧ CallPost D P ρ σ w _ _ (.returned v) w' := ⟨hd', v', h1, ρ', v', rfl, h2, hR', hE'⟩
              rcases he with rfl | rfl <;> exact this
            split at h
            · rename_i fr' s hx
              split at h
              · rename_i u hr
                cases h
                exact fin .normal fr' (.inl rfl) hx hr
              · cases h
            · rename_i fr' s hx
              split at h
              · rename_i u hr
                cases h
                exact fin .ret fr' (.inr rfl) hx hr
              · cases h
            · cases h

theorem OrcS.none {gs : List Nat} : OrcS D P gs (fun _ => .none) := fun f g h => by cases h
end Go.AE
end
/- What is told beside the text: a table of contracts. -/
section
set_option linter.all false
namespace Go.AE
open Go.RowKit
variable {D : Prop} {P : Program} {ρ : Ren} {σ : AHeap} {w : World}

theorem Rel.below (h : Rel P ρ σ w) {w' : World} (hb : Below w.heap.size w w') : Rel P ρ σ w' :=
  ⟨h.dom, fun b m hm => Nat.lt_of_lt_of_le (h.lt b m hm) hb.size, fun b o hg => by obtain ⟨m, hm, ho⟩ := h.obj b o hg; exact ⟨m, hm, ho.of_heap (hb.block _ (h.lt b m hm))⟩, h.inj⟩
theorem Ext.below {w' : World} (hb : Below w.heap.size w w') (hd : D → w.drawn ≤ w'.drawn) : Ext D ρ σ w ρ σ w' :=
  ⟨Ren.le_refl _, Nat.le_refl _, hb.size, hb.os, hb.tape, hb.output, fun k hk _ => hb.block k hk, fun _ _ h => h, fun _ _ => rfl, fun _ _ h _ => h, hd⟩

/-- One function's contract, as the evaluator takes it. -/
def Told (D : Prop) (P : Program) (gs : List Nat) (f : FuncId) (g : List Value → AHeap → Option (Value × AHeap)) : Prop :=
  ∀ args σ v σ', g args σ = some (v, σ') → ∀ ρ w args', Gl gs ρ → LR P ρ args args' → Rel P ρ σ w → Calls P f args'.toArray w (CallPost D P ρ σ w v σ')
/-- A table of contracts. -/
def orcs : List (FuncId × (List Value → AHeap → Option (Value × AHeap))) → Orc
  | [], _ => none
  | (k, g) :: l, f => match k.beq f with
    | true => some g
    | false => orcs l f
theorem OrcS.nil {gs : List Nat} : OrcS D P gs (orcs []) := fun f g h => by simp [orcs] at h
theorem OrcS.cons {gs : List Nat} {k : FuncId} {g : List Value → AHeap → Option (Value × AHeap)} {l : List (FuncId × (List Value → AHeap → Option (Value × AHeap)))} (h : Told D P gs k g) (hl : OrcS D P gs (orcs l)) : OrcS D P gs (orcs ((k, g) :: l)) := fun f u hu => by
  rw [orcs] at hu
  cases hk : k.beq f with
  | true =>
    rw [hk] at hu
    simp only [Option.some.injEq] at hu
    subst hu
    obtain rfl : k = f := Nat.eq_of_beq_eq_true hk
    exact h
  | false => rw [hk] at hu; exact hl f u hu

/-- Words alone in, words alone out, and nothing turns. -/
def still (g : List Value → Option Value) (args : List Value) (σ : AHeap) : Option (Value × AHeap) := match args.all atom with
  | true => match g args with
    | some v => match atom v with
      | true => some (v, σ)
      | false => none
    | none => none
  | false => none
theorem Told.still {gs : List Nat} {f : FuncId} {g : List Value → Option Value} (h : ∀ args v, g args = some v → ∀ w, Calls P f args.toArray w fun e w' => e = .returned v ∧ Below w.heap.size w w') : Told False P gs f (still g) := by
  intro args σ v σ' hs ρ w args' hG hl hR
  unfold AE.still at hs
  split at hs
  · rename_i ha
    split at hs
    · rename_i u hu
      split at hs
      · rename_i hat
        cases hs
        have he : args' = args := hl.eq_of fun x x' hx hr => hr.atom_inv (List.all_eq_true.1 ha x hx)
        subst he
        refine (h args' v hu w).mono fun e w' ⟨he, hb⟩ => ?_
        exact ⟨ρ, v, he, .atom hat, hR.below hb, .below hb False.elim⟩
      · cases hs
    · cases hs
  · cases hs

end Go.AE
end
/- What is told beside the text: slices.Sorted(maps.Keys(m)) at keys that are strings. -/
section
set_option linter.all false
namespace Go.AE
open Go.RowKit Go.Maps Go.Sort
open Go.Proofs (encStr)
variable {D : Prop} {P : Program} {ρ : Ren} {σ : AHeap} {w : World}

/-! A block that a call has made. -/
/-! Words in order. -/
/-! The keys of an abstract map. -/
/-- Rising stamps below the clock. -/
def bornB (clock : Nat) : List MapEntry → Nat → Bool
  | [], _ => true
  | e :: r, n => n.ble e.born && e.born.blt clock && bornB clock r (e.born + 1)
end Go.AE
end
/- Closed functions over memory that holds the listed variables. -/
section
set_option linter.all false
namespace Go.AE
open Go.RowKit
variable {D : Prop} {P : Program}

/-- Rows that are only read, each at its own number. -/
def roHeap (next : Nat) : List (Nat × TypeId × List Value) → AHeap
  | [] => ⟨next, .leaf⟩
  | (g, e, vs) :: l => (roHeap next l).set g (.cells vs.length (Tr.ofList vs 0 .leaf) e false true)
def roRen (w : World) (l : List (Nat × TypeId × List Value)) : Ren := fun b => match w.heap[b]? with
  | some (.cells cs e _) => if b ∈ l.map (·.1) then some ⟨b, 0, e, cs.size, false⟩ else none
  | _ => none
theorem roHeap_next (next : Nat) : ∀ l, (roHeap next l).next = next
  | [] => rfl
  | (_, _, _) :: l => roHeap_next next l
theorem roHeap_get (next : Nat) : ∀ (l : List (Nat × TypeId × List Value)) (b : Nat) (o : AObj), (roHeap next l).get b = some o → ∃ x ∈ l, x.1 = b ∧ o = .cells x.2.2.length (Tr.ofList x.2.2 0 .leaf) x.2.1 false true
  | [], b, o, h => by simp [roHeap, AHeap.get, Tr.get] at h
  | (g, e, vs) :: l, b, o, h => by
    rw [roHeap, AHeap.get_set] at h
    split at h
    · rename_i hb; cases h; exact ⟨(g, e, vs), by simp, hb.symm, rfl⟩
    · obtain ⟨x, hx, h1, h2⟩ := roHeap_get next l b o h
      exact ⟨x, by simp [hx], h1, h2⟩
/-- What the memory holds there. -/
def RoAt (w : World) (x : Nat × TypeId × List Value) : Prop := (∃ cs fz, w.heap[x.1]? = some (.cells cs x.2.1 fz) ∧ ∀ (i : Nat) (v : Value), x.2.2[i]? = some v → cs[i]? = some v) ∧ x.2.2.all atom = true
theorem Rel.ro {w : World} {next : Nat} {l : List (Nat × TypeId × List Value)} (hn : ∀ x ∈ l, x.1 < next) (h : ∀ x ∈ l, RoAt w x) : Rel P (roRen w l) (roHeap next l) w := by
  refine ⟨fun b hb => ?_, fun b m hm => ?_, fun b o ho => ?_, fun b1 b2 o1 o2 m1 m2 e1 _ _ _ hr _ => ?_⟩
  · rw [roHeap_next] at hb
    unfold roRen
    split
    · rw [if_neg]
      intro hm
      obtain ⟨x, hx, he⟩ := List.mem_map.1 hm
      have := hn x hx
      omega
    · rfl
  · unfold roRen at hm
    split at hm
    · rename_i cs e fz hb
      split at hm
      · cases hm; exact (Array.getElem?_eq_some_iff.1 hb).1
      · cases hm
    · cases hm
  · obtain ⟨x, hx, hb, rfl⟩ := roHeap_get next l b o ho
    subst hb
    obtain ⟨⟨cs, fz, hb, hv⟩, hat⟩ := h x hx
    refine ⟨⟨x.1, 0, x.2.1, cs.size, false⟩, ?_, rfl, rfl, cs, fz, hb, rfl, (fun q => by cases q), fun i v hi => ?_⟩
    · unfold roRen
      rw [hb]
      simp only
      rw [if_pos (List.mem_map_of_mem hx)]
    · rw [Tr.get_of] at hi
      exact ⟨v, hv i v hi, .atom (List.all_eq_true.1 hat v (List.mem_of_getElem? hi))⟩
  · obtain ⟨x, _, _, rfl⟩ := roHeap_get next l b1 o1 e1
    cases hr
end Go.AE
end
