/- The steps of memory: reading, writing, making. -/
import Derived.Test.YtongccpmdndcgaaGreatDoorEngC
namespace Go.AE
set_option linter.unusedVariables false
set_option linter.unusedSimpArgs false
variable {P : Program} {ρ : Ren} {σ : AHeap} {w : World}

theorem ObjR.of_heap {w' : World} {m : Img} {o : AObj} (h : w'.heap[m.blk]? = w.heap[m.blk]?) (k : ObjR P ρ w m o) : ObjR P ρ w' m o := by
  cases o <;> simp only [ObjR, h] at k ⊢ <;> exact k
theorem ELR.mono {ρ' : Ren} (hle : ρ.le ρ') {x x' : List MapEntry} (h : ELR P ρ x x') : ELR P ρ' x x' :=
  ⟨h.len, fun i e e' a b => let k := h.at_ i e e' a b; ⟨k.key.mono hle, k.val.mono hle, k.born⟩⟩
theorem ObjR.mono {ρ' : Ren} (hle : ρ.le ρ') {m : Img} {o : AObj} (k : ObjR P ρ w m o) : ObjR P ρ' w m o := by
  cases o with
  | cells n c e g ro => obtain ⟨h1, h2, c', fz, h3, h4, h5, h6⟩ := k; exact ⟨h1, h2, c', fz, h3, h4, h5, fun i v hv => by obtain ⟨v', a, b⟩ := h6 i v hv; exact ⟨v', a, b.mono hle⟩⟩
  | map es cl ro => obtain ⟨h1, es', h2, h3⟩ := k; exact ⟨h1, es', h2, h3.mono hle⟩
  | strIter s p => exact k
  | mapIter r a b c => obtain ⟨h1, r', h2, h3⟩ := k; exact ⟨h1, r', h2, h3.mono hle⟩

/-- The same heap in another world. -/
theorem Rel.of_heap {w' : World} (h : Rel P ρ σ w) (he : w'.heap = w.heap) : Rel P ρ σ w' :=
  ⟨h.dom, fun b m hb => by rw [he]; exact h.lt b m hb, fun b o hb => by obtain ⟨m, hm, ho⟩ := h.obj b o hb; exact ⟨m, hm, ho.of_heap (by rw [he])⟩, h.inj⟩
theorem Ext.of_heap {w' : World} (he : w'.heap = w.heap) (h1 : w'.os = w.os) (h2 : w'.tape = w.tape) (h3 : w'.output = w.output) : Ext ρ σ w ρ σ w' :=
  ⟨Ren.le_refl _, Nat.le_refl _, by rw [he]; exact Nat.le_refl _, h1, h2, h3, fun k _ _ => by rw [he], fun _ _ h => h, fun _ _ => rfl, fun _ _ h _ => h⟩

theorem Rel.drop (h : Rel P ρ σ w) (b : Nat) : Rel P ρ (σ.drop b) w := by
  have sub : ∀ {b' o}, (σ.drop b).get b' = some o → σ.get b' = some o := fun {b' o} e => by
    rw [AHeap.get_drop] at e; split at e
    · cases e
    · exact e
  exact ⟨h.dom, h.lt, fun b' o e => h.obj b' o (sub e), fun b1 b2 o1 o2 m1 m2 e1 e2 => h.inj b1 b2 o1 o2 m1 m2 (sub e1) (sub e2)⟩
theorem Ext.drop (b : Nat) : Ext ρ σ w ρ (σ.drop b) w :=
  ⟨Ren.le_refl _, Nat.le_refl _, Nat.le_refl _, rfl, rfl, rfl, fun _ _ _ => rfl, fun k _ ⟨b', o, m, hg, hr, hm, hk⟩ => ⟨b', o, m, by
    rw [AHeap.get_drop] at hg; split at hg
    · cases hg
    · exact hg, hr, hm, hk⟩, fun _ _ => rfl, fun b' o hg _ => by
    rw [AHeap.get_drop] at hg; split at hg
    · cases hg
    · exact hg⟩

theorem Rel.upd (h : Rel P ρ σ w) {b : Nat} {o o' : AObj} {m : Img} (hg : σ.get b = some o) (hro : o.ro = false) (hm : ρ b = some m) {w' : World} (hsz : w'.heap.size = w.heap.size)
    (hoth : ∀ k, k ≠ m.blk → w'.heap[k]? = w.heap[k]?) (ho : ObjR P ρ w' m o') (hro' : o'.ro = false) : Rel P ρ (σ.set b o') w' := by
  refine ⟨h.dom, fun b m hb => by rw [hsz]; exact h.lt b m hb, fun b' o2 e => ?_, fun b1 b2 o1 o2 m1 m2 e1 e2 k1 k2 hr he => ?_⟩
  · rw [AHeap.get_set] at e
    split at e
    · rename_i hb; subst hb; cases e; exact ⟨m, hm, ho⟩
    · rename_i hb
      obtain ⟨m2, hm2, ho2⟩ := h.obj b' o2 e
      refine ⟨m2, hm2, ho2.of_heap (hoth _ fun he => hb ?_)⟩
      exact (h.inj b b' o o2 m m2 hg e hm hm2 hro he.symm).symm
  · rw [AHeap.get_set] at e1 e2
    split at e1 <;> split at e2
    · rename_i a c; rw [a, c]
    · rename_i a c; subst a; exact h.inj _ _ o o2 m1 m2 hg e2 k1 k2 hro he
    · rename_i a c; subst c; exact h.inj _ _ o1 o m1 m2 e1 hg k1 k2 hr he
    · exact h.inj _ _ o1 o2 m1 m2 e1 e2 k1 k2 hr he
theorem Ext.upd {b : Nat} {o o' : AObj} {m : Img} (hg : σ.get b = some o) (hro : o.ro = false) (hm : ρ b = some m) {w' : World} (hsz : w'.heap.size = w.heap.size)
    (hoth : ∀ k, k ≠ m.blk → w'.heap[k]? = w.heap[k]?) (h1 : w'.os = w.os) (h2 : w'.tape = w.tape) (h3 : w'.output = w.output) (hro' : o'.ro = false) : Ext ρ σ w ρ (σ.set b o') w' := by
  refine ⟨Ren.le_refl _, Nat.le_refl _, by rw [hsz]; exact Nat.le_refl _, h1, h2, h3, fun k _ hn => hoth k fun e => hn ⟨b, o, m, hg, hro, hm, e.symm⟩, fun k _ ⟨b', o2, m2, e, hr, hm2, hk⟩ => ?_, fun _ _ => rfl, fun b' o2 e hr => ?_⟩
  · rw [AHeap.get_set] at e
    split at e
    · rename_i hb; subst hb; exact ⟨_, o, m2, hg, hro, hm2, hk⟩
    · exact ⟨b', o2, m2, e, hr, hm2, hk⟩
  · rw [AHeap.get_set] at e
    split at e
    · cases e; rw [hro'] at hr; cases hr
    · exact e

def Ren.add (ρ : Ren) (b : Nat) (m : Img) : Ren := fun b' => if b' = b then some m else ρ b'
theorem Ren.le_add {b : Nat} {m : Img} (h : ρ b = none) : ρ.le (ρ.add b m) := fun b' m' hb => by
  unfold Ren.add; split
  · rename_i e; subst e; rw [h] at hb; cases hb
  · exact hb
theorem Ren.add_same {b : Nat} {m : Img} : (ρ.add b m) b = some m := by simp [Ren.add]

theorem Rel.new (h : Rel P ρ σ w) {o : AObj} {c : Obj} {m : Img} (hblk : m.blk = w.heap.size) (ho : ObjR P (ρ.add σ.next m) (w.alloc c) m o) : Rel P (ρ.add σ.next m) (σ.new o).2 (w.alloc c) := by
  have hfree : ρ σ.next = none := h.dom _ (Nat.le_refl _)
  have hle := Ren.le_add (m := m) hfree
  have old : ∀ k, k < w.heap.size → (w.alloc c).heap[k]? = w.heap[k]? := fun k hk => by
    simp only [World.alloc, Array.getElem?_push]
    rw [if_neg (by omega)]
  refine ⟨fun b hb => ?_, fun b m' hb => ?_, fun b o' e => ?_, fun b1 b2 o1 o2 m1 m2 e1 e2 k1 k2 hr he => ?_⟩
  · simp only [AHeap.next_new] at hb
    unfold Ren.add
    rw [if_neg (by omega)]
    exact h.dom b (by omega)
  · simp only [World.size_alloc]
    unfold Ren.add at hb
    split at hb
    · cases hb; omega
    · have := h.lt b m' hb; omega
  · rw [AHeap.get_new] at e
    split at e
    · rename_i hb; subst hb; cases e; exact ⟨m, Ren.add_same, ho⟩
    · obtain ⟨m2, hm2, ho2⟩ := h.obj b o' e
      exact ⟨m2, hle _ _ hm2, (ho2.of_heap (old _ (h.lt b m2 hm2))).mono hle⟩
  · rw [AHeap.get_new] at e1 e2
    unfold Ren.add at k1 k2
    split at e1 <;> split at e2
    · rename_i a b; rw [a, b]
    · rename_i a b; rw [if_pos a] at k1; rw [if_neg b] at k2; cases k1; have := h.lt b2 m2 k2; omega
    · rename_i a b; rw [if_neg a] at k1; rw [if_pos b] at k2; cases k2; have := h.lt b1 m1 k1; omega
    · rename_i a b; rw [if_neg a] at k1; rw [if_neg b] at k2; exact h.inj b1 b2 o1 o2 m1 m2 e1 e2 k1 k2 hr he
theorem Ext.new (h : Rel P ρ σ w) {o : AObj} {c : Obj} {m : Img} (hro : o.ro = false) (hblk : m.blk = w.heap.size) : Ext ρ σ w (ρ.add σ.next m) (σ.new o).2 (w.alloc c) := by
  refine ⟨Ren.le_add (h.dom _ (Nat.le_refl _)), by simp, by simp, rfl, rfl, rfl, fun k hk _ => ?_, fun k hk ⟨b, o', m', e, hr, hm, hb⟩ => ?_, fun b hb => by unfold Ren.add; rw [if_neg (by omega)], fun b o' e hr => by
    rw [AHeap.get_new] at e
    split at e
    · cases e; rw [hro] at hr; cases hr
    · exact e⟩
  · simp only [World.alloc, Array.getElem?_push]
    rw [if_neg (by omega)]
  · rw [AHeap.get_new] at e
    unfold Ren.add at hm
    split at e
    · rename_i a; rw [if_pos a] at hm; cases hm; omega
    · rename_i a; rw [if_neg a] at hm; exact ⟨b, o', m', e, hr, hm, hb⟩

/-- A row that grew in place: its abstract block is dropped, a new one stands for the same place. -/
theorem Rel.regrow (h : Rel P ρ σ w) {b : Nat} {o o' : AObj} {m m' : Img} (hg : σ.get b = some o) (hro : o.ro = false) (hm : ρ b = some m) (hblk : m'.blk = m.blk) {w' : World} (hsz : w'.heap.size = w.heap.size)
    (hoth : ∀ k, k ≠ m.blk → w'.heap[k]? = w.heap[k]?) (ho : ObjR P (ρ.add σ.next m') w' m' o') : Rel P (ρ.add σ.next m') ((σ.drop b).new o').2 w' := by
  have hfree : ρ σ.next = none := h.dom _ (Nat.le_refl _)
  have hle := Ren.le_add (m := m') hfree
  have sub : ∀ {b' o2}, (σ.drop b).get b' = some o2 → σ.get b' = some o2 ∧ b' ≠ b := fun {b' o2} e => by
    rw [AHeap.get_drop] at e; split at e
    · cases e
    · rename_i hb; exact ⟨e, hb⟩
  refine ⟨fun b' hb => ?_, fun b' m2 hb => ?_, fun b' o2 e => ?_, fun b1 b2 o1 o2 m1 m2 e1 e2 k1 k2 hr he => ?_⟩
  · simp only [AHeap.next_new, AHeap.next_drop] at hb
    unfold Ren.add
    rw [if_neg (by omega)]
    exact h.dom b' (by omega)
  · rw [hsz]
    unfold Ren.add at hb
    split at hb
    · cases hb; rw [hblk]; exact h.lt b m hm
    · exact h.lt b' m2 hb
  · rw [AHeap.get_new] at e
    change (if b' = σ.next then some o' else (σ.drop b).get b') = some o2 at e
    split at e
    · rename_i hb; subst hb; cases e; exact ⟨m', Ren.add_same, ho⟩
    · obtain ⟨e, hne⟩ := sub e
      obtain ⟨m2, hm2, ho2⟩ := h.obj b' o2 e
      exact ⟨m2, hle _ _ hm2, (ho2.of_heap (hoth _ fun he => hne (h.inj b b' o o2 m m2 hg e hm hm2 hro he.symm).symm)).mono hle⟩
  · rw [AHeap.get_new] at e1 e2
    change (if b1 = σ.next then some o' else (σ.drop b).get b1) = some o1 at e1
    change (if b2 = σ.next then some o' else (σ.drop b).get b2) = some o2 at e2
    unfold Ren.add at k1 k2
    split at e1 <;> split at e2
    · rename_i a c; rw [a, c]
    · rename_i a c; rw [if_pos a] at k1; rw [if_neg c] at k2; cases k1; obtain ⟨e2, hne⟩ := sub e2; exact absurd (h.inj b b2 o o2 m m2 hg e2 hm k2 hro (hblk.symm.trans he)).symm hne
    · rename_i a c; rw [if_neg a] at k1; rw [if_pos c] at k2; cases k2; obtain ⟨e1, hne⟩ := sub e1; exact absurd (h.inj b1 b o1 o m1 m e1 hg k1 hm hr (he.trans hblk)) hne
    · rename_i a c; rw [if_neg a] at k1; rw [if_neg c] at k2; exact h.inj b1 b2 o1 o2 m1 m2 (sub e1).1 (sub e2).1 k1 k2 hr he
theorem Ext.regrow (h : Rel P ρ σ w) {b : Nat} {o o' : AObj} {m m' : Img} (hro' : o'.ro = false) (hg : σ.get b = some o) (hro : o.ro = false) (hm : ρ b = some m) (hblk : m'.blk = m.blk) {w' : World} (hsz : w'.heap.size = w.heap.size)
    (hoth : ∀ k, k ≠ m.blk → w'.heap[k]? = w.heap[k]?) (h1 : w'.os = w.os) (h2 : w'.tape = w.tape) (h3 : w'.output = w.output) : Ext ρ σ w (ρ.add σ.next m') ((σ.drop b).new o').2 w' := by
  refine ⟨Ren.le_add (h.dom _ (Nat.le_refl _)), by simp, by rw [hsz]; exact Nat.le_refl _, h1, h2, h3, fun k _ hn => hoth k fun e => hn ⟨b, o, m, hg, hro, hm, e.symm⟩, fun k hk ⟨b', o2, m2, e, hr, hm2, hb⟩ => ?_, fun b' hb => by unfold Ren.add; rw [if_neg (by omega)], fun b' o2 e hr => by
    rw [AHeap.get_new] at e
    change (if b' = σ.next then some o' else (σ.drop b).get b') = some o2 at e
    split at e
    · cases e; rw [hro'] at hr; cases hr
    · rw [AHeap.get_drop] at e
      split at e
      · cases e
      · exact e⟩
  rw [AHeap.get_new] at e
  change (if b' = σ.next then some o' else (σ.drop b).get b') = some o2 at e
  unfold Ren.add at hm2
  split at e
  · rename_i a; rw [if_pos a] at hm2; cases hm2; exact ⟨b, o, m, hg, hro, hm, hblk.symm.trans hb⟩
  · rename_i a; rw [if_neg a] at hm2
    rw [AHeap.get_drop] at e
    split at e
    · cases e
    · exact ⟨b', o2, m2, e, hr, hm2, hb⟩

/-! Reading. -/
theorem cell_of {c : Array Value} {e : TypeId} {fz : Nat × Nat} {k i : Nat} (h : w.heap[k]? = some (.cells c e fz)) : w.cell? ⟨k, i, none⟩ = c[i]? := by
  simp [World.cell?, h]
theorem Rel.cell (h : Rel P ρ σ w) {b n off : Nat} {c : Tr Value} {e : TypeId} {g ro : Bool} {v : Value} {m : Img} (hg : σ.get b = some (.cells n c e g ro)) (hv : c.get off = some v) (hm : ρ b = some m) :
    ∃ v', w.cell? ⟨m.blk, off + m.shift, none⟩ = some v' ∧ VR P ρ v v' := by
  obtain ⟨m2, hm2, _, _, c', fz, hh, _, _, hc⟩ := h.obj b _ hg
  rw [hm] at hm2; cases hm2
  obtain ⟨v', a, r⟩ := hc off v hv
  exact ⟨v', by rw [cell_of hh]; exact a, r⟩
theorem Rel.ldN (h : Rel P ρ σ w) {b n off k : Nat} {c : Tr Value} {e : TypeId} {g ro : Bool} {vs : List Value} {m : Img} (hg : σ.get b = some (.cells n c e g ro)) (hv : AE.ldN c off k = some vs) (hm : ρ b = some m) :
    ∃ vs' : List Value, LR P ρ vs vs' ∧ ∀ j v, vs'[j]? = some v → w.cell? ⟨m.blk, off + m.shift + j, none⟩ = some v := by
  obtain ⟨hl, hat⟩ := ldN_spec c k off vs hv
  have ex : ∀ j, j < k → ∃ u, w.cell? ⟨m.blk, off + m.shift + j, none⟩ = some u := fun j hj => by
    obtain ⟨v, hvj⟩ : ∃ v, vs[j]? = some v := ⟨vs[j]'(by omega), List.getElem?_eq_getElem (by omega)⟩
    obtain ⟨u, hu, _⟩ := h.cell hg (hat j v hvj) hm
    exact ⟨u, by rw [show off + m.shift + j = off + j + m.shift by omega]; exact hu⟩
  refine ⟨(List.range k).map fun j => (w.cell? ⟨m.blk, off + m.shift + j, none⟩).getD undef, ⟨by simp [hl], fun j v v' a b => ?_⟩, fun j v a => ?_⟩
  · obtain ⟨u, hu, hr⟩ := h.cell hg (hat j v a) hm
    have hj : j < k := by rw [← hl]; exact (List.getElem?_eq_some_iff.1 a).1
    rw [List.getElem?_map, List.getElem?_range hj] at b
    simp only [Option.map_some, Option.some.injEq] at b
    rw [show off + m.shift + j = off + j + m.shift by omega, hu] at b
    simp at b; subst b; exact hr
  · have hj : j < k := by have := (List.getElem?_eq_some_iff.1 a).1; simpa using this
    rw [List.getElem?_map, List.getElem?_range hj] at a
    simp only [Option.map_some, Option.some.injEq] at a
    obtain ⟨u, hu⟩ := ex j hj
    rw [hu] at a ⊢
    simp at a; rw [a]
theorem addr_add (k i j : Nat) : (⟨k, i, none⟩ : Addr).add j = ⟨k, i + j, none⟩ := by unfold Addr.add; split <;> simp_all
theorem run_loadCells' {k i : Nat} {vs : List Value} (h : ∀ j v, vs[j]? = some v → w.cell? ⟨k, i + j, none⟩ = some v) : (loadCells ⟨k, i, none⟩ vs.length).run P w = .ok vs.toArray w :=
  run_loadCells_list w _ vs fun j v hv => by rw [addr_add]; exact h j v hv
theorem Rel.ldCells (h : Rel P ρ σ w) {b off k : Nat} {vs : List Value} {m : Img} (hv : AE.ldCells σ b off k = some vs) (hm : ρ b = some m) :
    vs.length = k ∧ ∃ vs' : List Value, LR P ρ vs vs' ∧ ∀ j v, vs'[j]? = some v → w.cell? ⟨m.blk, off + m.shift + j, none⟩ = some v := by
  unfold AE.ldCells at hv
  split at hv
  · cases hv; exact ⟨rfl, [], .nil, fun j v h => by simp at h⟩
  · split at hv
    · rename_i hg; exact ⟨(ldN_spec _ _ _ _ hv).1, h.ldN hg hv hm⟩
    · cases hv
theorem info_size {t : TypeId} {n : Nat} (h : sizeOf' P t = some n) : (sizeOf t).run P w = .ok n w := by
  unfold sizeOf' at h
  cases hi : P.info? t with
  | none => simp [hi] at h
  | some i => simp [hi] at h; simp [sizeOf, typeInfo, hi, h]
theorem zeroOf_info {t : TypeId} {z : Value} (h : zeroOf P t = some z) : (∃ i, P.info? t = some i ∧ i.zero = some z) ∧ plain z = true := by
  unfold zeroOf at h
  split at h
  · rename_i i hi
    split at h
    · rename_i z' hz
      split at h
      · rename_i hp; cases h; exact ⟨⟨i, hi, hz⟩, hp⟩
      · cases h
    · cases h
  · cases h
theorem info_zero {t : TypeId} {z : Value} (h : zeroOf P t = some z) : (zeroValue t).run P w = .ok z w := by
  obtain ⟨⟨i, hi, hz⟩, _⟩ := zeroOf_info h
  simp [zeroValue, typeInfo, hi, hz]
theorem run_under {t : TypeId} {d : TypeDesc} (h : P.underlying t = some d) : (underlying t).run P w = .ok d w := by simp [underlying, h]
theorem info_agg {t : TypeId} {b : Bool} (h : isAgg' P t = some b) : (isAgg t).run P w = .ok b w := by
  unfold isAgg' at h
  cases hu : P.underlying t with
  | none => rw [hu] at h; simp at h
  | some d => rw [hu] at h; simp only [isAgg, Sem.run_bind, run_under hu, Result.andThen_ok]; cases d <;> simp_all
theorem Rel.ldVar (h : Rel P ρ σ w) {t : TypeId} {b off : Nat} {v : Value} {m : Img} (hv : AE.ldVar P t σ b off = some v) (hm : ρ b = some m) :
    ∃ v', (loadVar t ⟨m.blk, off + m.shift, none⟩).run P w = .ok v' w ∧ VR P ρ v v' := by
  unfold AE.ldVar at hv
  split at hv
  · rename_i ha
    split at hv
    · rename_i n hn
      cases hl : AE.ldCells σ b off n with
      | none => rw [hl] at hv; simp at hv
      | some vs =>
        rw [hl] at hv; simp at hv; subst hv
        obtain ⟨hlen, vs', hlr, hc⟩ := h.ldCells hl hm
        refine ⟨.agg vs'.toArray, ?_, VR.agg_iff (by simpa using hlr)⟩
        simp only [loadVar, Sem.run_bind, info_agg ha, Result.andThen_ok, if_true, info_size hn]
        rw [show n = vs'.length by rw [← hlr.len]; exact hlen.symm, run_loadCells' hc]
        rfl
    · cases hv
  · rename_i ha
    unfold AE.ld at hv
    split at hv
    · rename_i hg
      obtain ⟨v', hc, hr⟩ := h.cell hg hv hm
      refine ⟨v', ?_, hr⟩
      simp only [loadVar, Sem.run_bind, info_agg ha, Result.andThen_ok, Bool.false_eq_true, if_false, run_load, hc]
    · cases hv
  · cases hv

/-! Writing. -/
theorem setCells_heap (b : Nat) : ∀ (vs : List Value) (o : Nat) (w : World) (c : Array Value) (e : TypeId) (fz : Nat × Nat), w.heap[b]? = some (.cells c e fz) →
    ∃ c', (w.setCells b o vs).heap[b]? = some (.cells c' e fz) ∧ c'.size = c.size ∧ ∀ i, c'[i]? = if o ≤ i ∧ i < o + vs.length ∧ i < c.size then vs[i - o]? else c[i]?
  | [], o, w, c, e, fz, h => ⟨c, h, rfl, fun i => by rw [if_neg (by simp; omega)]⟩
  | v :: vs, o, w, c, e, fz, h => by
    have h1 : (w.setCell ⟨b, o, none⟩ v).heap[b]? = some (.cells (c.setIfInBounds o v) e fz) := by simp [World.setCell, Array.getElem?_modify, h]
    obtain ⟨c', h2, h3, h4⟩ := setCells_heap b vs (o + 1) _ _ e fz h1
    refine ⟨c', h2, by simpa using h3, fun i => ?_⟩
    rw [h4 i]
    simp only [Array.size_setIfInBounds, List.length_cons]
    by_cases hi : o + 1 ≤ i ∧ i < o + 1 + vs.length ∧ i < c.size
    · rw [if_pos hi, if_pos (by omega)]
      obtain ⟨k, hk⟩ : ∃ k, i - o = k + 1 := ⟨i - o - 1, by omega⟩
      rw [hk, show i - (o + 1) = k by omega]
      simp
    · rw [if_neg hi, Array.getElem?_setIfInBounds]
      by_cases he : o = i
      · subst he
        rw [if_pos rfl]
        by_cases hl : o < c.size
        · rw [if_pos hl, if_pos (by omega)]; simp
        · rw [if_neg hl, if_neg (by omega), Array.getElem?_eq_none (by omega)]
      · rw [if_neg he, if_neg (by omega)]
theorem setCells_other (b : Nat) : ∀ (vs : List Value) (o : Nat) (w : World) (k : Nat), k ≠ b → (w.setCells b o vs).heap[k]? = w.heap[k]?
  | [], _, _, _, _ => rfl
  | v :: vs, o, w, k, h => by
    rw [World.setCells, setCells_other b vs (o + 1) _ k h]
    simp [World.setCell, Array.getElem?_modify, Ne.symm h]
theorem setCells_rest (b : Nat) : ∀ (vs : List Value) (o : Nat) (w : World), (w.setCells b o vs).heap.size = w.heap.size ∧ (w.setCells b o vs).os = w.os ∧ (w.setCells b o vs).tape = w.tape ∧ (w.setCells b o vs).output = w.output
  | [], _, _ => ⟨rfl, rfl, rfl, rfl⟩
  | v :: vs, o, w => by obtain ⟨a, b', c, d⟩ := setCells_rest b vs (o + 1) (w.setCell ⟨b, o, none⟩ v); exact ⟨by rw [World.setCells, a]; simp, b', c, d⟩
theorem frozen_of {c : Array Value} {e : TypeId} {fz : Nat × Nat} {k i : Nat} (h : w.heap[k]? = some (.cells c e fz)) (ht : thaw fz c.size) (hi : i < c.size) : w.frozen? ⟨k, i, none⟩ = false := by
  simp only [World.frozen?, h]
  rcases ht with rfl | ⟨h1, h2⟩
  · simp
  · simp; omega
/-- The model's store into cells that exist. -/
theorem run_store_row {c : Array Value} {e : TypeId} {fz : Nat × Nat} {k o : Nat} {vs : List Value} (h : w.heap[k]? = some (.cells c e fz)) (ht : thaw fz c.size) (hi : o + vs.length ≤ c.size) (h1 : ∀ v ∈ vs, v.oneCell' = true) :
    (storeCells ⟨k, o, none⟩ vs).run P w = .ok () (w.setCells k o vs) := by
  have := run_storeCells_cells (P := P) k o vs 0 w (fun j hj => by
    rw [cell_of h, Array.getElem?_eq_getElem (by omega)]; rfl) (fun j hj => frozen_of h ht (by omega)) h1
  simpa using this
theorem Rel.stCells (h : Rel P ρ σ w) {b off : Nat} {vs vs' : List Value} {σ' : AHeap} {m : Img} (hs : AE.stCells σ b off vs = some σ') (hm : ρ b = some m) (hl : LR P ρ vs vs') :
    ∃ w', (storeCells ⟨m.blk, off + m.shift, none⟩ vs').run P w = .ok () w' ∧ Rel P ρ σ' w' ∧ Ext ρ σ w ρ σ' w' := by
  unfold AE.stCells at hs
  split at hs
  · cases hs; rw [hl.nil_inv]; exact ⟨w, rfl, h, .refl _ _ _⟩
  · rename_i hne
    split at hs
    · rename_i n c e g hg
      split at hs
      · rename_i c' hst
        cases hs
        obtain ⟨h1, h2, h3⟩ := stN_spec vs c off c' hst
        obtain ⟨m2, hm2, he, hgr, d, fz, hh, hsz, hth, hc⟩ := h.obj b _ hg
        rw [hm] at hm2; cases hm2
        have hlen : vs.length = vs'.length := hl.len
        have hin : ∀ j, j < vs.length → off + m.shift + j < d.size := fun j hj => by
          obtain ⟨v, hv⟩ := Option.isSome_iff_exists.1 (h2 j hj)
          obtain ⟨v', hv', _⟩ := hc _ _ hv
          have := (Array.getElem?_eq_some_iff.1 hv').1
          omega
        have hpos : 0 < vs.length := by cases vs with | nil => exact absurd rfl hne | cons => simp
        have hbd : off + m.shift + vs'.length ≤ d.size := by have := hin (vs.length - 1) (by omega); omega
        have one : ∀ v ∈ vs', v.oneCell' = true := fun v' hv' => by
          obtain ⟨i, hi⟩ := List.getElem?_of_mem hv'
          obtain ⟨v, hv, hr⟩ := hl.get' hi
          rw [hr.single]; exact h1 v (List.mem_of_getElem? hv)
        have hrun := run_store_row (P := P) hh (by rw [hsz]; exact (hth rfl).1) hbd one
        obtain ⟨d', hd', hds, hdc⟩ := setCells_heap m.blk vs' (off + m.shift) w d e fz hh
        obtain ⟨r1, r2, r3, r4⟩ := setCells_rest m.blk vs' (off + m.shift) w
        refine ⟨_, hrun, h.upd hg rfl hm r1 (fun k hk => setCells_other _ _ _ _ k hk) ⟨he, hgr, d', fz, hd', by rw [hds, hsz], hth, fun i v hv => ?_⟩ rfl, .upd hg rfl hm r1 (fun k hk => setCells_other _ _ _ _ k hk) r2 r3 r4 rfl⟩
        rw [h3 i] at hv
        split at hv
        · rename_i hi
          obtain ⟨v', hv', hr⟩ := hl.get hv
          have hj := hin (i - off) (by omega)
          refine ⟨v', ?_, hr⟩
          rw [hdc, if_pos (by omega), show i + m.shift - (off + m.shift) = i - off by omega]
          exact hv'
        · rename_i hi
          obtain ⟨v', hv', hr⟩ := hc i v hv
          refine ⟨v', ?_, hr⟩
          rw [hdc, if_neg (by omega)]
          exact hv'
      · cases hs
    · cases hs

/-! Making. -/
theorem heap_new (w : World) (c : Obj) : (w.alloc c).heap[w.heap.size]? = some c := by
  show (w.heap.push c)[w.heap.size]? = some c
  exact Array.getElem?_push_size
theorem Rel.newCells (h : Rel P ρ σ w) (e : TypeId) (g : Bool) {vs vs' : List Value} (hl : LR P ρ vs vs') (extra : List Value) (fz : Nat × Nat) (hfz : thaw fz (vs' ++ extra).length) :
    Rel P (ρ.add σ.next ⟨w.heap.size, 0, e, (vs' ++ extra).length, g⟩) (AE.newCells σ e vs g).2 (w.alloc (.cells (vs' ++ extra).toArray e fz)) ∧
    Ext ρ σ w (ρ.add σ.next ⟨w.heap.size, 0, e, (vs' ++ extra).length, g⟩) (AE.newCells σ e vs g).2 (w.alloc (.cells (vs' ++ extra).toArray e fz)) := by
  have hfree : ρ σ.next = none := h.dom _ (Nat.le_refl _)
  refine ⟨h.new rfl ⟨rfl, rfl, (vs' ++ extra).toArray, fz, heap_new _ _, by simp, fun _ => ⟨hfz, fun _ => rfl⟩, fun i v hv => ?_⟩, .new h rfl rfl⟩
  rw [Tr.get_of] at hv
  obtain ⟨v', hv', hr⟩ := hl.get hv
  refine ⟨v', ?_, hr.mono (Ren.le_add hfree)⟩
  have := (List.getElem?_eq_some_iff.1 hv').1
  simp only [Nat.add_zero, List.getElem?_toArray]
  rw [List.getElem?_append_left this]
  exact hv'
theorem thaw_zero (n : Nat) : thaw (0, 0) n := .inl rfl
end Go.AE
