/- Every operation. -/
import Derived.Test.YtongccpmdndcgaaGreatDoorEngQ
namespace Go.AE
set_option linter.unusedVariables false
set_option linter.unusedSimpArgs false
variable {P : Program} {ρ : Ren} {σ : AHeap} {w : World}

/-- What a call may come to. -/
def CallPost (P : Program) (ρ : Ren) (σ : AHeap) (w : World) (v : Value) (σ' : AHeap) (e : Ending) (w' : World) : Prop :=
  ∃ ρ' v', e = .returned v' ∧ VR P ρ' v v' ∧ Rel P ρ' σ' w' ∧ Ext ρ σ w ρ' σ' w'
/-- The calls of an evaluation are the model's. The globals that are named stand where they are. -/
def Gl (gs : List Nat) (ρ : Ren) : Prop := ∀ g, g ∈ gs → ∃ m, ρ g = some m ∧ m.blk = g ∧ m.shift = 0
theorem Gl.mono {gs : List Nat} {ρ' : Ren} (h : Gl gs ρ) (hle : ρ.le ρ') : Gl gs ρ' := fun g hg => by obtain ⟨m, a, b⟩ := h g hg; exact ⟨m, hle _ _ a, b⟩
def CallS (P : Program) (gs : List Nat) (call : CallF) : Prop := ∀ f args σ v σ', call f args σ = some (v, σ') → ∀ ρ w args', Gl gs ρ → LR P ρ args args' → Rel P ρ σ w → Calls P f args'.toArray w (CallPost P ρ σ w v σ')

theorem run_callFunc {f : FuncId} {args : Array Value} (h : enters P f = true) : (callFunc f args).run P w = .ok (.enter f args) w := by
  unfold enters at h
  split at h
  · rename_i fn hf
    simp only [Bool.and_eq_true, Bool.not_eq_true'] at h
    have hb : fn.body.isNone = false := by cases hq : fn.body <;> simp_all
    simp only [callFunc, Sem.run_bind, run_program, Result.andThen_ok, hf]
    rw [if_neg (by simp [h.2]), if_neg (by simp [hb])]
    rfl
  · cases h

theorem Out.wp {o : Oper} {a : Act} {v : Value} {σ' : AHeap} {K : Act → World → Prop} {Q : Exit → Act → World → Prop} (h : Out P ρ σ w v σ' ((execOp a.eval o).run P w))
    (hK : ∀ ρ' v' w', VR P ρ' v v' → Rel P ρ' σ' w' → Ext ρ σ w ρ' σ' w' → K (a.put o.dst v') w') : o.wp P a w K Q := by
  obtain ⟨ρ', v', w', hr, hv, hR, hE⟩ := h
  unfold Oper.wp
  rcases hr with hr | ⟨hr, rfl⟩
  · rw [hr]; exact hK ρ' v' w' hv hR hE
  · rw [hr]; exact hK ρ' undef w' hv hR hE
theorem Out.of_still (h : Rel P ρ σ w) {v v' : Value} {r : Result Next} (hr : r = .ok (.value v') w) (hv : VR P ρ v v') : Out P ρ σ w v σ r := ⟨ρ, v', w, .inl hr, hv, h, .refl _ _ _⟩
theorem map_pair {α : Type} {o : Option α} {σ' : AHeap} {v : α} (h : o.map (·, σ) = some (v, σ')) : o = some v ∧ σ' = σ := by
  cases o with
  | none => simp at h
  | some u => simp only [Option.map_some, Option.some.injEq, Prod.mk.injEq] at h; exact ⟨by rw [h.1], h.2.symm⟩
theorem map_undef {o : Option AHeap} {σ' : AHeap} {v : Value} (h : o.map (undef, ·) = some (v, σ')) : o = some σ' ∧ v = undef := by
  cases o with
  | none => simp at h
  | some u => simp only [Option.map_some, Option.some.injEq, Prod.mk.injEq] at h; exact ⟨by rw [h.2], h.1.symm⟩
theorem evals_LR {f g : Operand → Value} {xs : Array Operand} (h : ∀ x ∈ xs.toList, VR P ρ (f x) (g x)) : LR P ρ (xs.map f).toList (xs.map g).toList := by
  simp only [Array.toList_map]; exact .map h
theorem opt_OR {f g : Operand → Value} {x : Option Operand} (h : ∀ y ∈ x.toArray.toList, VR P ρ (f y) (g y)) : OR P ρ (x.map f) (x.map g) := by
  cases x with
  | none => exact ⟨fun _ => rfl, fun v h => by simp at h⟩
  | some y => exact ⟨fun h => by simp at h, fun v hv => by simp at hv; subst hv; exact ⟨_, rfl, h y (by simp)⟩⟩

set_option maxHeartbeats 1000000 in
/-- EVERY OPERATION OF THE EVALUATOR IS THE MODEL's. -/
theorem aop_sound {gs : List Nat} {call : CallF} (hcall : CallS P gs call) {o : Oper} {fr : AFr} {a : Act} {v : Value} {σ' : AHeap} (h : aop P call o fr σ = some (v, σ')) (hE : ∀ x ∈ o.op.operands.toList, VR P ρ (fr.eval x) (a.eval x)) (hG : Gl gs ρ) (hR : Rel P ρ σ w)
    {K : Act → World → Prop} {Q : Exit → Act → World → Prop} (hK : ∀ ρ' v' w', VR P ρ' v v' → Rel P ρ' σ' w' → Ext ρ σ w ρ' σ' w' → K (a.put o.dst v') w') : o.wp P a w K Q := by
  obtain ⟨dst, op, ty, pos, after, guard⟩ := o
  have fin : Out P ρ σ w v σ' ((execOp a.eval ⟨dst, op, ty, pos, after, guard⟩).run P w) → Oper.wp P ⟨dst, op, ty, pos, after, guard⟩ a w K Q := fun ho => ho.wp hK
  cases op
  case move x =>
    simp only [aop, Option.some.injEq, Prod.mk.injEq] at h; obtain ⟨rfl, rfl⟩ := h
    exact fin (.of_still hR rfl (hE x (by simp [Op.operands])))
  case assign x =>
    simp only [aop, Option.some.injEq, Prod.mk.injEq] at h; obtain ⟨rfl, rfl⟩ := h
    exact fin (.of_still hR rfl (hE x (by simp [Op.operands])))
  case pick c x y =>
    simp only [aop] at h
    have hc := hE c (by simp [Op.operands])
    split at h
    · rename_i e
      cases h
      rw [e] at hc
      exact fin (.of_still hR (v' := a.eval x) (by simp only [execOp]; rw [hc.bool_inv]; rfl) (hE x (by simp [Op.operands])))
    · rename_i e
      cases h
      rw [e] at hc
      exact fin (.of_still hR (v' := a.eval y) (by simp only [execOp]; rw [hc.bool_inv]; rfl) (hE y (by simp [Op.operands])))
    · cases h
  case alloc e =>
    simp only [aop] at h
    split at h
    · rename_i z hz; cases h; exact fin (alloc_out hz hR).out
    · cases h
  case box e x =>
    simp only [aop, Option.some.injEq] at h; cases h
    exact fin (box_out hR (hE x (by simp [Op.operands]))).out
  case build t parts =>
    simp only [aop] at h
    obtain ⟨h1, rfl⟩ := map_pair h
    have hps : ∀ p ∈ parts.toList, VR P ρ (fr.eval p.2) (a.eval p.2) := fun p hp => hE p.2 (by simp only [Op.operands]; exact List.mem_map_of_mem hp)
    refine fin (OutV.out (build_out h1 hR ?_ ?_))
    · simp
    · simp only [Array.toList_map, List.map_map]; exact .map hps
  case buildSlice t len parts =>
    simp only [aop] at h
    have hps : ∀ p ∈ parts.toList, VR P ρ (fr.eval p.2) (a.eval p.2) := fun p hp => hE p.2 (by simp only [Op.operands]; exact List.mem_map_of_mem hp)
    split at h
    · rename_i elem hu
      split at h
      · rename_i size z he
        split at h
        · rename_i hle
          split at h
          · rename_i cs hf
            cases h
            refine fin (OutV.out (buildSlice_out hu he (Nat.le_of_ble_eq_true hle) hf hR ?_ ?_))
            · simp
            · simp only [Array.toList_map, List.map_map]; exact .map hps
          · cases h
        · cases h
      · cases h
    · cases h
  case load t x =>
    simp only [aop] at h
    have hx := hE x (by simp [Op.operands])
    split at h
    · rename_i b off e
      obtain ⟨h1, rfl⟩ := map_pair h
      rw [e] at hx
      exact fin (load_out h1 hR hx).out
    · cases h
  case store t x y =>
    simp only [aop] at h
    have hx := hE x (by simp [Op.operands])
    have hy := hE y (by simp [Op.operands])
    split at h
    · rename_i b off e
      rw [e] at hx
      split at h
      · rename_i n hn
        split at h
        · rename_i hsz
          obtain ⟨h1, rfl⟩ := map_undef h
          exact fin (store_out hn hsz h1 hR hx hy).out
        · cases h
      · cases h
    · cases h
  case nilCheck x =>
    simp only [aop] at h
    have hx := hE x (by simp [Op.operands])
    split at h
    · rename_i ad e
      cases h
      rw [e] at hx
      obtain ⟨m, _, _, e2⟩ := hx.ptr_inv
      refine fin (.of_still hR (v' := a.eval x) ?_ hx)
      simp only [execOp]; rw [e2]; rfl
    · rename_i t u e
      cases h
      rw [e] at hx
      obtain ⟨u', e2, _⟩ := hx.iface_inv
      refine fin (.of_still hR (v' := a.eval x) ?_ hx)
      simp only [execOp]; rw [e2]; rfl
    all_goals first
      | (cases h; done)
      | (rename_i e
         cases h
         rw [e] at hx
         obtain ⟨y1, y2, e2, _, _⟩ := hx.func_inv
         refine fin (.of_still hR (v' := a.eval x) ?_ hx)
         simp only [execOp]; rw [e2]; rfl)
  case binOp op t x y yt =>
    simp only [aop] at h
    obtain ⟨h1, rfl⟩ := map_pair h
    exact fin (bin_out h1 hR (hE x (by simp [Op.operands])) (hE y (by simp [Op.operands]))).out
  case unOp op t x =>
    simp only [aop] at h
    obtain ⟨h1, rfl⟩ := map_pair h
    exact fin (un_out h1 hR (hE x (by simp [Op.operands]))).out
  case convert s d x =>
    simp only [aop] at h
    exact fin (conv_out h hR (hE x (by simp [Op.operands]))).out
  case sliceToArrayPointer arr x =>
    simp only [aop] at h
    have hx := hE x (by simp [Op.operands])
    split at h
    · rename_i n e ad len c hu ex
      rw [ex] at hx
      split at h
      · rename_i ad
        split at h
        · rename_i hsp
          split at h
          · rename_i hlt
            simp only [Bool.and_eq_true, Nat.ble_eq] at hlt
            have h0 : 0 < n := Nat.le_of_ble_eq_true hlt.1
            have hlt := hlt.2
            cases h
            rcases hx.slice_inv with ⟨m, c', s, hsp2, hm, hn, hc, hz, e2⟩ | ⟨m, a', hsp2, hm, hg, rfl, rfl, e2⟩ | ⟨k, a', hsp2, _⟩
            · obtain ⟨b, o, sp⟩ := ad
              simp only at hsp2 hm; subst hsp2
              refine fin (OutV.out (.same hR (.ptr hm) ?_))
              simp only [Instr.arrayAt, Sem.run_bind, run_under hu, Result.andThen_ok, e2]
              rw [if_neg (by omega)]; rfl
            · omega
            · rw [hsp] at hsp2; cases hsp2
          · cases h
        · cases h
      · cases h
    · cases h
  case makeInterface t x =>
    simp only [aop] at h
    split at h
    · cases h
    · rename_i d hd hu
      cases h
      exact fin (makeInterface_out hu (fun ms e => hd ms e) hR (hE x (by simp [Op.operands]))).out
    · cases h
  case makeFunc fn x y =>
    simp only [aop, Option.some.injEq] at h; cases h
    refine fin (OutV.out (.same hR (v' := .func fn (x.map a.eval) (y.map a.eval)) (VR.func_iff (evals_LR fun z hz => hE z (by simp [Op.operands]; exact .inl (by simpa using hz))) (evals_LR fun z hz => hE z (by simp [Op.operands]; exact .inr (by simpa using hz)))) ?_))
    rfl
  case makeMap t r =>
    simp only [aop] at h
    have mk : ∀ (r' : Option Value), (Instr.makeMap t r').run P w = .ok (.map (some w.heap.size)) (w.alloc (.map #[] 0)) → OutV P ρ σ w (.map (some (σ.new (.map [] 0 false)).1)) (σ.new (.map [] 0 false)).2 ((Instr.makeMap t r').run P w) := fun r' hr => by
      have ho : ObjR P (ρ.add σ.next ⟨w.heap.size, 0, 0, 0, false⟩) (w.alloc (.map #[] 0)) ⟨w.heap.size, 0, 0, 0, false⟩ (.map [] 0 false) := ⟨rfl, #[], heap_new _ _, .nil⟩
      exact ⟨_, _, _, hr, .map (m := ⟨w.heap.size, 0, 0, 0, false⟩) Ren.add_same, hR.new rfl ho, .new hR rfl rfl⟩
    split at h
    · cases h
      exact fin (mk none (by simp [Instr.makeMap])).out
    · rename_i hint
      split at h
      · rename_i kt et k n hu e
        cases h
        have hx := hE hint (by simp [Op.operands])
        rw [e] at hx
        refine fin (OutV.out (mk _ ?_))
        rw [show (some hint).map a.eval = some (.int k n) by simp [hx.int_inv]]
        simp [Instr.makeMap, run_under hu, asInt, run_asIntOf]
      · cases h
  case makeSlice t l c =>
    simp only [aop] at h
    have hl := hE l (by simp [Op.operands])
    have hc := hE c (by simp [Op.operands])
    split at h
    · rename_i elem ln cn hu e1 e2
      split at h
      · rename_i sz z he hb
        cases h
        simp only [Bool.and_eq_true, Nat.ble_eq] at hb
        obtain ⟨q1, kl, hkl⟩ := nat_inv e1 hl
        obtain ⟨q2, kc, hkc⟩ := nat_inv e2 hc
        exact fin (makeSlice_out hu he (q1.trans hkl) (q2.trans hkc) hb.1 hb.2 hR).out
      · cases h
    · cases h
  case slice t x lo hi mx =>
    simp only [aop] at h
    obtain ⟨h1, rfl⟩ := map_pair h
    refine fin (OutV.out (sliceOp_out h1 hR (hE x (by simp [Op.operands])) (opt_OR fun y hy => hE y ?_) (opt_OR fun y hy => hE y ?_) (opt_OR fun y hy => hE y ?_)))
    · simp [Op.operands]; exact .inr (.inl (by simpa using hy))
    · simp [Op.operands]; exact .inr (.inr (.inl (by simpa using hy)))
    · simp [Op.operands]; exact .inr (.inr (.inr (by simpa using hy)))
  case fieldAddr s x f =>
    simp only [aop] at h
    obtain ⟨h1, rfl⟩ := map_pair h
    exact fin (fieldAddr_out h1 hR (hE x (by simp [Op.operands]))).out
  case field t x f =>
    simp only [aop] at h
    obtain ⟨h1, rfl⟩ := map_pair h
    exact fin (fieldVal_out h1 hR (hE x (by simp [Op.operands]))).out
  case indexAddr t x ix =>
    simp only [aop] at h
    obtain ⟨h1, rfl⟩ := map_pair h
    exact fin (indexAddr_out h1 hR (hE x (by simp [Op.operands])) (hE ix (by simp [Op.operands]))).out
  case index t x ix =>
    simp only [aop] at h
    obtain ⟨h1, rfl⟩ := map_pair h
    exact fin (indexVal_out h1 hR (hE x (by simp [Op.operands])) (hE ix (by simp [Op.operands]))).out
  case lookup t x ix ok =>
    simp only [aop] at h
    obtain ⟨h1, rfl⟩ := map_pair h
    exact fin (lookup_out h1 hR (hE x (by simp [Op.operands])) (hE ix (by simp [Op.operands]))).out
  case mapUpdate t m k x =>
    simp only [aop] at h
    obtain ⟨h1, rfl⟩ := map_undef h
    exact fin (mapPut_out h1 hR (hE m (by simp [Op.operands])) (hE k (by simp [Op.operands])) (hE x (by simp [Op.operands]))).out
  case insert t m k x =>
    simp only [aop] at h
    obtain ⟨h1, rfl⟩ := map_undef h
    exact fin (mapPut_out h1 hR (hE m (by simp [Op.operands])) (hE k (by simp [Op.operands])) (hE x (by simp [Op.operands]))).out
  case mapEntry t m k =>
    simp only [aop] at h
    exact fin (mapEntry_out h hR (hE m (by simp [Op.operands])) (hE k (by simp [Op.operands]))).out
  case entryStore t m s x =>
    simp only [aop] at h
    obtain ⟨h1, rfl⟩ := map_undef h
    exact fin (entryStore_out h1 hR (hE m (by simp [Op.operands])) (hE s (by simp [Op.operands])) (hE x (by simp [Op.operands]))).out
  case range t x =>
    simp only [aop] at h
    exact fin (range_out h hR (hE x (by simp [Op.operands]))).out
  case next it isS =>
    simp only [aop] at h
    exact fin (next_out h hR (hE it (by simp [Op.operands]))).out
  case entry it =>
    simp only [aop] at h
    obtain ⟨h1, rfl⟩ := map_pair h
    exact fin (entry_out h1 hR (hE it (by simp [Op.operands]))).out
  case typeAssert x xt as ok =>
    simp only [aop] at h
    obtain ⟨h1, rfl⟩ := map_pair h
    exact fin (typeAssert_out h1 hR (hE x (by simp [Op.operands]))).out
  case extract t ix =>
    simp only [aop] at h
    have hx := hE t (by simp [Op.operands])
    split at h
    · rename_i vs e
      obtain ⟨h1, rfl⟩ := map_pair h
      exact fin (extract_out e h1 hR hx).out
    · cases h
  case call c =>
    obtain ⟨callee, args, argTypes⟩ := c
    have hargs : ∀ x ∈ args.toList, VR P ρ (fr.eval x) (a.eval x) := fun x hx => hE x (by simp [Op.operands, Call.operands]; exact .inr (by simpa using hx))
    have hLR : LR P ρ (args.toList.map fr.eval) (args.map a.eval).toList := by rw [Array.toList_map]; exact .map hargs
    -- the model enters a function
    have enter : ∀ (f : FuncId) (xs : List Value) (ys : List Value), enters P f = true → LR P ρ xs ys → call f xs σ = some (v, σ') → (execOp a.eval ⟨dst, .call ⟨callee, args, argTypes⟩, ty, pos, after, guard⟩).run P w = .ok (.enter f ys.toArray) w →
        Oper.wp P ⟨dst, .call ⟨callee, args, argTypes⟩, ty, pos, after, guard⟩ a w K Q := by
      intro f xs ys hen hl hc hr
      unfold Oper.wp
      rw [hr]
      refine (hcall f xs σ v σ' hc ρ w ys hG hl hR).mono fun e w' ⟨ρ', v', he, hv, hR', hE'⟩ => ?_
      subst he
      exact hK ρ' v' w' hv hR' hE'
    cases callee with
    | value f =>
      simp only [aop] at h
      have hf := hE f (by simp [Op.operands, Call.operands])
      split at h
      · rename_i g x y e
        rw [e] at hf
        obtain ⟨x', y', e2, hx, hy⟩ := hf.func_inv
        split at h
        · rename_i hen
          refine enter g _ (x'.toList ++ (args.map a.eval).toList ++ y'.toList) hen ((hx.append hLR).append hy) h ?_
          simp only [execOp, resolve, e2, Deferred.ofValue, Sem.run_bind, Sem.run_pure, Result.andThen_ok, invoke]
          rw [run_callFunc hen]
          congr 2
          apply Array.ext'
          simp
        · cases h
      · cases h
    | invoke recv name =>
      simp only [aop] at h
      have hf := hE recv (by simp [Op.operands, Call.operands])
      split at h
      · rename_i t u e
        rw [e] at hf
        obtain ⟨u', e2, hu⟩ := hf.iface_inv
        split at h
        · rename_i g r hm
          split at h
          · rename_i hen
            obtain ⟨r', h1, h2⟩ := method_sound hR 4 (P.types.size + Made.depth) t u u' name g r (by simp [Made.depth] <;> omega) hm hu
            refine enter g _ (r' :: (args.map a.eval).toList) hen (.cons h2 hLR) h ?_
            simp only [execOp, resolve, Sem.run_bind, Sem.run_pure, Result.andThen_ok, invoke, e2]
            have e3 : (#[Value.iface t u'] ++ args.map a.eval)[0]? = some (.iface t u') := by
              rw [Array.getElem?_append_left (Nat.zero_lt_one)]
              rfl
            have e4 : (#[Value.iface t u'] ++ args.map a.eval).extract 1 (#[Value.iface t u'] ++ args.map a.eval).size = args.map a.eval := by
              apply Array.ext'
              simp only [Array.toList_extract, List.extract_eq_take_drop, Array.toList_append, Array.toList_map, Array.size_append, Array.size_map]
              simp
              exact List.take_of_length_le (by simp)
            rw [e3]
            show Sem.run P (callMethod (.iface t u') name ((#[Value.iface t u'] ++ args.map a.eval).extract 1 (#[Value.iface t u'] ++ args.map a.eval).size)) w = _
            rw [e4]
            simp only [callMethod, Sem.run_bind, run_program, Result.andThen_ok, h1]
            rw [run_callFunc hen]
            congr 2
            apply Array.ext'
            simp
          · cases h
        · cases h
      · cases h
    | builtin b =>
      simp only [aop] at h
      obtain ⟨al⟩ := args
      simp only [List.map_toArray] at h hLR
      have one : ∀ {x : Value} {xs : List Operand}, xs.map fr.eval = [x] → LR P ρ (xs.map fr.eval) (xs.map a.eval) → ∃ x', xs.map a.eval = [x'] ∧ VR P ρ x x' := fun {x xs} e hl => by
        rw [e] at hl
        obtain ⟨x', r, e2, hx, hr⟩ := hl.cons_inv
        have := hr.nil_inv
        subst this
        exact ⟨x', e2, hx⟩
      have two : ∀ {x y : Value} {xs : List Operand}, xs.map fr.eval = [x, y] → LR P ρ (xs.map fr.eval) (xs.map a.eval) → ∃ x' y', xs.map a.eval = [x', y'] ∧ VR P ρ x x' ∧ VR P ρ y y' := fun {x y xs} e hl => by
        rw [e] at hl
        obtain ⟨x', r, e2, hx, hr⟩ := hl.cons_inv
        obtain ⟨y', r2, rfl, hy, hr2⟩ := hr.cons_inv
        have := hr2.nil_inv
        subst this
        exact ⟨x', y', e2, hx, hy⟩
      generalize hxs : al.map fr.eval = xs at h
      have h0 := h
      unfold builtin' at h
      split at h
      · rename_i s x
        obtain ⟨s', x', e2, hs, hx⟩ := two hxs hLR
        cases ht : argTypes[0]? with
        | none => rw [ht] at h; simp at h
        | some t =>
          rw [ht] at h
          refine fin (OutV.out (s := Builtin.append_ argTypes ty (al.toArray.map a.eval)) ?_)
          rw [List.map_toArray, e2]
          exact append_out ht h hR hs hx
      · rename_i x
        obtain ⟨x', e2, hx⟩ := one hxs hLR
        refine fin (OutV.out (s := Builtin.len_ argTypes ty (al.toArray.map a.eval)) ?_)
        rw [List.map_toArray, e2]
        exact len_out rfl h0 hR hx
      · rename_i x
        obtain ⟨x', e2, hx⟩ := one hxs hLR
        refine fin (OutV.out (s := Builtin.cap_ argTypes ty (al.toArray.map a.eval)) ?_)
        rw [List.map_toArray, e2]
        exact cap_out rfl h0 hR hx
      · rename_i d s
        obtain ⟨d', s', e2, hd, hs⟩ := two hxs hLR
        cases ht : argTypes[0]? with
        | none => rw [ht] at h; simp at h
        | some t =>
          rw [ht] at h
          simp only [Option.bind_some] at h
          refine fin (OutV.out (s := Builtin.copy_ argTypes ty (al.toArray.map a.eval)) ?_)
          rw [List.map_toArray, e2]
          split at h
          · rename_i elem base dLen dCap hu
            split at h
            · rename_i size sl hsz hsl hdc
              split at h
              · rename_i cs hf
                exact copy_out ht hu hsz hsl (Nat.le_of_ble_eq_true hdc) hf h hR hd hs
              · cases h
            · cases h
          · cases h
      · rename_i m k
        obtain ⟨m', k', e2, hm, hk⟩ := two hxs hLR
        cases ht : argTypes[0]? with
        | none => rw [ht] at h; simp at h
        | some t =>
          rw [ht] at h
          simp only [Option.bind_some] at h
          cases hd : mapDel P t m k σ with
          | none => rw [hd] at h; simp at h
          | some σ2 =>
            rw [hd] at h
            simp only [Option.map_some, Option.some.injEq, Prod.mk.injEq] at h
            obtain ⟨rfl, rfl⟩ := h
            refine fin (OutV.out (s := Builtin.delete_ argTypes ty (al.toArray.map a.eval)) ?_)
            rw [List.map_toArray, e2]
            exact mapDel_out ht hd hR hm hk
      · rename_i x
        obtain ⟨x', e2, hx⟩ := one hxs hLR
        refine fin (OutV.out (s := Builtin.clear_ argTypes ty (al.toArray.map a.eval)) ?_)
        rw [List.map_toArray, e2]
        exact clear_out rfl h0 hR hx
      · rename_i x rest
        rw [hxs] at hLR
        obtain ⟨x', r', e2, hx, hr⟩ := hLR.cons_inv
        obtain ⟨h1, rfl⟩ := map_pair h
        obtain ⟨v', h3, h4⟩ := mmAll_sound (w := w) (lss := true) rest r' x x' v h1 hx hr
        refine fin (OutV.out (s := Builtin.min_ argTypes ty (al.toArray.map a.eval)) (.same hR h4 ?_))
        rw [List.map_toArray, e2]
        exact h3
      · rename_i x rest
        rw [hxs] at hLR
        obtain ⟨x', r', e2, hx, hr⟩ := hLR.cons_inv
        obtain ⟨h1, rfl⟩ := map_pair h
        obtain ⟨v', h3, h4⟩ := mmAll_sound (w := w) (lss := false) rest r' x x' v h1 hx hr
        refine fin (OutV.out (s := Builtin.max_ argTypes ty (al.toArray.map a.eval)) (.same hR h4 ?_))
        rw [List.map_toArray, e2]
        exact h3
      · cases h
  all_goals (simp [aop] at h)
end Go.AE
