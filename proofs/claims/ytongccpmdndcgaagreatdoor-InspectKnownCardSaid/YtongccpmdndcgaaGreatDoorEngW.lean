/- Regions, code, calls. -/
import Derived.Test.YtongccpmdndcgaaGreatDoorEngZC
import Derived.LoopN
import Derived.Scope
namespace Go.AE
set_option linter.unusedVariables false
set_option linter.unusedSimpArgs false
variable {P : Program}

theorem Run.s_n {call : CallF} {ops l : List Oper} {fr fr' : AFr} {σ σ' : AHeap} {tr : List (AFr × AHeap × Value)} (R : Run P call ops l fr σ tr fr' σ') : trF tr fr' l.length = fr' ∧ trS tr σ' l.length = σ' := by
  unfold trF trS
  rw [List.getElem?_eq_none (by rw [R.len]; exact Nat.le_refl _)]
  exact ⟨rfl, rfl⟩
theorem draw_any {gs : List Nat} {call : CallF} (hcall : CallS P gs call) {ops : List Oper} (hok : ∀ o ∈ ops, operOk gs o = true) (hd : DrawOk P [] ops) {fr fr' : AFr} {σ σ' : AHeap} {tr : List (AFr × AHeap × Value)} (R : Run P call ops ops fr σ tr fr' σ') (hret : retold P call ops tr σ' (unruly P ops) = true)
    {ρ0 : Ren} {w0 : World} {a0 : Act} {Q : Exit → Act → World → Prop} (hK : Cont P ρ0 σ w0 a0 fr' σ' (Q .normal)) :
    ∀ (fuel : Nat) (listed : Array Bool) (a : Act) (w : World), listed.size = ops.length → ((List.range ops.length).countP fun j => !listedOf listed j) = fuel → Stands P gs ops tr fr σ' ρ0 σ w0 a0 (listedOf listed) a w → wpAny P .any ops.toArray Q fuel listed a w := by
  -- all is done
  have done : ∀ (listed : Array Bool) (a : Act) (w : World), (∀ j, j < ops.length → listedOf listed j = true) → Stands P gs ops tr fr σ' ρ0 σ w0 a0 (listedOf listed) a w → Q .normal a w := by
    intro listed a w hall J
    obtain ⟨hcl, hdf, hsz, ρ, k, hk, hact, hR, hE, hG, ht1, ht2⟩ := J
    have hs := R.same (ops.length - k) k (by omega) (fun j o h1 h2 h3 => by
      cases ha : acts P o with
      | false => rfl
      | true => have := (hact j o h3 ha).1 (hall j (by omega)); omega)
    rw [show k + (ops.length - k) = ops.length by omega] at hs
    have hn := R.s_n
    rw [hn.2] at hs
    rw [← hs] at hR hE
    refine hK ρ a w ⟨?_, fun t => ?_⟩ hdf hR hE
    · rw [hsz, ← hn.1, R.f_n _ (Nat.le_refl _)]
    · obtain ⟨f1, f2⟩ := R.f_at hd t ops.length (Nat.le_refl _)
      rw [hn.1] at f1 f2
      by_cases hex : ∃ (j : Nat) (oj : Oper), ops[j]? = some oj ∧ oj.dst = some t
      · obtain ⟨j, oj, hj, hdj⟩ := hex
        have hlt := (List.getElem?_eq_some_iff.1 hj).1
        rw [f1 j oj hlt hj hdj]
        split
        · rename_i htn; exact ht1 j oj t hj hdj (hall j hlt) htn
        · rename_i htn; exact ht2 t (.inr htn)
      · rw [f2 fun j oj hlt hj hdj => hex ⟨j, oj, hj, hdj⟩]
        exact ht2 t (.inl fun j oj hj hdj => absurd ⟨j, oj, hj, hdj⟩ hex)
  have both : ∀ (listed : Array Bool) (j : Nat), listed.size = ops.length → j < ops.length → listed.getD j true = listedOf listed j := fun listed j h1 h2 => by
    unfold listedOf; simp [h1, h2]
  -- who is not done and stands first is ready
  have first : ∀ (listed : Array Bool), listed.size = ops.length → Region.ready .any ops.toArray listed = [] → ∀ j, j < ops.length → listedOf listed j = true := by
    intro listed hs hr j
    induction j using Nat.strongRecOn with
    | _ j ih =>
      intro hj
      cases hl : listedOf listed j with
      | true => rfl
      | false =>
        obtain ⟨o, ho⟩ : ∃ o, ops[j]? = some o := ⟨ops[j]'hj, List.getElem?_eq_getElem hj⟩
        have : j ∈ Region.ready .any ops.toArray listed := by
          rw [mem_ready]
          refine ⟨by rw [both listed j hs hj, hl], o, by rw [List.getElem?_toArray]; exact ho, fun e he hbd => ?_⟩
          have hlt := hd.back j o ho e (Array.mem_toList_iff.2 he) hbd
          exact ih e.on hlt (by omega)
        rw [hr] at this
        cases this
  intro fuel
  induction fuel with
  | zero =>
    intro listed a w hs hc J
    have hall : ∀ j, j < ops.length → listedOf listed j = true := fun j hj => by
      have := List.countP_eq_zero.1 hc j (List.mem_range.2 hj)
      simpa using this
    refine ⟨?_, done listed a w hall J⟩
    cases hr : Region.ready .any ops.toArray listed with
    | nil => rfl
    | cons i r =>
      have hi : i ∈ Region.ready .any ops.toArray listed := by rw [hr]; simp
      obtain ⟨h0, o, ho, _⟩ := mem_ready.1 hi
      rw [List.getElem?_toArray] at ho
      have hlt := (List.getElem?_eq_some_iff.1 ho).1
      rw [both listed i hs hlt, hall i hlt] at h0
      cases h0
  | succ fuel ih =>
    intro listed a w hs hc J
    refine ⟨fun hr => done listed a w (first listed hs hr) J, fun i hi => ?_⟩
    obtain ⟨h0, o, ho, hpre⟩ := mem_ready.1 hi
    rw [List.getElem?_toArray] at ho
    have hlt := (List.getElem?_eq_some_iff.1 ho).1
    rw [both listed i hs hlt] at h0
    have hset : ∀ j, listedOf (listed.setIfInBounds i true) j = if j = i then true else listedOf listed j := fun j => by
      unfold listedOf
      simp only [Array.getD_eq_getD_getElem?]
      rw [Array.getElem?_setIfInBounds]
      by_cases e : i = j
      · subst e; simp [hs, hlt]
      · rw [if_neg e, if_neg (Ne.symm e)]
    refine draw_step hcall hok hd R hret J ho h0 (fun e he hbd => hpre e (Array.mem_toList_iff.1 he) hbd) hset fun a' w' J' => ?_
    refine ih _ a' w' (by simpa using hs) ?_ J'
    have := count_set ops.length (listedOf listed) _ i hlt h0 hset
    omega
theorem RunF.s_n {call : CallF} {ops : List Oper} {fls : List Nat} {base : Nat} {fr fr' : AFr} {σ σ' : AHeap} {tr : List (AFr × AHeap × Value)} {pl : List (List Fl)} {pe : List Fl} (R : RunF P call ops fls base ops 0 [] fr σ tr pl pe fr' σ') : trF tr fr' ops.length = fr' ∧ trS tr σ' ops.length = σ' ∧ trP pl pe ops.length = pe := by
  unfold trF trS trP
  rw [List.getElem?_eq_none (by rw [R.len]; exact Nat.le_refl _), List.getElem?_eq_none (by rw [R.plen]; exact Nat.le_refl _)]
  exact ⟨rfl, rfl, rfl⟩
theorem draw_anyF {gs : List Nat} {call : CallF} (hcall : CallS P gs call) {ops : List Oper} {fls : List Nat} {base : Nat} (hok : ∀ o ∈ ops, operOk gs o = true) (hd : DrawOk P fls ops) {fr fr' : AFr} {σ σ' : AHeap} {tr : List (AFr × AHeap × Value)} {pl : List (List Fl)} {pe : List Fl} (R : RunF P call ops fls base ops 0 [] fr σ tr pl pe fr' σ') {σo : AHeap} (hbase : σo.next ≤ base) (hret : retold P call ops tr σ' (unruly P ops) = true)
    {ρ0 : Ren} {w0 : World} {a0 : Act} {Q : Exit → Act → World → Prop} (hK : Cont P ρ0 σo w0 a0 fr' (landAll base pe σ') (Q .normal)) :
    ∀ (fuel : Nat) (listed : Array Bool) (a : Act) (w : World), listed.size = ops.length → ((List.range ops.length).countP fun j => !listedOf listed j) = fuel → StandsF P gs ops fls base tr pl pe fr σ' ρ0 σo w0 a0 (listedOf listed) a w → wpAny P .any ops.toArray Q fuel listed a w := by
  -- all is done
  have done : ∀ (listed : Array Bool) (a : Act) (w : World), (∀ j, j < ops.length → listedOf listed j = true) → StandsF P gs ops fls base tr pl pe fr σ' ρ0 σo w0 a0 (listedOf listed) a w → Q .normal a w := by
    intro listed a w hall J
    obtain ⟨hcl, hdf, hsz, ρ, k, hk, hact, hR, hE, hG, ht1, ht2, hA, hnx⟩ := J
    have hs := R.same (ops.length - k) k (by omega) (fun j o h1 h2 h3 ha => Classical.byContradiction fun hj => by
      have := (hact j o h3 ha hj).1 (hall j (by omega)); omega)
    rw [show k + (ops.length - k) = ops.length by omega] at hs
    have hn := R.s_n
    have hin : ∀ f ∈ pe, AsideAt pl pe k f ∧ listedOf listed f.p = true := fun f hf => by
      have hf : f ∈ trP pl pe ops.length := by rw [hn.2.2]; exact hf
      exact ⟨R.back' hk (Nat.le_refl _) hf, hall _ ((R.pend _ (Nat.le_refl _)).1 f hf).1⟩
    have hnd : (pe.map (·.p)).Nodup := by have := (R.pend _ (Nat.le_refl _)).2; rwa [hn.2.2] at this
    have hR := hR.landAll (base := base) (n0 := w0.heap.size) pe hnd (fun f hf => hA.held f (hin f hf).1 (hin f hf).2) (fun f g hf hg => hA.apart f g (hin f hf).1 (hin g hg).1 (hin f hf).2 (hin g hg).2)
    have hE := hE.landAll (base := base) pe (fun f hf => hA.held f (hin f hf).1 (hin f hf).2)
    rw [hn.2.1] at hs
    rw [← hs] at hR hE
    refine hK ρ a w ⟨?_, fun t => ?_⟩ hdf hR hE
    · rw [hsz, ← hn.1, R.f_n _ (Nat.le_refl _)]
    · obtain ⟨f1, f2⟩ := R.f_at hd t ops.length (Nat.le_refl _)
      rw [hn.1] at f1 f2
      by_cases hex : ∃ (j : Nat) (oj : Oper), ops[j]? = some oj ∧ oj.dst = some t
      · obtain ⟨j, oj, hj, hdj⟩ := hex
        have hlt := (List.getElem?_eq_some_iff.1 hj).1
        rw [f1 j oj hlt hj hdj]
        split
        · rename_i htn; exact ht1 j oj t hj hdj (hall j hlt) htn
        · rename_i htn; exact ht2 t (.inr htn)
      · rw [f2 fun j oj hlt hj hdj => hex ⟨j, oj, hj, hdj⟩]
        exact ht2 t (.inl fun j oj hj hdj => absurd ⟨j, oj, hj, hdj⟩ hex)
  have both : ∀ (listed : Array Bool) (j : Nat), listed.size = ops.length → j < ops.length → listed.getD j true = listedOf listed j := fun listed j h1 h2 => by
    unfold listedOf; simp [h1, h2]
  -- who is not done and stands first is ready
  have first : ∀ (listed : Array Bool), listed.size = ops.length → Region.ready .any ops.toArray listed = [] → ∀ j, j < ops.length → listedOf listed j = true := by
    intro listed hs hr j
    induction j using Nat.strongRecOn with
    | _ j ih =>
      intro hj
      cases hl : listedOf listed j with
      | true => rfl
      | false =>
        obtain ⟨o, ho⟩ : ∃ o, ops[j]? = some o := ⟨ops[j]'hj, List.getElem?_eq_getElem hj⟩
        have : j ∈ Region.ready .any ops.toArray listed := by
          rw [mem_ready]
          refine ⟨by rw [both listed j hs hj, hl], o, by rw [List.getElem?_toArray]; exact ho, fun e he hbd => ?_⟩
          have hlt := hd.back j o ho e (Array.mem_toList_iff.2 he) hbd
          exact ih e.on hlt (by omega)
        rw [hr] at this
        cases this
  intro fuel
  induction fuel with
  | zero =>
    intro listed a w hs hc J
    have hall : ∀ j, j < ops.length → listedOf listed j = true := fun j hj => by
      have := List.countP_eq_zero.1 hc j (List.mem_range.2 hj)
      simpa using this
    refine ⟨?_, done listed a w hall J⟩
    cases hr : Region.ready .any ops.toArray listed with
    | nil => rfl
    | cons i r =>
      have hi : i ∈ Region.ready .any ops.toArray listed := by rw [hr]; simp
      obtain ⟨h0, o, ho, _⟩ := mem_ready.1 hi
      rw [List.getElem?_toArray] at ho
      have hlt := (List.getElem?_eq_some_iff.1 ho).1
      rw [both listed i hs hlt, hall i hlt] at h0
      cases h0
  | succ fuel ih =>
    intro listed a w hs hc J
    refine ⟨fun hr => done listed a w (first listed hs hr) J, fun i hi => ?_⟩
    obtain ⟨h0, o, ho, hpre⟩ := mem_ready.1 hi
    rw [List.getElem?_toArray] at ho
    have hlt := (List.getElem?_eq_some_iff.1 ho).1
    rw [both listed i hs hlt] at h0
    have hset : ∀ j, listedOf (listed.setIfInBounds i true) j = if j = i then true else listedOf listed j := fun j => by
      unfold listedOf
      simp only [Array.getD_eq_getD_getElem?]
      rw [Array.getElem?_setIfInBounds]
      by_cases e : i = j
      · subst e; simp [hs, hlt]
      · rw [if_neg e, if_neg (Ne.symm e)]
    refine draw_stepF hcall hok hd R hbase hret J ho h0 (fun e he hbd => hpre e (Array.mem_toList_iff.1 he) hbd) hset fun a' w' J' => ?_
    refine ih _ a' w' (by simpa using hs) ?_ J'
    have := count_set ops.length (listedOf listed) _ i hlt h0 hset
    omega
theorem regionF_sound {gs : List Nat} {call : CallF} (hmix : P.follows .mixedOrders = true) (hcall : CallS P gs call) {id : Nat} {ops : Array Oper} {fls : List Nat} (hok : ∀ o ∈ ops.toList, operOk gs o = true) {fr fr' : AFr} {σ σ' : AHeap} (h : regionF P call ops.toList fls fr σ = some (fr', σ'))
    {ρ : Ren} {a : Act} {w : World} {Q : Exit → Act → World → Prop} (hF : FR P ρ fr a.tmps) (hG : Gl gs ρ) (hR : Rel P ρ σ w) (hK : Cont P ρ σ w a fr' σ' (Q .normal)) : (Code.region id ops true).wp P Q a w := by
  unfold regionF at h
  split at h
  · cases h
  · rename_i hd
    have hd := drawOk_spec hd
    split at h
    · rename_i tr pl pe fr2 σ2 ht
      split at h
      · rename_i hret
        simp only [Option.some.injEq, Prod.mk.injEq] at h
        obtain ⟨rfl, rfl⟩ := h
        have R := runFl_run _ _ _ _ _ _ _ _ _ _ ht
        refine wp_region_any hmix ?_
        have hK' : Cont P ρ σ w.drew a fr2 (landAll σ.next pe σ2) (Q .normal) := fun ρ' a' w' h1 h2 h3 h4 => hK ρ' a' w' h1 h2 h3 (Ext.drew.trans h4)
        have hz : ∀ j, listedOf (Array.replicate ops.size false) j = false := fun j => by
          unfold listedOf
          rcases Nat.lt_or_ge j ops.size with q | q
          · simp [q]
          · simp [q]
        have hR1 : Rel P ρ ⟨σ.next + ops.toList.length, σ.m⟩ w.drew := ⟨fun b hb => hR.drew.dom b (by have : σ.next + ops.toList.length ≤ b := hb; omega), hR.drew.lt, hR.drew.obj, hR.drew.inj⟩
        have hE1 : Ext ρ σ w.drew ρ ⟨σ.next + ops.toList.length, σ.m⟩ w.drew := ⟨Ren.le_refl _, Nat.le_add_right _ _, Nat.le_refl _, rfl, rfl, rfl, fun _ _ _ => rfl, fun _ _ h => h, fun _ _ => rfl, fun _ _ h _ => h⟩
        have J : StandsF P gs ops.toList fls σ.next tr pl pe fr σ2 ρ σ w.drew a (listedOf (Array.replicate ops.size false)) a w.drew := by
          refine ⟨fun j b hb hj => ?_, rfl, hF.size, ρ, 0, Nat.zero_le _, fun j o _ _ _ => ?_, ?_, ?_, hG, fun i o t _ _ hl => ?_, fun t _ => hF.at_ t, ⟨fun p _ _ _ => hR.dom _ (Nat.le_add_right _ _), fun f _ hl => ?_, fun f g _ _ hl => ?_⟩, ?_⟩
          · rw [hz] at hj; cases hj
          · rw [hz]; simp
          · rw [R.s0]; exact hR1
          · rw [R.s0]; exact hE1
          · rw [hz] at hl; cases hl
          · rw [hz] at hl; cases hl
          · rw [hz] at hl; cases hl
          · rw [R.s0]; exact Nat.le_refl _
        have hcount : ((List.range ops.toList.length).countP fun j => !listedOf (Array.replicate ops.size false) j) = ops.toList.length := by
          have : ((List.range ops.toList.length).countP fun j => !listedOf (Array.replicate ops.size false) j) = (List.range ops.toList.length).countP fun _ => true := by
            congr 1; funext j; rw [hz]; rfl
          rw [this, List.countP_true, List.length_range]
        have := draw_anyF hcall hok hd R (Nat.le_refl _) hret hK' ops.toList.length (Array.replicate ops.size false) a w.drew (by simp) hcount J
        simpa using this
      · cases h
    · cases h
theorem region_sound {gs : List Nat} {call : CallF} (hmix : P.follows .mixedOrders = true) (hcall : CallS P gs call) {id : Nat} {ops : Array Oper} {draw : Bool} (hok : ∀ o ∈ ops.toList, operOk gs o = true) {fr fr' : AFr} {σ σ' : AHeap} (h : region' P call ops.toList draw fr σ = some (fr', σ'))
    {ρ : Ren} {a : Act} {w : World} {Q : Exit → Act → World → Prop} (hF : FR P ρ fr a.tmps) (hG : Gl gs ρ) (hR : Rel P ρ σ w) (hK : Cont P ρ σ w a fr' σ' (Q .normal)) : (Code.region id ops draw).wp P Q a w := by
  unfold region' at h
  split at h
  · have := runOps_sound hcall (Q := Q) ops.toList fr σ fr' σ' hok h ρ a w hF hG hR hK
    exact wp_region_list this
  · split at h
    · exact regionF_sound hmix hcall hok h hF hG hR hK
    · rename_i hd
      have hd := drawOk_spec hd
      have go : ∀ tr, runTr P call ops.toList ops.toList fr σ = some (tr, fr', σ') → retold P call ops.toList tr σ' (unruly P ops.toList) = true → (Code.region id ops true).wp P Q a w := by
        intro tr ht hret
        have R := runTr_run _ _ _ _ _ _ ht
        refine wp_region_any hmix ?_
        have hK' : Cont P ρ σ w.drew a fr' σ' (Q .normal) := fun ρ' a' w' h1 h2 h3 h4 => hK ρ' a' w' h1 h2 h3 (Ext.drew.trans h4)
        have hz : ∀ j, listedOf (Array.replicate ops.size false) j = false := fun j => by
          unfold listedOf
          rcases Nat.lt_or_ge j ops.size with q | q
          · simp [q]
          · simp [q]
        have J : Stands P gs ops.toList tr fr σ' ρ σ w.drew a (listedOf (Array.replicate ops.size false)) a w.drew := by
          refine ⟨fun j b hb hj => ?_, rfl, hF.size, ρ, 0, Nat.zero_le _, fun j o _ _ => ?_, ?_, ?_, hG, fun i o t _ _ hl => ?_, fun t _ => hF.at_ t⟩
          · rw [hz] at hj; cases hj
          · rw [hz]; simp
          · rw [R.s0]; exact hR.drew
          · rw [R.s0]; exact .refl _ _ _
          · rw [hz] at hl; cases hl
        have hcount : ((List.range ops.toList.length).countP fun j => !listedOf (Array.replicate ops.size false) j) = ops.toList.length := by
          have : ((List.range ops.toList.length).countP fun j => !listedOf (Array.replicate ops.size false) j) = (List.range ops.toList.length).countP fun _ => true := by
            congr 1; funext j; rw [hz]; rfl
          rw [this, List.countP_true, List.length_range]
        have := draw_any hcall hok hd R hret hK' ops.toList.length (Array.replicate ops.size false) a w.drew (by simp) hcount J
        simpa using this
      split at h
      · rename_i hu
        obtain ⟨tr, ht⟩ := runTr_of _ _ _ _ h
        exact go tr ht (by rw [hu]; rfl)
      · split at h
        · rename_i tr fr2 σ2 ht
          split at h
          · rename_i hret
            cases h
            exact go tr ht hret
          · cases h
        · cases h

/-! Code. -/
def AExit.up : AExit → Exit
  | .normal => .normal
  | .exit id => .exit id
  | .ret => .ret
def ContE (P : Program) (ρ : Ren) (σ : AHeap) (w : World) (a : Act) (e : AExit) (fr' : AFr) (σ' : AHeap) (Q : Exit → Act → World → Prop) : Prop := Cont P ρ σ w a fr' σ' (Q e.up)
theorem exec_sound {gs : List Nat} {call : CallF} (hmix : P.follows .mixedOrders = true) (hcall : CallS P gs call) (n : Nat) : ∀ (c : Code) (fr : AFr) (σ : AHeap) (e : AExit) (fr' : AFr) (σ' : AHeap), codeOk gs c = true → exec P call n c fr σ = some (e, fr', σ') →
    ∀ (ρ : Ren) (a : Act) (w : World) (Q : Exit → Act → World → Prop), FR P ρ fr a.tmps → Gl gs ρ → Rel P ρ σ w → ContE P ρ σ w a e fr' σ' Q → c.wp P Q a w := by
  intro c
  induction c with
  | skip =>
    intro fr σ e fr' σ' _ h ρ a w Q hF hG hR hK
    simp only [exec, Option.some.injEq, Prod.mk.injEq] at h
    obtain ⟨rfl, rfl, rfl⟩ := h
    exact wp_skip (hK ρ a w hF rfl hR (.refl _ _ _))
  | label l =>
    intro fr σ e fr' σ' _ h ρ a w Q hF hG hR hK
    simp only [exec, Option.some.injEq, Prod.mk.injEq] at h
    obtain ⟨rfl, rfl, rfl⟩ := h
    exact wp_label (hK ρ a w hF rfl hR (.refl _ _ _))
  | region id ops draw =>
    intro fr σ e fr' σ' hok h ρ a w Q hF hG hR hK
    simp only [exec] at h
    split at h
    · rename_i f s hr
      cases h
      exact region_sound hmix hcall (fun o ho => List.all_eq_true.1 hok o ho) hr hF hG hR hK
    · cases h
  | seq x y ihx ihy =>
    intro fr σ e fr' σ' hok h ρ a w Q hF hG hR hK
    simp only [codeOk, Bool.and_eq_true] at hok
    simp only [exec] at h
    split at h
    · rename_i f s hx
      refine wp_seq (ihx _ _ _ _ _ hok.1 hx ρ a w _ hF hG hR ?_)
      intro ρ1 a1 w1 hF1 hd1 hR1 hE1
      refine ihy _ _ _ _ _ hok.2 h ρ1 a1 w1 Q hF1 (hG.mono hE1.ren) hR1 ?_
      intro ρ2 a2 w2 hF2 hd2 hR2 hE2
      exact hK ρ2 a2 w2 hF2 (hd2.trans hd1) hR2 (hE1.trans hE2)
    · rename_i hne
      refine wp_seq (ihx _ _ _ _ _ hok.1 h ρ a w _ hF hG hR ?_)
      intro ρ1 a1 w1 hF1 hd1 hR1 hE1
      cases e with
      | normal => exact absurd h (hne fr' σ')
      | exit id => exact hK ρ1 a1 w1 hF1 hd1 hR1 hE1
      | ret => exact hK ρ1 a1 w1 hF1 hd1 hR1 hE1
  | cond c x y ihx ihy =>
    intro fr σ e fr' σ' hok h ρ a w Q hF hG hR hK
    simp only [codeOk, Bool.and_eq_true] at hok
    have hc := eval_sound (P := P) hok.1.1 hG fun t _ => hF.at_ t
    simp only [exec] at h
    split at h
    · rename_i ec; rw [ec] at hc; exact wp_cond_true hc.bool_inv (ihx _ _ _ _ _ hok.1.2 h ρ a w Q hF hG hR hK)
    · rename_i ec; rw [ec] at hc; exact wp_cond_false hc.bool_inv (ihy _ _ _ _ _ hok.2 h ρ a w Q hF hG hR hK)
    · cases h
  | block id x ih =>
    intro fr σ e fr' σ' hok h ρ a w Q hF hG hR hK
    simp only [exec] at h
    split at h
    · rename_i id' f s hx
      refine wp_block (ih _ _ _ _ _ hok hx ρ a w _ hF hG hR ?_)
      intro ρ1 a1 w1 hF1 hd1 hR1 hE1
      split at h
      · rename_i he
        cases h
        simp only [AExit.up, Exit.inBlock, Nat.eq_of_beq_eq_true he, if_true]
        exact hK ρ1 a1 w1 hF1 hd1 hR1 hE1
      · rename_i he
        cases h
        have hne : ¬ id' = id := fun q => by rw [q, Nat.beq_refl] at he; cases he
        simp only [AExit.up, Exit.inBlock, hne, if_false]
        exact hK ρ1 a1 w1 hF1 hd1 hR1 hE1
    · rename_i hne
      refine wp_block (ih _ _ _ _ _ hok h ρ a w _ hF hG hR ?_)
      intro ρ1 a1 w1 hF1 hd1 hR1 hE1
      cases e with
      | normal => exact hK ρ1 a1 w1 hF1 hd1 hR1 hE1
      | exit id' => exact absurd h (hne id' fr' σ')
      | ret => exact hK ρ1 a1 w1 hF1 hd1 hR1 hE1
  | loop x ih =>
    intro fr σ e fr' σ' hok h ρ a w Q hF hG hR hK
    simp only [exec] at h
    refine wp_loop_rounds n ?_
    have key : ∀ (m : Nat) (fr : AFr) (σ : AHeap) (ρ : Ren) (a : Act) (w : World), loopN (exec P call n x) m fr σ = some (e, fr', σ') → FR P ρ fr a.tmps → Gl gs ρ → Rel P ρ σ w → ContE P ρ σ w a e fr' σ' Q → Code.rounds P x Q m a w := by
      intro m
      induction m with
      | zero => intro fr σ ρ a w h; simp [loopN] at h
      | succ m ihm =>
        intro fr σ ρ a w h hF hG hR hK
        rw [loopN] at h
        rw [rounds_succ]
        split at h
        · rename_i f s hx
          refine ih _ _ _ _ _ hok hx ρ a w _ hF hG hR ?_
          intro ρ1 a1 w1 hF1 hd1 hR1 hE1
          refine ihm f s ρ1 a1 w1 h hF1 (hG.mono hE1.ren) hR1 ?_
          intro ρ2 a2 w2 hF2 hd2 hR2 hE2
          exact hK ρ2 a2 w2 hF2 (hd2.trans hd1) hR2 (hE1.trans hE2)
        · rename_i hne
          refine ih _ _ _ _ _ hok h ρ a w _ hF hG hR ?_
          intro ρ1 a1 w1 hF1 hd1 hR1 hE1
          cases e with
          | normal => exact absurd h (hne fr' σ')
          | exit id => exact hK ρ1 a1 w1 hF1 hd1 hR1 hE1
          | ret => exact hK ρ1 a1 w1 hF1 hd1 hR1 hE1
    exact key n fr σ ρ a w h hF hG hR hK
  | exit id =>
    intro fr σ e fr' σ' _ h ρ a w Q hF hG hR hK
    simp only [exec, Option.some.injEq, Prod.mk.injEq] at h
    obtain ⟨rfl, rfl, rfl⟩ := h
    exact wp_exit (hK ρ a w hF rfl hR (.refl _ _ _))
  | ret =>
    intro fr σ e fr' σ' _ h ρ a w Q hF hG hR hK
    simp only [exec, Option.some.injEq, Prod.mk.injEq] at h
    obtain ⟨rfl, rfl, rfl⟩ := h
    exact wp_ret (hK ρ a w hF rfl hR (.refl _ _ _))
  | scope x ih =>
    intro fr σ e fr' σ' hok h ρ a w Q hF hG hR hK
    simp only [exec] at h
    refine wp_scope_straight (ih _ _ _ _ _ hok h ρ a w _ hF hG hR ?_)
    intro ρ1 a1 w1 hF1 hd1 hR1 hE1
    have := hK ρ1 a1 w1 hF1 hd1 hR1 hE1
    cases e <;> exact this
  | _ =>
    intro fr σ e fr' σ' _ h
    simp [exec] at h
end Go.AE
