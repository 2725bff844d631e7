/- Every order of a drawn region. -/
import Derived.Test.YtongccpmdndcgaaGreatDoorEngU
namespace Go.AE
set_option linter.unusedVariables false
set_option linter.unusedSimpArgs false
variable {P : Program}

/-- Where no operation acts, the heap stays. -/
theorem Run.same {call : CallF} {ops : List Oper} {fr fr' : AFr} {σ σ' : AHeap} {tr : List (AFr × AHeap × Value)} (R : Run P call ops ops fr σ tr fr' σ') : ∀ (d k : Nat), k + d ≤ ops.length → (∀ j o, k ≤ j → j < k + d → ops[j]? = some o → acts P o = false) → trS tr σ' (k + d) = trS tr σ' k
  | 0, k, _, _ => rfl
  | d + 1, k, hle, hn => by
    obtain ⟨o, ho⟩ : ∃ o, ops[k + d]? = some o := ⟨ops[k + d]'(by omega), List.getElem?_eq_getElem (by omega)⟩
    have ih := R.same d k (by omega) (fun j o h1 h2 h3 => hn j o h1 (by omega) h3)
    rw [← ih, show k + (d + 1) = k + d + 1 by omega]
    have hna := hn (k + d) o (by omega) (by omega) ho
    rcases (R.step (k + d) o ho).2 with ⟨_, ha⟩ | ⟨_, _, hs⟩
    · unfold acts at hna
      cases hc : clsOf P o.op with
      | acts => rw [hc] at hna; cases hna
      | pure => exact (aop_pure hc ha).1
      | reads => exact aop_reads hc ha
    · exact hs
theorem Run.f_n {call : CallF} {ops : List Oper} {fr fr' : AFr} {σ σ' : AHeap} {tr : List (AFr × AHeap × Value)} (R : Run P call ops ops fr σ tr fr' σ') : ∀ m, m ≤ ops.length → (trF tr fr' m).n = fr.n
  | 0, _ => by rw [R.f0]
  | m + 1, h => by
    obtain ⟨o, ho⟩ : ∃ o, ops[m]? = some o := ⟨ops[m]'(by omega), List.getElem?_eq_getElem (by omega)⟩
    rw [(R.step m o ho).1, AFr.put_n, R.f_n m (by omega)]
theorem Run.f_at {call : CallF} {ops : List Oper} {fr fr' : AFr} {σ σ' : AHeap} {tr : List (AFr × AHeap × Value)} (hd : DrawOk P [] ops) (R : Run P call ops ops fr σ tr fr' σ') (t : Nat) : ∀ m, m ≤ ops.length →
    (∀ i o, i < m → ops[i]? = some o → o.dst = some t → (trF tr fr' m).at_ t = if t < fr.n then trV tr i else fr.at_ t) ∧ ((∀ i o, i < m → ops[i]? = some o → o.dst ≠ some t) → (trF tr fr' m).at_ t = fr.at_ t)
  | 0, _ => ⟨fun i o h => by omega, fun _ => by rw [R.f0]⟩
  | m + 1, h => by
    obtain ⟨o, ho⟩ : ∃ o, ops[m]? = some o := ⟨ops[m]'(by omega), List.getElem?_eq_getElem (by omega)⟩
    obtain ⟨h1, h2⟩ := R.f_at hd t m (by omega)
    rw [(R.step m o ho).1]
    have hn := R.f_n m (by omega)
    refine ⟨fun i oi hi hoi hdi => ?_, fun hno => ?_⟩
    · rw [AFr.put_at, hn]
      by_cases e : i = m
      · subst e
        rw [ho] at hoi; cases hoi
        by_cases ht : t < fr.n
        · rw [if_pos ⟨hdi, ht⟩, if_pos ht]
        · rw [if_neg (fun q => ht q.2), if_neg ht]
          exact h2 fun j oj hj hoj hdj => hd.once i j o oj t ho hoj (by omega) hdi hdj
      · rw [if_neg (fun q => hd.once i m oi o t hoi ho e hdi q.1)]
        exact h1 i oi (by omega) hoi hdi
    · rw [AFr.put_at, if_neg (fun q => hno m o (by omega) ho q.1)]
      exact h2 fun j oj hj hoj => hno j oj (by omega) hoj
theorem unruly_mem {ops : List Oper} {u i : Nat} {a b : Oper} (hu : ops[u]? = some a) (hi : ops[i]? = some b) (ha : acts P a = true) (hb : isReads P b = true) (h1 : waitsFor ops u i = false) (h2 : waitsFor ops i u = false) : (u, i) ∈ unruly P ops := by
  unfold unruly
  rw [List.mem_flatMap]
  refine ⟨u, List.mem_range.2 (List.getElem?_eq_some_iff.1 hu).1, ?_⟩
  rw [hu]
  simp only [ha]
  rw [List.mem_filterMap]
  refine ⟨i, List.mem_range.2 (List.getElem?_eq_some_iff.1 hi).1, ?_⟩
  rw [hi]
  simp [hb, h1, h2]
theorem retells_spec {call : CallF} {o : Oper} {fr : AFr} {v : Value} {σ : AHeap} (hc : clsOf P o.op = .reads) (h : retells P call o fr v σ = true) : aop P call o fr σ = some (v, σ) := by
  unfold retells at h
  split at h
  · rename_i u s ha
    rw [ha, sameV_eq 6 u v h, aop_reads hc ha]
  · cases h
theorem retold_spec {call : CallF} {ops : List Oper} {tr : List (AFr × AHeap × Value)} {fin : AHeap} {fr' : AFr} : ∀ (ps : List (Nat × Nat)) (u i : Nat) (o : Oper), retold P call ops tr fin ps = true → (u, i) ∈ ps → ops[i]? = some o → clsOf P o.op = .reads → wanted' ops (trF tr fr' i) o = true →
    aop P call o (trF tr fr' i) (trS tr fin u) = some (trV tr i, trS tr fin u) ∧ aop P call o (trF tr fr' i) (trS tr fin (u + 1)) = some (trV tr i, trS tr fin (u + 1))
  | [], _, _, _, _, hm, _, _, _ => by simp at hm
  | (u0, i0) :: rest, u, i, o, h, hm, ho, hc, hw => by
    rw [retold] at h
    simp only [Bool.and_eq_true] at h
    rcases List.mem_cons.1 hm with e | hm
    · simp only [Prod.mk.injEq] at e
      have h1 := h.1
      rw [← e.1, ← e.2, ho] at h1
      cases hi : tr[i]? with
      | none => rw [hi] at h1; simp at h1
      | some p =>
        obtain ⟨f, s, v⟩ := p
        cases hu : tr[u]? with
        | none => rw [hi, hu] at h1; simp at h1
        | some q =>
          obtain ⟨f2, s2, v2⟩ := q
          rw [hi, hu] at h1
          have e1 : trF tr fr' i = f := by unfold trF; rw [hi]
          have e2 : trV tr i = v := by unfold trV; rw [hi]
          have e3 : trS tr fin u = s2 := by unfold trS; rw [hu]
          rw [e1] at hw
          simp only [hw, Bool.and_eq_true] at h1
          rw [e1, e2, e3]
          exact ⟨retells_spec hc h1.1, retells_spec hc h1.2⟩
    · exact retold_spec rest u i o h.2 hm ho hc hw

/-- Where the run of a region stands, some operations done. -/
structure Stands (P : Program) (gs : List Nat) (ops : List Oper) (tr : List (AFr × AHeap × Value)) (fr : AFr) (σ' : AHeap) (ρ0 : Ren) (σ0 : AHeap) (w0 : World) (a0 : Act) (L : Nat → Bool) (a : Act) (w : World) : Prop where
  closed : Closed ops L
  defers : a.defers = a0.defers
  size : a.tmps.size = fr.n
  at_ : ∃ ρ k, k ≤ ops.length ∧ (∀ j o, ops[j]? = some o → acts P o = true → (L j = true ↔ j < k)) ∧ Rel P ρ (trS tr σ' k) w ∧ Ext ρ0 σ0 w0 ρ (trS tr σ' k) w ∧ Gl gs ρ ∧
    (∀ i o t, ops[i]? = some o → o.dst = some t → L i = true → t < fr.n → VR P ρ (trV tr i) (a.tmps.getD t undef)) ∧
    (∀ t, ((∀ i o, ops[i]? = some o → o.dst = some t → L i = false) ∨ ¬ t < fr.n) → VR P ρ (fr.at_ t) (a.tmps.getD t undef))
def listedOf (listed : Array Bool) (i : Nat) : Bool := listed.getD i false

theorem count_set (n : Nat) (L L' : Nat → Bool) (i : Nat) (hi : i < n) (h0 : L i = false) (h1 : ∀ j, L' j = if j = i then true else L j) : ((List.range n).countP fun j => !L j) = ((List.range n).countP fun j => !L' j) + 1 := by
  have gen : ∀ l : List Nat, l.Nodup → (l.countP fun j => !L j) = (l.countP fun j => !L' j) + if i ∈ l then 1 else 0 := by
    intro l
    induction l with
    | nil => intro _; simp
    | cons a l ih =>
      intro hn
      rw [List.nodup_cons] at hn
      have ih := ih hn.2
      rw [List.countP_cons, List.countP_cons, ih]
      by_cases e : a = i
      · subst e
        rw [h1 a, if_pos rfl, h0, if_neg hn.1]
        simp
      · rw [h1 a, if_neg e]
        have : (i ∈ a :: l) ↔ i ∈ l := by simp [Ne.symm e]
        simp only [this]
        omega
  rw [gen _ List.nodup_range, if_pos (List.mem_range.2 hi)]

theorem draw_step {gs : List Nat} {call : CallF} (hcall : CallS P gs call) {ops : List Oper} (hok : ∀ o ∈ ops, operOk gs o = true) (hd : DrawOk P [] ops) {fr fr' : AFr} {σ σ' : AHeap} {tr : List (AFr × AHeap × Value)} (R : Run P call ops ops fr σ tr fr' σ') (hret : retold P call ops tr σ' (unruly P ops) = true)
    {ρ0 : Ren} {w0 : World} {a0 : Act} {L L' : Nat → Bool} {a : Act} {w : World} {K : Act → World → Prop} {Q : Exit → Act → World → Prop} {i : Nat} {o : Oper}
    (J : Stands P gs ops tr fr σ' ρ0 σ w0 a0 L a w) (ho : ops[i]? = some o) (hL : L i = false) (hpre : ∀ e ∈ o.after.toList, Region.binds .any e = true → L e.on = true) (hL' : ∀ j, L' j = if j = i then true else L j)
    (hK : ∀ a' w', Stands P gs ops tr fr σ' ρ0 σ w0 a0 L' a' w' → K a' w') : wpOp P ops.toArray Q i K a w := by
  obtain ⟨hcl, hdf, hsz, ρ, k, hk, hact, hR, hE, hG, ht1, ht2⟩ := J
  have hpre' : ∀ b, ops[i]? = some b → ∀ e ∈ b.after.toList, Region.binds .any e = true → L e.on = true := fun b hb => by rw [ho] at hb; cases hb; exact hpre
  have hin : i < ops.length := (List.getElem?_eq_some_iff.1 ho).1
  -- what the operation sees
  have slot : ∀ t, (∀ j oj, ops[j]? = some oj → j ≠ i → oj.dst = some t → waitsFor ops i j = true) → VR P ρ ((trF tr fr' i).at_ t) (a.tmps.getD t undef) := by
    intro t hw
    obtain ⟨f1, f2⟩ := R.f_at hd t i (by omega)
    by_cases hex : ∃ j oj, ops[j]? = some oj ∧ j ≠ i ∧ oj.dst = some t
    · obtain ⟨j, oj, hj, hne, hdj⟩ := hex
      have hwj := hw j oj hj hne hdj
      have hlt := waits_lt hd i j hwj
      have hlj := waits_listed hd hcl i j hwj hpre'
      rw [f1 j oj hlt hj hdj]
      split
      · rename_i htn; exact ht1 j oj t hj hdj hlj htn
      · rename_i htn; exact ht2 t (.inr htn)
    · rw [f2 fun j oj hlt hj hdj => hex ⟨j, oj, hj, by omega, hdj⟩]
      refine ht2 t (.inl fun j oj hj hdj => ?_)
      by_cases e : j = i
      · subst e; exact hL
      · exact absurd ⟨j, oj, hj, e, hdj⟩ hex
  have hops : ∀ x ∈ o.op.operands.toList, VR P ρ ((trF tr fr' i).eval x) (a.eval x) := fun x hx =>
    eval_sound (List.all_eq_true.1 (hok o (List.mem_of_getElem? ho)) x hx) hG fun t e => slot t fun j oj hj hne hdj => hd.reads j i oj o t hj ho hne hdj (by
      subst e; unfold opTmps; rw [List.mem_filterMap]; exact ⟨_, hx, rfl⟩)
  have hwant : Region.wanted o (yielded ops.toArray a.tmps) = wanted' ops (trF tr fr' i) o := wanted_sound (P := P) (ρ := ρ) fun g want o2 t hg ho2 hdt => slot t fun j oj hj hne hdj => by
    have hgj : g = j := by
      rcases Nat.decEq g j with q | q
      · exact absurd hdj (hd.once g j o2 oj t ho2 hj q hdt)
      · exact q
    rw [← hgj]
    exact hd.guard i o g want ho hg
  -- what stands behind it
  have next : ∀ (ρ' : Ren) (k' : Nat) (v' : Value) (w' : World), k' ≤ ops.length → (∀ j q, ops[j]? = some q → acts P q = true → (L' j = true ↔ j < k')) → VR P ρ' (trV tr i) v' → ρ.le ρ' → Rel P ρ' (trS tr σ' k') w' → Ext ρ0 σ w0 ρ' (trS tr σ' k') w' → K (a.put o.dst v') w' := by
    intro ρ' k' v' w' hk' ha' hv hle hR' hE'
    refine hK _ _ ⟨fun j b hb hj e he hbd => ?_, (put_defers _ _ _).trans hdf, by rw [put_size, hsz], ρ', k', hk', ha', hR', hE', hG.mono hle, fun j q t hq hdq hj htn => ?_, fun t htt => ?_⟩
    · rw [hL'] at hj ⊢
      split
      · rfl
      · split at hj
        · rename_i e1; subst e1; rw [ho] at hb; cases hb; exact hpre e he hbd
        · exact hcl j b hb hj e he hbd
    · rw [put_getD, hsz]
      by_cases e : j = i
      · subst e
        rw [ho] at hq; cases hq
        rw [if_pos ⟨hdq, htn⟩]; exact hv
      · rw [if_neg (fun z => hd.once j i q o t hq ho e hdq z.1)]
        rw [hL', if_neg e] at hj
        exact (ht1 j q t hq hdq hj htn).mono hle
    · rw [put_getD, hsz]
      by_cases e : o.dst = some t ∧ t < fr.n
      · exfalso
        rcases htt with z | z
        · have := z i o ho e.1; rw [hL', if_pos rfl] at this; cases this
        · exact z e.2
      · rw [if_neg e]
        refine (ht2 t ?_).mono hle
        rcases htt with z | z
        · left
          intro j q hq hdq
          have := z j q hq hdq
          rw [hL'] at this
          split at this
          · cases this
          · exact this
        · exact .inr z
  have quiet : acts P o = false → ∀ j q, ops[j]? = some q → acts P q = true → (L' j = true ↔ j < k) := fun hna j q hq ha => by
    rw [hL', if_neg (fun e => by subst e; rw [ho] at hq; cases hq; rw [hna] at ha; cases ha)]
    exact hact j q hq ha
  have before : acts P o = true → trS tr σ' i = trS tr σ' k ∧ k ≤ i := fun ha => by
    have hki : k ≤ i := by
      rcases Nat.lt_or_ge i k with q | q
      · rw [(hact i o ho ha).2 q] at hL; cases hL
      · exact q
    refine ⟨?_, hki⟩
    have := R.same (i - k) k (by omega) (fun j q h1 h2 hq => by
      cases hqa : acts P q with
      | false => rfl
      | true =>
        have hw := hd.chain j i q o hq ho (by omega) hqa ha (by simp) (by simp)
        have := (hact j q hq hqa).1 (waits_listed hd hcl i j hw hpre')
        omega)
    rwa [show k + (i - k) = i by omega] at this
  have after : acts P o = true → ∀ j q, ops[j]? = some q → acts P q = true → (L' j = true ↔ j < i + 1) := fun ha j q hq hqa => by
    rw [hL']
    by_cases e : j = i
    · subst e; simp
    · rw [if_neg e, hact j q hq hqa]
      have hki := (before ha).2
      constructor
      · intro h; omega
      · intro h
        have hji : j < i := by omega
        exact (hact j q hq hqa).1 (waits_listed hd hcl i j (hd.chain j i q o hq ho hji hqa ha (by simp) (by simp)) hpre')
  unfold wpOp
  rw [List.getElem?_toArray, ho]
  simp only
  rw [hwant]
  rcases (R.step i o ho).2 with ⟨hw, ha⟩ | ⟨hw, hv, hs⟩
  · rw [hw]
    simp only [if_true]
    left
    cases hc : clsOf P o.op with
    | acts =>
      have hac : acts P o = true := by unfold acts; rw [hc]
      obtain ⟨e1, e2⟩ := before hac
      rw [e1] at ha
      refine aop_sound hcall ha hops hG hR fun ρ' v' w' hv hR' hE' => ?_
      exact next ρ' (i + 1) v' w' (by omega) (after hac) hv hE'.ren hR' (hE.trans hE')
    | pure =>
      have hac : acts P o = false := by unfold acts; rw [hc]
      have ha2 := (aop_pure hc ha).2 (trS tr σ' k)
      refine aop_sound hcall ha2 hops hG hR fun ρ' v' w' hv hR' hE' => ?_
      exact next ρ' k v' w' hk (quiet hac) hv hE'.ren hR' (hE.trans hE')
    | reads =>
      have hac : acts P o = false := by unfold acts; rw [hc]
      have hrd : isReads P o = true := by unfold isReads; rw [hc]
      have ha2 : aop P call o (trF tr fr' i) (trS tr σ' k) = some (trV tr i, trS tr σ' k) := by
        have hsame := aop_reads hc ha
        rcases Nat.lt_or_ge i k with hik | hik
        · -- something that acts was done ahead of it
          by_cases hex : ∃ u q, i < u ∧ u < k ∧ ops[u]? = some q ∧ acts P q = true
          · -- the last such
            have : ∃ u q, i < u ∧ u < k ∧ ops[u]? = some q ∧ acts P q = true ∧ ∀ j z, u < j → j < k → ops[j]? = some z → acts P z = false := by
              obtain ⟨u, q, h1, h2, h3, h4⟩ := hex
              have key : ∀ d u q, k - u = d → i < u → u < k → ops[u]? = some q → acts P q = true → ∃ u q, i < u ∧ u < k ∧ ops[u]? = some q ∧ acts P q = true ∧ ∀ j z, u < j → j < k → ops[j]? = some z → acts P z = false := by
                intro d
                induction d using Nat.strongRecOn with
                | _ d ih =>
                  intro u q hd1 h1 h2 h3 h4
                  by_cases hl : ∃ j z, u < j ∧ j < k ∧ ops[j]? = some z ∧ acts P z = true
                  · obtain ⟨j, z, g1, g2, g3, g4⟩ := hl
                    exact ih (k - j) (by omega) j z rfl (by omega) g2 g3 g4
                  · refine ⟨u, q, h1, h2, h3, h4, fun j z g1 g2 g3 => ?_⟩
                    cases hz : acts P z with
                    | false => rfl
                    | true => exact absurd ⟨j, z, g1, g2, g3, hz⟩ hl
              exact key _ u q rfl h1 h2 h3 h4
            obtain ⟨u, q, h1, h2, h3, h4, h5⟩ := this
            have hlu : L u = true := (hact u q h3 h4).2 h2
            have w1 : waitsFor ops u i = false := by
              cases hq : waitsFor ops u i with
              | false => rfl
              | true =>
                have := waits_listed hd hcl u i hq (fun b hb e he hbd => hcl u b hb hlu e he hbd)
                rw [this] at hL; cases hL
            have w2 : waitsFor ops i u = false := by
              cases hq : waitsFor ops i u with
              | false => rfl
              | true => have := waits_lt hd i u hq; omega
            have hr := (retold_spec (fr' := fr') _ _ _ _ hret (unruly_mem h3 ho h4 hrd w1 w2) ho hc hw).2
            have hs := R.same (k - (u + 1)) (u + 1) (by omega) (fun j z g1 g2 g3 => h5 j z (by omega) (by omega) g3)
            rw [show u + 1 + (k - (u + 1)) = k by omega] at hs
            rw [hs]; exact hr
          · have hs := R.same (k - i) i (by omega) (fun j z g1 g2 g3 => by
              cases hz : acts P z with
              | false => rfl
              | true =>
                by_cases e : j = i
                · subst e; rw [ho] at g3; cases g3; rw [hac] at hz; cases hz
                · exact absurd ⟨j, z, by omega, by omega, g3, hz⟩ hex)
            rw [show i + (k - i) = k by omega] at hs
            rw [hs, ha, hsame]
        · by_cases hex : ∃ u q, k ≤ u ∧ u < i ∧ ops[u]? = some q ∧ acts P q = true
          · have : ∃ u q, k ≤ u ∧ u < i ∧ ops[u]? = some q ∧ acts P q = true ∧ ∀ j z, k ≤ j → j < u → ops[j]? = some z → acts P z = false := by
              obtain ⟨u, q, h1, h2, h3, h4⟩ := hex
              have key : ∀ u, ∀ q, k ≤ u → u < i → ops[u]? = some q → acts P q = true → ∃ u q, k ≤ u ∧ u < i ∧ ops[u]? = some q ∧ acts P q = true ∧ ∀ j z, k ≤ j → j < u → ops[j]? = some z → acts P z = false := by
                intro u
                induction u using Nat.strongRecOn with
                | _ u ih =>
                  intro q h1 h2 h3 h4
                  by_cases hl : ∃ j z, k ≤ j ∧ j < u ∧ ops[j]? = some z ∧ acts P z = true
                  · obtain ⟨j, z, g1, g2, g3, g4⟩ := hl
                    exact ih j g2 z g1 (by omega) g3 g4
                  · refine ⟨u, q, h1, h2, h3, h4, fun j z g1 g2 g3 => ?_⟩
                    cases hz : acts P z with
                    | false => rfl
                    | true => exact absurd ⟨j, z, g1, g2, g3, hz⟩ hl
              exact key u q h1 h2 h3 h4
            obtain ⟨u, q, h1, h2, h3, h4, h5⟩ := this
            have hlu : L u = false := by
              cases hq : L u with
              | false => rfl
              | true => have := (hact u q h3 h4).1 hq; omega
            have w1 : waitsFor ops u i = false := by
              cases hq : waitsFor ops u i with
              | false => rfl
              | true => have := waits_lt hd u i hq; omega
            have w2 : waitsFor ops i u = false := by
              cases hq : waitsFor ops i u with
              | false => rfl
              | true =>
                have := waits_listed hd hcl i u hq hpre'
                rw [this] at hlu; cases hlu
            have hr := (retold_spec (fr' := fr') _ _ _ _ hret (unruly_mem h3 ho h4 hrd w1 w2) ho hc hw).1
            have hs := R.same (u - k) k (by omega) (fun j z g1 g2 g3 => h5 j z g1 (by omega) g3)
            rw [show k + (u - k) = u by omega] at hs
            rw [← hs]; exact hr
          · have hs := R.same (i - k) k (by omega) (fun j z g1 g2 g3 => by
              cases hz : acts P z with
              | false => rfl
              | true => exact absurd ⟨j, z, g1, by omega, g3, hz⟩ hex)
            rw [show k + (i - k) = i by omega] at hs
            rw [← hs, ha, hsame]
      refine aop_sound hcall ha2 hops hG hR fun ρ' v' w' hv hR' hE' => ?_
      exact next ρ' k v' w' hk (quiet hac) hv hE'.ren hR' (hE.trans hE')
  · rw [hw]
    simp only [Bool.false_eq_true, if_false]
    have hv' : VR P ρ (trV tr i) undef := by rw [hv]; exact .undef
    cases hac : acts P o with
    | false => exact next ρ k undef w hk (quiet hac) hv' (Ren.le_refl _) hR hE
    | true =>
      obtain ⟨e1, e2⟩ := before hac
      exact next ρ (i + 1) undef w (by omega) (after hac) hv' (Ren.le_refl _) (by rw [hs, e1]; exact hR) (by rw [hs, e1]; exact hE)
end Go.AE
