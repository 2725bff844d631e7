/- Every order of such a region comes to what the order of its text comes to. -/
import Derived.Test.YtongccpmdndcgaaGreatDoorEngZB
namespace Go.AE
set_option linter.unusedVariables false
set_option linter.unusedSimpArgs false
variable {P : Program}

theorem retold_specF {call : CallF} {ops : List Oper} {tr : List (AFr × AHeap × Value)} {fin : AHeap} {fr' : AFr} {ps : List (Nat × Nat)} {u i : Nat} {o : Oper} (h : retold P call ops tr fin ps = true) (hm : (u, i) ∈ ps) (ho : ops[i]? = some o) (hc : clsOf P o.op = .reads) (hw : wanted' ops (trF tr fr' i) o = true) :
    aop P call o (trF tr fr' i) (trS tr fin u) = some (trV tr i, trS tr fin u) ∧ aop P call o (trF tr fr' i) (trS tr fin (u + 1)) = some (trV tr i, trS tr fin (u + 1)) := retold_spec ps u i o h hm ho hc hw

structure StandsF (P : Program) (gs : List Nat) (ops : List Oper) (fls : List Nat) (base : Nat) (tr : List (AFr × AHeap × Value)) (pl : List (List Fl)) (pe : List Fl) (fr : AFr) (σ' : AHeap) (ρ0 : Ren) (σ0 : AHeap) (w0 : World) (a0 : Act) (L : Nat → Bool) (a : Act) (w : World) : Prop where
  closed : Closed ops L
  defers : a.defers = a0.defers
  size : a.tmps.size = fr.n
  at_ : ∃ ρ k, k ≤ ops.length ∧ (∀ j o, ops[j]? = some o → acts P o = true → j ∉ fls → (L j = true ↔ j < k)) ∧ Rel P ρ (trS tr σ' k) w ∧ Ext ρ0 σ0 w0 ρ (trS tr σ' k) w ∧ Gl gs ρ ∧
    (∀ i o t, ops[i]? = some o → o.dst = some t → L i = true → t < fr.n → VR P ρ (trV tr i) (a.tmps.getD t undef)) ∧
    (∀ t, ((∀ i o, ops[i]? = some o → o.dst = some t → L i = false) ∨ ¬ t < fr.n) → VR P ρ (fr.at_ t) (a.tmps.getD t undef)) ∧
    Asides P ops fls base w0.heap.size pl pe L k ρ (trS tr σ' k) w ∧ base + ops.length ≤ (trS tr σ' k).next

theorem draw_stepF {gs : List Nat} {call : CallF} (hcall : CallS P gs call) {ops : List Oper} {fls : List Nat} {base : Nat} (hok : ∀ o ∈ ops, operOk gs o = true) (hd : DrawOk P fls ops) {fr fr' : AFr} {σ σ' : AHeap} {tr : List (AFr × AHeap × Value)} {pl : List (List Fl)} {pe : List Fl} (R : RunF P call ops fls base ops 0 [] fr σ tr pl pe fr' σ') {σo : AHeap} (hbase : σo.next ≤ base) (hret : retold P call ops tr σ' (unruly P ops) = true)
    {ρ0 : Ren} {w0 : World} {a0 : Act} {L L' : Nat → Bool} {a : Act} {w : World} {K : Act → World → Prop} {Q : Exit → Act → World → Prop} {i : Nat} {o : Oper}
    (J : StandsF P gs ops fls base tr pl pe fr σ' ρ0 σo w0 a0 L a w) (ho : ops[i]? = some o) (hL : L i = false) (hpre : ∀ e ∈ o.after.toList, Region.binds .any e = true → L e.on = true) (hL' : ∀ j, L' j = if j = i then true else L j)
    (hK : ∀ a' w', StandsF P gs ops fls base tr pl pe fr σ' ρ0 σo w0 a0 L' a' w' → K a' w') : wpOp P ops.toArray Q i K a w := by
  obtain ⟨hcl, hdf, hsz, ρ, k, hk, hact, hR, hE, hG, ht1, ht2, hA, hnextk⟩ := J
  have hpre' : ∀ b, ops[i]? = some b → ∀ e ∈ b.after.toList, Region.binds .any e = true → L e.on = true := fun b hb => by rw [ho] at hb; cases hb; exact hpre
  have hin : i < ops.length := (List.getElem?_eq_some_iff.1 ho).1
  have slot : ∀ t, (∀ j oj, ops[j]? = some oj → j ≠ i → oj.dst = some t → waitsFor ops i j = true) → VR P ρ ((trF tr fr' i).at_ t) (a.tmps.getD t undef) := by
    intro t hw
    obtain ⟨f1, f2⟩ := R.f_at hd t i (by omega)
    by_cases hex : ∃ j oj, ops[j]? = some oj ∧ j ≠ i ∧ oj.dst = some t
    · obtain ⟨j, oj, hj, hne, hdj⟩ := hex
      have hwj := hw j oj hj hne hdj
      have hlt := waits_lt hd i j hwj
      have hlj := waits_listed hd hcl i j hwj hpre'
      rw [f1 j oj hlt hj hdj]
      split
      · rename_i htn; exact ht1 j oj t hj hdj hlj htn
      · rename_i htn; exact ht2 t (.inr htn)
    · rw [f2 fun j oj hlt hj hdj => hex ⟨j, oj, hj, by omega, hdj⟩]
      refine ht2 t (.inl fun j oj hj hdj => ?_)
      by_cases e : j = i
      · subst e; exact hL
      · exact absurd ⟨j, oj, hj, e, hdj⟩ hex
  have hops : ∀ x ∈ o.op.operands.toList, VR P ρ ((trF tr fr' i).eval x) (a.eval x) := fun x hx =>
    eval_sound (List.all_eq_true.1 (hok o (List.mem_of_getElem? ho)) x hx) hG fun t e => slot t fun j oj hj hne hdj => hd.reads j i oj o t hj ho hne hdj (by
      subst e; unfold opTmps; rw [List.mem_filterMap]; exact ⟨_, hx, rfl⟩)
  have hwant : Region.wanted o (yielded ops.toArray a.tmps) = wanted' ops (trF tr fr' i) o := wanted_sound (P := P) (ρ := ρ) fun g want o2 t hg ho2 hdt => slot t fun j oj hj hne hdj => by
    have hgj : g = j := by
      rcases Nat.decEq g j with q | q
      · exact absurd hdj (hd.once g j o2 oj t ho2 hj q hdt)
      · exact q
    rw [← hgj]
    exact hd.guard i o g want ho hg
  have next : ∀ (ρ' : Ren) (k' : Nat) (v' : Value) (w' : World), k' ≤ ops.length → (∀ j q, ops[j]? = some q → acts P q = true → j ∉ fls → (L' j = true ↔ j < k')) → VR P ρ' (trV tr i) v' → ρ.le ρ' → Rel P ρ' (trS tr σ' k') w' → Ext ρ0 σo w0 ρ' (trS tr σ' k') w' →
      Asides P ops fls base w0.heap.size pl pe L' k' ρ' (trS tr σ' k') w' → base + ops.length ≤ (trS tr σ' k').next → K (a.put o.dst v') w' := by
    intro ρ' k' v' w' hk' ha' hv hle hR' hE' hA' hn'
    refine hK _ _ ⟨fun j b hb hj e he hbd => ?_, (put_defers _ _ _).trans hdf, by rw [put_size, hsz], ρ', k', hk', ha', hR', hE', hG.mono hle, fun j q t hq hdq hj htn => ?_, fun t htt => ?_, hA', hn'⟩
    · rw [hL'] at hj ⊢
      split
      · rfl
      · split at hj
        · rename_i e1; subst e1; rw [ho] at hb; cases hb; exact hpre e he hbd
        · exact hcl j b hb hj e he hbd
    · rw [put_getD, hsz]
      by_cases e : j = i
      · subst e
        rw [ho] at hq; cases hq
        rw [if_pos ⟨hdq, htn⟩]; exact hv
      · rw [if_neg (fun z => hd.once j i q o t hq ho e hdq z.1)]
        rw [hL', if_neg e] at hj
        exact (ht1 j q t hq hdq hj htn).mono hle
    · rw [put_getD, hsz]
      by_cases e : o.dst = some t ∧ t < fr.n
      · exfalso
        rcases htt with z | z
        · have := z i o ho e.1; rw [hL', if_pos rfl] at this; cases this
        · exact z e.2
      · rw [if_neg e]
        refine (ht2 t ?_).mono hle
        rcases htt with z | z
        · left
          intro j q hq hdq
          have := z j q hq hdq
          rw [hL'] at this
          split at this
          · cases this
          · exact this
        · exact .inr z
  have hfl : ∀ f, AsideAt pl pe k f → f.p ∈ fls := fun f hf => (R.made hk hf).1
  -- an operation outside the chain, and no row
  have quiet : (acts P o = false ∨ i ∈ fls) → ∀ j q, ops[j]? = some q → acts P q = true → j ∉ fls → (L' j = true ↔ j < k) := fun hna j q hq ha hjf => by
    rw [hL', if_neg (fun e => by subst e; rcases hna with hna | hna; · rw [ho] at hq; cases hq; rw [hna] at ha; cases ha
                                 · exact hjf hna)]
    exact hact j q hq ha hjf
  have still : ∀ {ρ' w'}, i ∉ fls → Ext ρ (trS tr σ' k) w ρ' (trS tr σ' k) w' → Asides P ops fls base w0.heap.size pl pe L' k ρ' (trS tr σ' k) w' := fun hni hE' =>
    hA.step hnextk hR hE' (fun f hf => hf) (fun p hp => by rw [hL', if_neg (fun e => hni (by rw [← e]; exact hp))]) hfl (fun f hf hl => hA.held f hf hl)
  have before : acts P o = true → i ∉ fls → trS tr σ' i = trS tr σ' k ∧ k ≤ i := fun ha hif => by
    have hki : k ≤ i := by
      rcases Nat.lt_or_ge i k with q | q
      · rw [(hact i o ho ha hif).2 q] at hL; cases hL
      · exact q
    refine ⟨?_, hki⟩
    have := R.same (i - k) k (by omega) (fun j q h1 h2 hq hqa => by
      rcases Classical.em (j ∈ fls) with hj | hj
      · exact hj
      · have hw := hd.chain j i q o hq ho (by omega) hqa ha hj hif
        have := (hact j q hq hqa hj).1 (waits_listed hd hcl i j hw hpre')
        omega)
    rwa [show k + (i - k) = i by omega] at this
  have after : acts P o = true → i ∉ fls → ∀ j q, ops[j]? = some q → acts P q = true → j ∉ fls → (L' j = true ↔ j < i + 1) := fun ha hif j q hq hqa hjf => by
    rw [hL']
    by_cases e : j = i
    · subst e; simp
    · rw [if_neg e, hact j q hq hqa hjf]
      have hki := (before ha hif).2
      constructor
      · intro h; omega
      · intro h
        have hji : j < i := by omega
        exact (hact j q hq hqa hjf).1 (waits_listed hd hcl i j (hd.chain j i q o hq ho hji hqa ha hjf hif) hpre')
  unfold wpOp
  rw [List.getElem?_toArray, ho]
  simp only
  rw [hwant]
  rcases stepFl_cases (R.at' ho).2 with ⟨hw, hv, hp, hs⟩ | ⟨hw, hif, e, vs, kk, hq, hv, hp, hs⟩ | ⟨hw, hif, hac, ha, hp⟩ | ⟨hw, hif, hac, ha, hp, hs⟩
  · -- not wanted
    rw [hw]
    simp only [Bool.false_eq_true, if_false]
    have hv' : VR P ρ (trV tr i) undef := by rw [hv]; exact .undef
    by_cases hch : acts P o = true ∧ i ∉ fls
    · obtain ⟨hac, hif⟩ := hch
      obtain ⟨e1, e2⟩ := before hac hif
      refine next ρ (i + 1) undef w (by omega) (after hac hif) hv' (Ren.le_refl _) (by rw [hs, e1]; exact hR) (by rw [hs, e1]; exact hE) ?_ (by rw [hs, e1]; exact hnextk)
      rw [hs, e1]
      exact hA.step hnextk hR (.refl _ _ _) (fun f hf => R.down (by omega) (by omega) hf) (fun p hp => by rw [hL', if_neg (fun e => hif (by rw [← e]; exact hp))]) hfl (fun f hf hl => hA.held f (R.down (by omega) (by omega) hf) hl)
    · have hno : acts P o = false ∨ i ∈ fls := by
        cases hac : acts P o with
        | false => exact .inl rfl
        | true => exact .inr (Classical.byContradiction fun q => hch ⟨hac, q⟩)
      refine next ρ k undef w hk (quiet hno) hv' (Ren.le_refl _) hR hE ⟨fun p hpl hpf hl => ?_, fun f hf hl => ?_, fun f g hf hg hlf hlg => ?_⟩ hnextk
      · rw [hL'] at hl; split at hl
        · cases hl
        · exact hA.free p hpl hpf hl
      all_goals
        have nof : ∀ f, AsideAt pl pe k f → f.p ≠ i := fun f hf e => by
          obtain ⟨_, o2, k2, ho2, hw2, _⟩ := R.made hk hf
          rw [e] at ho2 hw2
          rw [ho] at ho2; cases ho2
          rw [hw] at hw2; cases hw2
      · rw [hL', if_neg (nof f hf)] at hl; exact hA.held f hf hl
      · rw [hL', if_neg (nof f hf)] at hlf
        rw [hL', if_neg (nof g hg)] at hlg
        exact hA.apart f g hf hg hlf hlg
  · -- a row that stands aside
    rw [hw]
    simp only [if_true]
    left
    refine fl_sound hq hops fun cs v' hl hmk => ?_
    have hfree := hA.free i hin hif hL
    have hR' := hR.more hfree (Nat.lt_of_lt_of_le (Nat.add_lt_add_left hin _) hnextk) (m := ⟨w.heap.size, 0, e, cs.size, false⟩) rfl (.cells cs e)
    have hle : ρ.le (ρ.add (base + i) ⟨w.heap.size, 0, e, cs.size, false⟩) := Ren.le_add hfree
    have hold : ∀ q, q < w.heap.size → (w.alloc (.cells cs e)).heap[q]? = w.heap[q]? := fun q hq => by
      simp only [World.alloc, Array.getElem?_push]
      rw [if_neg (by omega)]
    have hoff : ∀ {b'}, b' ≠ base + i → (ρ.add (base + i) ⟨w.heap.size, 0, e, cs.size, false⟩) b' = ρ b' := fun {b'} hn => by unfold Ren.add; rw [if_neg hn]
    have hpres : ∀ b o m', (trS tr σ' k).get b = some o → (ρ.add (base + i) ⟨w.heap.size, 0, e, cs.size, false⟩) b = some m' → ρ b = some m' := fun b o m' hg hm => by
      obtain ⟨m2, hm2, _⟩ := hR.obj b o hg
      have := hle _ _ hm2
      rw [hm] at this; cases this
      exact hm2
    have hE' : Ext ρ0 σo w0 (ρ.add (base + i) ⟨w.heap.size, 0, e, cs.size, false⟩) (trS tr σ' k) (w.alloc (.cells cs e)) := by
      refine ⟨Ren.le_trans hE.ren hle, hE.next, Nat.le_trans hE.size (by simp), hE.os, hE.tape, hE.output, fun q hq hn => ?_, fun q hq ⟨b, o2, m2, hg, hr, hm2, hb⟩ => ?_, fun b hb => ?_, hE.ro⟩
      · rw [hold q (Nat.lt_of_lt_of_le hq hE.size)]; exact hE.frame q hq hn
      · exact hE.fresh q hq ⟨b, o2, m2, hg, hr, hpres b o2 m2 hg hm2, hb⟩
      · rw [hoff (by omega)]; exact hE.old b hb
    have hvr := hmk (ρ.add (base + i) ⟨w.heap.size, 0, e, cs.size, false⟩) (base + i) Ren.add_same
    rw [← hv] at hvr
    refine next _ k v' _ hk (quiet (.inr hif)) hvr hle hR' hE' ?_ hnextk
    have mine : ∀ f, AsideAt pl pe k f → f.p = i → f.e = e ∧ f.vs = vs := fun f hf e1 => by
      obtain ⟨_, o2, k2, ho2, _, hq2⟩ := R.made hk hf
      rw [e1] at ho2 hq2
      rw [ho] at ho2; cases ho2
      rw [hq] at hq2; cases hq2
      exact ⟨rfl, rfl⟩
    have ne : ∀ {p}, p ≠ i → (ρ.add (base + i) ⟨w.heap.size, 0, e, cs.size, false⟩) (base + p) = ρ (base + p) := fun {p} hp => hoff (by omega)
    refine ⟨fun p hpl hpf hl2 => ?_, fun f hf hl2 => ?_, fun f g hf hg hlf hlg hne m m' hm hm' => ?_⟩
    · rw [hL'] at hl2
      split at hl2
      · cases hl2
      · rename_i hp; rw [ne hp]; exact hA.free p hpl hpf hl2
    · rw [hL'] at hl2
      by_cases e1 : f.p = i
      · obtain ⟨e2, e3⟩ := mine f hf e1
        refine ⟨_, by rw [e1]; exact Ren.add_same, hE.size, ?_, fun b o2 m' hg hm hb => ?_⟩
        · refine ⟨e2.symm, rfl, cs, (0, 0), by rw [e2]; exact heap_new _ _, rfl, fun _ => ⟨thaw_zero _, fun _ => rfl⟩, fun q u hu => ?_⟩
          rw [e3, Tr.get_of] at hu
          obtain ⟨u', hu', hr⟩ := hl.get hu
          exact ⟨u', by simpa using hu', hr.mono hle⟩
        · have := hR.lt b m' (hpres b o2 m' hg hm)
          simp only at hb
          omega
      · rw [if_neg e1] at hl2
        obtain ⟨m, hm, hn, ho2, hu⟩ := hA.held f hf hl2
        exact ⟨m, hle _ _ hm, hn, (ho2.of_heap (hold _ (hR.lt _ _ hm))).mono hle, fun b o2 m' hg hm' => hu b o2 m' hg (hpres b o2 m' hg hm')⟩
    · rw [hL'] at hlf hlg
      have old1 : ∀ f, AsideAt pl pe k f → f.p ≠ i → (if f.p = i then true else L f.p) = true → ∀ m, (ρ.add (base + i) ⟨w.heap.size, 0, e, cs.size, false⟩) (base + f.p) = some m → ρ (base + f.p) = some m ∧ L f.p = true := fun f hf h1 h2 m h3 => by
        rw [if_neg h1] at h2; rw [ne h1] at h3; exact ⟨h3, h2⟩
      by_cases e1 : f.p = i
      · have e2 : g.p ≠ i := fun q => hne (e1.trans q.symm)
        rw [e1, Ren.add_same] at hm; cases hm
        have := hR.lt _ _ (old1 g hg e2 hlg m' hm').1
        show w.heap.size ≠ m'.blk
        omega
      · by_cases e2 : g.p = i
        · rw [e2, Ren.add_same] at hm'; cases hm'
          have := hR.lt _ _ (old1 f hf e1 hlf m hm).1
          show m.blk ≠ w.heap.size
          omega
        · obtain ⟨q1, q2⟩ := old1 f hf e1 hlf m hm
          obtain ⟨q3, q4⟩ := old1 g hg e2 hlg m' hm'
          exact hA.apart f g hf hg q2 q4 hne m m' q1 q3
  · -- the chain
    rw [hw]
    simp only [if_true]
    left
    obtain ⟨e1, e2⟩ := before hac hif
    rw [e1] at ha
    have now : ∀ f, f ∈ (trP pl pe i).filter (fun f => waitsFor ops i f.p) → AsideAt pl pe k f ∧ L f.p = true ∧ waitsFor ops i f.p = true := fun f hf => by
      obtain ⟨h1, h2⟩ := List.mem_filter.1 hf
      exact ⟨R.back' e2 (by omega) h1, waits_listed hd hcl i f.p h2 hpre', h2⟩
    have hland := hR.landAll (base := base) (n0 := w0.heap.size) ((trP pl pe i).filter fun f => waitsFor ops i f.p) (List.Nodup.sublist (List.Sublist.map _ List.filter_sublist) (R.pend i (by omega)).2)
      (fun f hf => hA.held f (now f hf).1 (now f hf).2.1) (fun f g hf hg => hA.apart f g (now f hf).1 (now g hg).1 (now f hf).2.1 (now g hg).2.1)
    have hEl := hE.landAll (base := base) ((trP pl pe i).filter fun f => waitsFor ops i f.p) (fun f hf => hA.held f (now f hf).1 (now f hf).2.1)
    refine aop_sound hcall ha hops hG hland fun ρ' v' w' hv hR' hE' => ?_
    refine next ρ' (i + 1) v' w' (by omega) (after hac hif) hv hE'.ren hR' (hEl.trans hE') ?_ (Nat.le_trans (by rw [land_next]; exact hnextk) hE'.next)
    refine hA.step (by rw [land_next]; exact hnextk) hland hE' (fun f hf => R.down (by omega) (by omega) hf) (fun p hp => by rw [hL', if_neg (fun e => hif (by rw [← e]; exact hp))]) hfl (fun f hf hl => ?_)
    obtain ⟨m, hm, hn, ho2, hu⟩ := hA.held f (R.down (by omega) (by omega) hf) hl
    refine ⟨m, hm, hn, ho2, fun b o2 m' hg hm' => ?_⟩
    rcases land_get base _ _ b o2 hg with ⟨g, hg1, rfl, rfl⟩ | hg
    · obtain ⟨n1, n2, n3⟩ := now g hg1
      refine (hA.apart f g (R.down (by omega) (by omega) hf) n1 hl n2 (fun q => ?_) m m' hm hm').symm
      rcases hf with hf | ⟨h1, _⟩
      · rw [hp] at hf
        have := (List.mem_filter.1 hf).2
        rw [q, n3] at this
        cases this
      · have := waits_lt hd i g.p n3
        omega
    · exact hu b o2 m' hg hm'
  · -- what makes nothing
    rw [hw]
    simp only [if_true]
    left
    cases hc : clsOf P o.op with
    | acts => unfold acts at hac; rw [hc] at hac; cases hac
    | pure =>
      have ha2 := (aop_pure hc ha).2 (trS tr σ' k)
      refine aop_sound hcall ha2 hops hG hR fun ρ' v' w' hv hR' hE' => ?_
      exact next ρ' k v' w' hk (quiet (.inl hac)) hv hE'.ren hR' (hE.trans hE') (still hif hE') hnextk
    | reads =>
      have hrd : isReads P o = true := by unfold isReads; rw [hc]
      have ha2 : aop P call o (trF tr fr' i) (trS tr σ' k) = some (trV tr i, trS tr σ' k) := by
        rcases Nat.lt_or_ge i k with hik | hik
        · by_cases hex : ∃ u q, i < u ∧ u < k ∧ ops[u]? = some q ∧ acts P q = true ∧ u ∉ fls
          · have : ∃ u q, i < u ∧ u < k ∧ ops[u]? = some q ∧ (acts P q = true ∧ u ∉ fls) ∧ ∀ j z, u < j → j < k → ops[j]? = some z → acts P z = true → j ∈ fls := by
              obtain ⟨u, q, h1, h2, h3, h4⟩ := hex
              have key : ∀ d u q, k - u = d → i < u → u < k → ops[u]? = some q → (acts P q = true ∧ u ∉ fls) → ∃ u q, i < u ∧ u < k ∧ ops[u]? = some q ∧ (acts P q = true ∧ u ∉ fls) ∧ ∀ j z, u < j → j < k → ops[j]? = some z → acts P z = true → j ∈ fls := by
                intro d
                induction d using Nat.strongRecOn with
                | _ d ih =>
                  intro u q hd1 h1 h2 h3 h4
                  by_cases hl : ∃ j z, u < j ∧ j < k ∧ ops[j]? = some z ∧ (acts P z = true ∧ j ∉ fls)
                  · obtain ⟨j, z, g1, g2, g3, g4⟩ := hl
                    exact ih (k - j) (by omega) j z rfl (by omega) g2 g3 g4
                  · exact ⟨u, q, h1, h2, h3, h4, fun j z g1 g2 g3 hz => Classical.byContradiction fun hj => hl ⟨j, z, g1, g2, g3, hz, hj⟩⟩
              exact key _ u q rfl h1 h2 h3 h4
            obtain ⟨u, q, h1, h2, h3, ⟨h4, h4'⟩, h5⟩ := this
            have hlu : L u = true := (hact u q h3 h4 h4').2 h2
            have w1 : waitsFor ops u i = false := by
              cases hq : waitsFor ops u i with
              | false => rfl
              | true =>
                have := waits_listed hd hcl u i hq (fun b hb e he hbd => hcl u b hb hlu e he hbd)
                rw [this] at hL; cases hL
            have w2 : waitsFor ops i u = false := by
              cases hq : waitsFor ops i u with
              | false => rfl
              | true => have := waits_lt hd i u hq; omega
            have hr := (retold_specF (fr' := fr') hret (unruly_mem h3 ho h4 hrd w1 w2) ho hc hw).2
            have hs2 := R.same (k - (u + 1)) (u + 1) (by omega) (fun j z g1 g2 g3 g4 => h5 j z (by omega) (by omega) g3 g4)
            rw [show u + 1 + (k - (u + 1)) = k by omega] at hs2
            rw [hs2]; exact hr
          · have hs2 := R.same (k - i) i (by omega) (fun j z g1 g2 g3 hz => by
              by_cases e : j = i
              · subst e; rw [ho] at g3; cases g3; rw [hac] at hz; cases hz
              · exact Classical.byContradiction fun hj => hex ⟨j, z, by omega, by omega, g3, hz, hj⟩)
            rw [show i + (k - i) = k by omega] at hs2
            rw [hs2, ha]
        · by_cases hex : ∃ u q, k ≤ u ∧ u < i ∧ ops[u]? = some q ∧ acts P q = true ∧ u ∉ fls
          · have : ∃ u q, k ≤ u ∧ u < i ∧ ops[u]? = some q ∧ (acts P q = true ∧ u ∉ fls) ∧ ∀ j z, k ≤ j → j < u → ops[j]? = some z → acts P z = true → j ∈ fls := by
              obtain ⟨u, q, h1, h2, h3, h4⟩ := hex
              have key : ∀ u, ∀ q, k ≤ u → u < i → ops[u]? = some q → (acts P q = true ∧ u ∉ fls) → ∃ u q, k ≤ u ∧ u < i ∧ ops[u]? = some q ∧ (acts P q = true ∧ u ∉ fls) ∧ ∀ j z, k ≤ j → j < u → ops[j]? = some z → acts P z = true → j ∈ fls := by
                intro u
                induction u using Nat.strongRecOn with
                | _ u ih =>
                  intro q h1 h2 h3 h4
                  by_cases hl : ∃ j z, k ≤ j ∧ j < u ∧ ops[j]? = some z ∧ (acts P z = true ∧ j ∉ fls)
                  · obtain ⟨j, z, g1, g2, g3, g4⟩ := hl
                    exact ih j g2 z g1 (by omega) g3 g4
                  · exact ⟨u, q, h1, h2, h3, h4, fun j z g1 g2 g3 hz => Classical.byContradiction fun hj => hl ⟨j, z, g1, g2, g3, hz, hj⟩⟩
              exact key u q h1 h2 h3 h4
            obtain ⟨u, q, h1, h2, h3, ⟨h4, h4'⟩, h5⟩ := this
            have hlu : L u = false := by
              cases hq : L u with
              | false => rfl
              | true => have := (hact u q h3 h4 h4').1 hq; omega
            have w1 : waitsFor ops u i = false := by
              cases hq : waitsFor ops u i with
              | false => rfl
              | true => have := waits_lt hd u i hq; omega
            have w2 : waitsFor ops i u = false := by
              cases hq : waitsFor ops i u with
              | false => rfl
              | true =>
                have := waits_listed hd hcl i u hq hpre'
                rw [this] at hlu; cases hlu
            have hr := (retold_specF (fr' := fr') hret (unruly_mem h3 ho h4 hrd w1 w2) ho hc hw).1
            have hs2 := R.same (u - k) k (by omega) (fun j z g1 g2 g3 g4 => h5 j z g1 (by omega) g3 g4)
            rw [show k + (u - k) = u by omega] at hs2
            rw [← hs2]; exact hr
          · have hs2 := R.same (i - k) k (by omega) (fun j z g1 g2 g3 hz => Classical.byContradiction fun hj => hex ⟨j, z, g1, by omega, g3, hz, hj⟩)
            rw [show k + (i - k) = i by omega] at hs2
            rw [← hs2, ha]
      refine aop_sound hcall ha2 hops hG hR fun ρ' v' w' hv hR' hE' => ?_
      exact next ρ' k v' w' hk (quiet (.inl hac)) hv hE'.ren hR' (hE.trans hE') (still hif hE') hnextk
end Go.AE
