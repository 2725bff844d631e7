/- Appending; lengths; clearing. -/
import Derived.Test.YtongccpmdndcgaaGreatDoorEngL
namespace Go.AE
set_option linter.unusedVariables false
set_option linter.unusedSimpArgs false
variable {P : Program} {ρ : Ren} {σ : AHeap} {w : World}

/-- The model's append once the cells to append are read. -/
theorem run_append_room {ts : Array TypeId} {t xt ty elem size n sLen sCap : Nat} {dx : TypeDesc} {base : Option Addr} {x : Value} {cs : List Value} (ht : ts[0]? = some t) (ht1 : ts[1]? = some xt) (hu : P.underlying t = some (.slice elem)) (hux : P.underlying xt = some dx) (hdx : ∀ k, dx ≠ .int k)
    (hs : sizeOf' P elem = some size) (hn : (Builtin.lenOf x).run P w = .ok n w) (hf : (Builtin.firstCells size n x).run P w = .ok cs.toArray w) (hle : sLen + n ≤ sCap) :
    (Builtin.append_ ts ty #[.slice base sLen sCap, x]).run P w = match base with
      | none => .ok (.slice none (sLen + n) sCap) w
      | some a => ((storeCells (a.add (sLen * size)) cs).run P w).andThen fun _ w' => .ok (.slice (some a) (sLen + n) sCap) w' := by
  have hz : (match dx with | .int _ => true | _ => false) = false := by cases dx <;> first | rfl | exact absurd rfl (hdx _)
  simp only [Builtin.append_, ht, ht1, List.getElem?_toArray, List.getElem?_cons_zero, List.getElem?_cons_succ, Sem.run_bind, run_under hu, run_under hux, Result.andThen_ok, info_size hs, Sem.run_pure, hz, Bool.false_eq_true, if_false, hn]
  rw [if_pos hle]
  simp only [Bool.not_false, if_true, Sem.run_bind, hf, Result.andThen_ok]
  cases base with
  | none => simp
  | some a => simp
theorem run_append_new {ts : Array TypeId} {t xt ty elem n sLen sCap : Nat} {i : TypeInfo} {z : Value} {dx : TypeDesc} {base : Option Addr} {x : Value} {cs old : List Value} (ht : ts[0]? = some t) (ht1 : ts[1]? = some xt) (hu : P.underlying t = some (.slice elem)) (hux : P.underlying xt = some dx) (hdx : ∀ k, dx ≠ .int k)
    (hi : P.info? elem = some i) (hz : i.zero = some z) (hby : i.bytes ≤ 1048576) (hn : (Builtin.lenOf x).run P w = .ok n w) (hlt : sCap < sLen + n) (hle : sLen + n ≤ 1048576)
    (ho : (Builtin.firstCells i.size sLen (.slice base sLen sCap)).run P w.drew = .ok old.toArray w.drew) (hf : (Builtin.firstCells i.size n x).run P w.drew = .ok cs.toArray w.drew) :
    ∃ c, sLen + n ≤ c ∧ (Builtin.append_ ts ty #[.slice base sLen sCap, x]).run P w = .ok (.slice (some ⟨w.heap.size, 0, none⟩) (sLen + n) c) (w.drew.alloc (.cells (old.toArray ++ cs.toArray ++ Builtin.zeroCells z.cells (c - (sLen + n))) elem)) := by
  have hzz : (match dx with | .int _ => true | _ => false) = false := by cases dx <;> first | rfl | exact absurd rfl (hdx _)
  refine ⟨(Question.appendCap (sLen + n) sCap elem).cut (w.tape w.drawn (.appendCap (sLen + n) sCap elem)), Nat.le_add_right _ _, ?_⟩
  have hsz : (sizeOf elem).run P w = .ok i.size w := by simp [sizeOf, typeInfo, hi]
  have hcap := nextslicecap_le hlt
  have hmul : Builtin.nextslicecap (sLen + n) sCap * i.bytes ≤ 2097152 * 1048576 := Nat.mul_le_mul (by omega) hby
  simp only [Builtin.append_, ht, ht1, List.getElem?_toArray, List.getElem?_cons_zero, List.getElem?_cons_succ, Sem.run_bind, run_under hu, run_under hux, Result.andThen_ok, hsz, Sem.run_pure, hzz, Bool.false_eq_true, if_false, hn]
  rw [if_neg (by omega)]
  have hty : ∀ w : World, (typeInfo elem).run P w = .ok i w := fun w => by simp [typeInfo, hi]
  have hmax : ¬ ((((sLen + n : Nat) : Int) > IntKind.i64.max) ∧ (False ∨ i.bytes = 0)) := by
    have : IntKind.i64.max = 9223372036854775807 := by decide
    omega
  simp only [Sem.run_bind, hty, Result.andThen_ok]
  rw [if_neg (by simpa using hmax)]
  simp only [Sem.run_bind, hty, Result.andThen_ok]
  rw [if_neg (by omega)]
  have e1 : (choose (Question.appendCap (sLen + n) sCap elem)).run P w = .ok ((Question.appendCap (sLen + n) sCap elem).cut (w.tape w.drawn (.appendCap (sLen + n) sCap elem))) w.drew := by
    rw [run_choose]; rfl
  simp only [Sem.run_bind, e1, Result.andThen_ok, hty, run_askRoom, ho, Bool.not_false, if_true, hf]
  have hzv : (zeroValue elem).run P w.drew = .ok z w.drew := by simp [zeroValue, typeInfo, hi, hz]
  simp only [hzv, Result.andThen_ok, run_newRow, Sem.run_pure]
  rfl
theorem zeroCells_len (z : Array Value) (n : Nat) : (Builtin.zeroCells z n).size = n * z.size := by simp [Builtin.zeroCells]

theorem append_out {ts : Array TypeId} {ty : Nat} {s x s' x' v : Value} {t : TypeId} {σ' : AHeap} (ht : ts[0]? = some t) (h : append' P t ts[1]? s x σ = some (v, σ')) (hR : Rel P ρ σ w) (hs : VR P ρ s s') (hx : VR P ρ x x') :
    OutV P ρ σ w v σ' ((Builtin.append_ ts ty #[s', x']).run P w) := by
  unfold append' at h
  split at h
  · rename_i elem base sLen sCap hu
    split at h
    · rename_i size zs xt he hxt
      obtain ⟨i, z, hi, hz, hpl, hzs, hby, rfl, rfl⟩ := elemOk_spec he
      have hsz : sizeOf' P elem = some i.size := by simp [sizeOf', hi]
      split at h
      · cases h
      · rename_i dx hdx hux
        split at h
        · rename_i n hn
          split at h
          · rename_i cs hf
            obtain ⟨cs', hl, hfr⟩ := hR.first hf hx (fun k hk => by rw [hn] at hk; cases hk; exact Nat.le_refl _)
            have hlen := lenOf_sound (w := w) hn hx
            obtain ⟨csd, hld, hfd⟩ := hR.drew.first hf hx (fun k hk => by rw [hn] at hk; cases hk; exact Nat.le_refl _)
            unfold appendCells at h
            split at h
            · rename_i hle
              have hle := Nat.le_of_ble_eq_true hle
              split at h
              · cases h
                rw [hs.atom_inv rfl]
                refine .same hR (v' := .slice none (sLen + n) sCap) (.atom rfl) ?_
                rw [run_append_room ht hxt hu hux hdx hsz hlen hfr hle]
              · rename_i a
                split at h
                · rename_i σ2 hst
                  cases h
                  have hpos : cs ≠ [] → 0 < sCap := fun hne => by
                    rcases Nat.eq_zero_or_pos sCap with h0 | h0
                    · exfalso
                      obtain rfl : n = 0 := by omega
                      apply hne
                      cases x with
                      | slice b q r => cases b with | none => simpa [firstCells'] using hf.symm | some b => simpa [firstCells', AE.ldCells] using hf.symm
                      | string u => simpa [firstCells'] using hf.symm
                      | _ => simp [firstCells'] at hf
                    · exact h0
                  obtain ⟨a', c', w', rfl, hcc, h1, h2, h3⟩ := hR.stSlice hs hst hl hpos
                  refine ⟨ρ, .slice (some a') (sLen + n) c', w', ?_, ?_, h2, h3⟩
                  · rw [run_append_room ht hxt hu hux hdx hsz hlen hfr (by omega)]
                    simp only [h1, Result.andThen_ok]
                  · rcases hs.slice_inv with ⟨m, c2, s2, hsp, hm, hn2, hc2, hz2, e2⟩ | ⟨m, a2, hsp, hm, hg2, rfl, rfl, e2⟩ | ⟨k, a2, hsp, rfl, rfl, e2⟩
                    · cases e2
                      obtain ⟨b, o, sp⟩ := a
                      simp only at hsp hm; subst hsp
                      exact .slice hm (by omega) hc2 hz2
                    · cases e2
                      obtain rfl : n = 0 := by omega
                      obtain ⟨b, o, sp⟩ := a
                      simp only at hsp hm; subst hsp
                      exact .tail hm hg2
                    · cases e2
                      obtain rfl : n = 0 := by omega
                      exact .empty hsp
                · cases h
            · rename_i hnle
              have hnle : sCap < sLen + n := by
                rcases Nat.lt_or_ge sCap (sLen + n) with q | q
                · exact q
                · rw [Nat.ble_eq_true_of_le q] at hnle; cases hnle
              split at h
              · rename_i old ho
                split at h
                · rename_i hb
                  simp only [Bool.and_eq_true, beq_tf, decide_eq_true_eq, Nat.ble_eq] at hb
                  obtain ⟨⟨⟨hbig, hol0⟩, hcl0⟩, hsing⟩ := hb
                  obtain ⟨old', hol, hor⟩ := hR.drew.first ho hs (fun k hk => by simp only [lenOf', Option.some.injEq] at hk; omega)
                  -- a new row
                  have fresh : ∀ (σ0 : AHeap), Rel P ρ σ0 w → Ext ρ σ w ρ σ0 w → ∀ (base' : Option Addr) (cap' : Nat), s' = .slice base' sLen cap' → cap' < sLen + n →
                      OutV P ρ σ w (.slice (some ⟨(newCells σ0 elem (old ++ cs) true).1, 0, none⟩) (sLen + n) (sLen + n)) (newCells σ0 elem (old ++ cs) true).2 ((Builtin.append_ ts ty #[s', x']).run P w) := by
                    intro σ0 hR0 hE0 base' cap' e hlt
                    subst e
                    obtain ⟨c, hc, hrun⟩ := run_append_new (ty := ty) (w := w) ht hxt hu hux hdx hi hz hby hlen hlt hbig hor hfd
                    have hlr := hol.append hld
                    obtain ⟨g1, g2⟩ := hR0.drew.newCells elem true hlr (Builtin.zeroCells z.cells (c - (sLen + n))).toList (0, 0) (thaw_zero _)
                    have harr : (old' ++ csd ++ (Builtin.zeroCells z.cells (c - (sLen + n))).toList).toArray = old'.toArray ++ csd.toArray ++ Builtin.zeroCells z.cells (c - (sLen + n)) := by apply Array.ext'; simp
                    rw [harr] at g1 g2
                    have hrows : (old' ++ csd ++ (Builtin.zeroCells z.cells (c - (sLen + n))).toList).length = c * i.size := by
                      rw [List.length_append, List.length_append, ← hol.len, ← hld.len, hol0, hcl0, Array.length_toList, zeroCells_len, hzs, ← Nat.add_mul, ← Nat.add_mul]
                      congr 1
                      omega
                    refine ⟨_, _, _, hrun, ?_, g1, (hE0.trans Ext.drew).trans g2⟩
                    have := VR.slice (P := P) (s := i.size) (o := 0) (n := sLen + n) (c := sLen + n) (c' := c) (Ren.add_same (ρ := ρ) (b := σ0.next) (m := ⟨w.drew.heap.size, 0, elem, (old' ++ csd ++ (Builtin.zeroCells z.cells (c - (sLen + n))).toList).length, true⟩)) (Nat.le_refl _) hc (.inr ⟨rfl, hsz, by show 0 + 0 + c * i.size ≤ (old' ++ csd ++ (Builtin.zeroCells z.cells (c - (sLen + n))).toList).length; rw [hrows]; omega⟩)
                    exact this
                  split at h
                  · cases h
                    exact fresh σ hR (.refl _ _ _) none sCap (hs.atom_inv rfl) hnle
                  · rename_i a
                    split at h
                    · rename_i k hk
                      cases h
                      rcases hs.slice_inv with ⟨_, _, _, hsp, _⟩ | ⟨_, _, hsp, _⟩ | ⟨k2, a2, hsp, rfl, rfl, e2⟩
                      · rw [hk] at hsp; cases hsp
                      · rw [hk] at hsp; cases hsp
                      · exact fresh σ hR (.refl _ _ _) (some a2) 0 e2 hnle
                    · rename_i hsp0
                      split at h
                      · rename_i nn c e hg
                        split at h
                        · rename_i hee
                          have hee : e = elem := Nat.eq_of_beq_eq_true hee
                          subst hee
                          cases h
                          rcases hs.slice_inv with ⟨m, c2, s2, hsp, hm, hn2, hc2, hz2, e2⟩ | ⟨m, a2, hsp, hm, hg2, rfl, rfl, e2⟩ | ⟨k, a2, hsp, _⟩
                          · by_cases hroom : sLen + n ≤ c2
                            · -- written in place
                              subst e2
                              obtain ⟨b, o, sp⟩ := a
                              simp only at hsp hm hg hz2; subst hsp
                              obtain ⟨m3, hm3, hme, hmg, d, fz, hheap, hdz, hth, hcell⟩ := hR.obj b _ hg
                              rw [hm] at hm3; cases hm3
                              have hz3 := hz2.resolve_left (by omega)
                              rw [hme] at hz3
                              obtain ⟨_, hs2, hbd⟩ := hz3
                              rw [hsz] at hs2; cases hs2
                              simp only [firstCells'] at ho
                              obtain ⟨_, olds, holr, holc⟩ := hR.ldCells ho hm
                              have hmul : (sLen + n) * i.size ≤ c2 * i.size := Nat.mul_le_mul_right _ hroom
                              rw [Nat.add_mul] at hmul
                              have hcl' : cs'.length = n * i.size := by rw [← hl.len, hcl0]
                              have one : ∀ v ∈ cs', v.oneCell' = true := fun v' hv' => by
                                obtain ⟨q, hq⟩ := List.getElem?_of_mem hv'
                                obtain ⟨v, hv, hr⟩ := hl.get' hq
                                rw [hr.single]; exact List.all_eq_true.1 hsing v (List.mem_of_getElem? hv)
                              have hst := run_store_row (P := P) (o := o + m.shift + sLen * i.size) (vs := cs') hheap (by rw [hdz]; exact (hth rfl).1) (by rw [hdz, hcl']; omega) one
                              obtain ⟨d', hd', hds, hdc⟩ := setCells_heap m.blk cs' (o + m.shift + sLen * i.size) w d e fz hheap
                              obtain ⟨r1, r2, r3, r4⟩ := setCells_rest m.blk cs' (o + m.shift + sLen * i.size) w
                              have hfree : ρ σ.next = none := hR.dom _ (Nat.le_refl _)
                              have hle := Ren.le_add (m := (⟨m.blk, o + m.shift, e, m.rows, true⟩ : Img)) hfree
                              refine ⟨ρ.add σ.next ⟨m.blk, o + m.shift, e, m.rows, true⟩, .slice (some ⟨m.blk, o + m.shift, none⟩) (sLen + n) c2, _, ?_, ?_,
                                hR.regrow (o' := .cells (old ++ cs).length (Tr.ofList (old ++ cs) 0 .leaf) e true false) (m' := ⟨m.blk, o + m.shift, e, m.rows, true⟩) hg rfl hm rfl r1 (fun k hk => setCells_other _ _ _ _ k hk) ⟨rfl, rfl, d', fz, hd', by rw [hds, hdz], fun _ => ⟨(hth rfl).1, fun q => by cases q⟩, fun q v hv => ?_⟩, .regrow (m' := ⟨m.blk, o + m.shift, e, m.rows, true⟩) hR rfl hg rfl hm rfl r1 (fun k hk => setCells_other _ _ _ _ k hk) r2 r3 r4⟩
                              · rw [run_append_room ht hxt hu hux hdx hsz hlen hfr hroom]
                                simp only [addr_add, hst, Result.andThen_ok]
                              · have := VR.slice (P := P) (s := i.size) (o := 0) (n := sLen + n) (c := sLen + n) (c' := c2) (Ren.add_same (ρ := ρ) (b := σ.next) (m := ⟨m.blk, o + m.shift, e, m.rows, true⟩)) (Nat.le_refl _) hroom (.inr ⟨rfl, hsz, by show 0 + (o + m.shift) + c2 * i.size ≤ m.rows; omega⟩)
                                rw [Nat.zero_add] at this
                                exact this
                              · rw [Tr.get_of, List.getElem?_append] at hv
                                show ∃ v', d'[q + (o + m.shift)]? = some v' ∧ _
                                rw [hdc]
                                split at hv
                                · rename_i hq
                                  obtain ⟨v', hv', hr⟩ := holr.get hv
                                  refine ⟨v', ?_, hr.mono hle⟩
                                  rw [if_neg (by omega)]
                                  have := holc q v' hv'
                                  rw [cell_of hheap] at this
                                  rw [show q + (o + m.shift) = o + m.shift + q by omega]
                                  exact this
                                · rename_i hq
                                  obtain ⟨v', hv', hr⟩ := hl.get hv
                                  have hlt := (List.getElem?_eq_some_iff.1 hv').1
                                  refine ⟨v', ?_, hr.mono hle⟩
                                  rw [if_pos (by omega), show q + (o + m.shift) - (o + m.shift + sLen * i.size) = q - old.length by omega]
                                  exact hv'
                            · exact fresh _ (hR.drop a.block) (.drop a.block) _ c2 e2 (by omega)
                          · exact fresh _ (hR.drop a.block) (.drop a.block) (some a2) 0 e2 hnle
                          · rw [hsp0] at hsp; cases hsp
                        · cases h
                      · rename_i nn c e ro hg
                        cases h
                        rcases hs.slice_inv with ⟨m, c2, s2, hsp, hm, hn2, hc2, hz2, e2⟩ | ⟨m, a2, hsp, hm, hg2, _⟩ | ⟨k, a2, hsp, _⟩
                        · obtain ⟨m3, hm3, hme, hmg, _⟩ := hR.obj a.block _ hg
                          rw [hm] at hm3; cases hm3
                          have : sCap = c2 := by
                            rcases hz2 with q | ⟨q, _⟩
                            · exact q
                            · rw [hmg] at q; cases q
                          exact fresh σ hR (.refl _ _ _) _ c2 e2 (by omega)
                        · obtain ⟨m3, hm3, hme, hmg, _⟩ := hR.obj a.block _ hg
                          rw [hm] at hm3; cases hm3
                          rw [hmg] at hg2; cases hg2
                        · rw [hsp0] at hsp; cases hsp
                      · cases h
                · cases h
              · cases h
          · cases h
        · cases h
      · cases h
    · cases h
  · cases h
end Go.AE
