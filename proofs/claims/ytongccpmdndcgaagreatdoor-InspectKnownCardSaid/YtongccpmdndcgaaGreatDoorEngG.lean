/- Parts, addresses, bounds. -/
import Derived.Test.YtongccpmdndcgaaGreatDoorEngF
namespace Go.AE
set_option linter.unusedVariables false
set_option linter.unusedSimpArgs false
variable {P : Program} {ρ : Ren} {σ : AHeap} {w : World}

theorem VR.ptr' {b o k : Nat} {m : Img} (h : ρ b = some m) (e : k = o + m.shift) : VR P ρ (.pointer (some ⟨b, o, none⟩)) (.pointer (some ⟨m.blk, k, none⟩)) := e ▸ .ptr h
theorem nat_inv {v v' : Value} {n : Nat} (h : natOf v = some n) (hv : VR P ρ v v') : v' = v ∧ ∃ k, v = .int k (n : Int) := by
  unfold natOf at h
  split at h
  · cases h; exact ⟨hv.atom_inv rfl, _, rfl⟩
  · cases h
theorem idx_inv {v v' : Value} {len i : Nat} (h : idx v len = some i) (hv : VR P ρ v v') : i < len ∧ ∃ k, v' = .int k (i : Int) := by
  unfold idx at h
  cases hn : natOf v with
  | none => rw [hn] at h; simp at h
  | some n =>
    rw [hn] at h
    simp only [Option.bind_some] at h
    split at h
    · rename_i hlt
      cases h
      obtain ⟨rfl, k, hk⟩ := nat_inv hn hv
      exact ⟨hlt, k, hk⟩
    · cases h
theorem run_asIntOf (k : IntKind) (n : Int) : (asIntOf (.int k n)).run P w = .ok (k, n) w := rfl

/-! Parts. -/
theorem LR.extract {x x' : Array Value} (h : LR P ρ x.toList x'.toList) (a b : Nat) : LR P ρ (x.extract a b).toList (x'.extract a b).toList := by
  simp only [Array.toList_extract, List.extract_eq_take_drop]
  exact (h.drop a).take _
theorem part_sound {t : TypeId} {cs cs' : Array Value} {off : Nat} {v : Value} (h : part' P t cs off = some v) (hl : LR P ρ cs.toList cs'.toList) :
    ∃ v', (part t cs' off).run P w = .ok v' w ∧ VR P ρ v v' := by
  unfold part' at h
  split at h
  · rename_i ha
    cases hs : sizeOf' P t with
    | none => rw [hs] at h; simp at h
    | some n =>
      rw [hs] at h
      simp only [Option.map_some, Option.some.injEq] at h
      subst h
      exact ⟨.agg (cs'.extract off (off + n)), by simp [part, info_agg ha, info_size hs], VR.agg_iff (hl.extract _ _)⟩
  · rename_i ha
    obtain ⟨v', hv', hr⟩ := hl.get (i := off) (v := v) (by simpa using h)
    exact ⟨v', by simp only [part, Sem.run_bind, info_agg ha, Result.andThen_ok, Bool.false_eq_true, if_false]; rw [show cs'[off]? = some v' by simpa using hv']; rfl, hr⟩
  · cases h
theorem fieldVal_out {t : TypeId} {x x' v : Value} {i : Nat} (h : fieldVal P t x i = some v) (hR : Rel P ρ σ w) (hx : VR P ρ x x') : OutV P ρ σ w v σ ((Instr.field t x' i).run P w) := by
  unfold fieldVal at h
  split at h
  · rename_i fields cs hu
    obtain ⟨cs', rfl, hl⟩ := hx.agg_inv
    cases hf : fields[i]? with
    | none => rw [hf] at h; simp at h
    | some f =>
      rw [hf] at h
      simp only [Option.bind_some] at h
      obtain ⟨v', hp, hr⟩ := part_sound (w := w) h hl
      exact .same hR hr (by simp only [Instr.field, Sem.run_bind, run_under hu, Result.andThen_ok, hf, asAgg, Sem.run_pure]; exact hp)
  · cases h
theorem indexVal_out {t : TypeId} {x x' ix ix' v : Value} (h : indexVal P t x ix = some v) (hR : Rel P ρ σ w) (hx : VR P ρ x x') (hi : VR P ρ ix ix') : OutV P ρ σ w v σ ((Instr.index t x' ix').run P w) := by
  unfold indexVal at h
  split at h
  · rename_i len elem cs hu
    obtain ⟨cs', rfl, hl⟩ := hx.agg_inv
    split at h
    · rename_i s i hs hix
      obtain ⟨hlt, k, rfl⟩ := idx_inv hix hi
      obtain ⟨v', hp, hr⟩ := part_sound (w := w) h hl
      refine .same hR hr ?_
      simp only [Instr.index, Sem.run_bind, run_asIntOf, run_under hu, Result.andThen_ok]
      rw [if_pos (by omega)]
      simp only [Sem.run_bind, info_size hs, Result.andThen_ok, Int.toNat_natCast]
      exact hp
    · cases h
  · rename_i s hu
    rw [hx.string_inv]
    cases hix : idx ix s.size with
    | none => rw [hix] at h; simp at h
    | some i =>
      rw [hix] at h
      simp only [Option.bind_some] at h
      cases hb : s.data.toList[i]? with
      | none => rw [hb] at h; simp at h
      | some b =>
        rw [hb] at h
        simp only [Option.map_some, Option.some.injEq] at h
        subst h
        obtain ⟨hlt, k, rfl⟩ := idx_inv hix hi
        refine .same hR (v' := .int .u8 b.toNat) (.atom rfl) ?_
        simp only [Instr.index, Sem.run_bind, run_asIntOf, run_under hu, Result.andThen_ok]
        rw [if_pos (by omega), Int.toNat_natCast]
        have : s[i]? = some b := by
          rw [← hb]
          simp only [Array.getElem?_toList]
          by_cases h : i < s.size
          · have h' : i < s.data.size := h
            rw [getElem?_pos s i h, getElem?_pos s.data i h']
            rfl
          · exact absurd hlt h
        rw [this]
        rfl
  · cases h
theorem indexAddr_out {t : TypeId} {x x' ix ix' v : Value} (h : indexAddr P t x ix = some v) (hR : Rel P ρ σ w) (hx : VR P ρ x x') (hi : VR P ρ ix ix') : OutV P ρ σ w v σ ((Instr.indexAt t x' ix').run P w) := by
  unfold indexAddr at h
  split at h
  · rename_i len elem a hu
    obtain ⟨m, hm, hsp, rfl⟩ := hx.ptr_inv
    split at h
    · rename_i s i hs hix
      cases h
      obtain ⟨hlt, k, rfl⟩ := idx_inv hix hi
      obtain ⟨b, o, sp⟩ := a
      simp only at hsp hm; subst hsp
      refine .same hR (v' := .pointer (some ⟨m.blk, o + m.shift + i * s, none⟩)) (by rw [addr_add]; exact .ptr' hm (by omega)) ?_
      simp only [Instr.indexAt, Sem.run_bind, run_asIntOf, run_under hu, Result.andThen_ok, Instr.sureAddr, Sem.run_pure]
      rw [if_pos (by omega)]
      simp only [Sem.run_bind, info_size hs, Result.andThen_ok, Int.toNat_natCast, Sem.run_pure, addr_add]
    · cases h
  · rename_i elem a len c hu
    split at h
    · rename_i s i hsp hs hix
      cases h
      obtain ⟨hlt, k, rfl⟩ := idx_inv hix hi
      obtain ⟨b, o, sp⟩ := a
      simp only at hsp; subst hsp
      rcases hx.slice_inv with ⟨m, c', s', _, hm, hn, hc, hz, rfl⟩ | ⟨m, a', _, _, _, h0, _, _⟩ | ⟨k', a', h0, _⟩
      · refine .same hR (v' := .pointer (some ⟨m.blk, o + m.shift + i * s, none⟩)) (by rw [addr_add]; exact .ptr' hm (by omega)) ?_
        simp only [Instr.indexAt, Sem.run_bind, run_asIntOf, run_under hu, Result.andThen_ok, Sem.run_pure]
        rw [if_pos (by omega)]
        simp only [Sem.run_bind, info_size hs, Result.andThen_ok, Int.toNat_natCast, Sem.run_pure, addr_add]
      · omega
      · simp at h0
    · cases h
  · cases h
theorem fieldAddr_out {t : TypeId} {x x' v : Value} {i : Nat} (h : fieldAddr P t x i = some v) (hR : Rel P ρ σ w) (hx : VR P ρ x x') : OutV P ρ σ w v σ ((Instr.fieldAt t x' i).run P w) := by
  unfold fieldAddr at h
  split at h
  · rename_i fields a hu
    obtain ⟨m, hm, hsp, rfl⟩ := hx.ptr_inv
    split at h
    · rename_i f hf
      split at h
      · rename_i n hs
        cases h
        obtain ⟨b, o, sp⟩ := a
        simp only at hsp hm; subst hsp
        refine .same hR (v' := .pointer (some ⟨m.blk, o + m.shift + f.offset, none⟩)) (by rw [addr_add]; exact .ptr' hm (by omega)) ?_
        simp only [Instr.fieldAt, Sem.run_bind, run_under hu, Result.andThen_ok, hf, Instr.sureAddr, Sem.run_pure, fieldPlace, info_size hs]
        simp [addr_add]
      · cases h
    · cases h
  · cases h

/-! A struct or an array out of parts. -/
theorem foldl_set (off : Nat) : ∀ (l : List Value) (k : Nat) (a : Array Value), off + k + l.length ≤ a.size →
    ((l.zipIdx k).foldl (fun cs x => cs.setIfInBounds (off + x.2) x.1) a).toList = a.toList.take (off + k) ++ l ++ a.toList.drop (off + k + l.length)
  | [], k, a, h => by simp
  | v :: l, k, a, h => by
    rw [List.zipIdx_cons, List.foldl_cons, foldl_set off l (k + 1) _ (by simp at h ⊢; omega)]
    simp only [List.length_cons] at h ⊢
    rw [Array.toList_setIfInBounds, List.take_set, List.drop_set]
    have hlt : off + k < a.toList.length := by simp; omega
    rw [if_pos (by omega)]
    apply List.ext_getElem?
    intro i
    simp only [List.append_assoc]
    conv => lhs; rw [List.getElem?_append]
    conv => rhs; rw [List.getElem?_append]
    simp only [List.length_set, List.length_take, Array.length_toList]
    rw [show min (off + (k + 1)) a.size = off + k + 1 by omega, show min (off + k) a.size = off + k by omega]
    by_cases h1 : i < off + k
    · rw [if_pos (by omega), if_pos h1, List.getElem?_set, if_neg (by omega), List.getElem?_take, List.getElem?_take, if_pos (by omega), if_pos h1]
    · by_cases h2 : i = off + k
      · subst h2
        rw [if_pos (by omega), if_neg (by omega), List.getElem?_set, if_pos rfl]
        simp
        omega
      · rw [if_neg (by omega), if_neg h1]
        obtain ⟨j, hj⟩ : ∃ j, i - (off + k) = j + 1 := ⟨i - (off + k) - 1, by omega⟩
        rw [hj, show i - (off + k + 1) = j by omega]
        simp only [List.cons_append, List.getElem?_cons_succ]
        rw [show off + (k + 1) + l.length = off + k + (l.length + 1) by omega]
theorem fill_sound {place : Nat → Option (Nat × Nat)} : ∀ (parts parts' : List (Nat × Value)) (cells : List Value) (cells' : Array Value) (r : List Value), fill' place cells parts = some r → LR P ρ cells cells'.toList →
    parts.map (·.1) = parts'.map (·.1) → LR P ρ (parts.map (·.2)) (parts'.map (·.2)) → ∃ r', Instr.fill place cells' parts' = some r' ∧ LR P ρ r r'.toList
  | [], parts', cells, cells', r, h, hl, hi, hv => by
    cases parts' with
    | nil => simp only [fill', Option.some.injEq] at h; subst h; exact ⟨cells', rfl, hl⟩
    | cons => simp at hi
  | (i, v) :: rest, parts', cells, cells', r, h, hl, hi, hv => by
    cases parts' with
    | nil => simp at hi
    | cons p rest' =>
      obtain ⟨i', v'⟩ := p
      simp only [List.map_cons, List.cons.injEq] at hi
      obtain ⟨rfl, hi⟩ := hi
      obtain ⟨u, us, he, hvv, hvs⟩ := hv.cons_inv
      simp only [List.map_cons, List.cons.injEq] at he
      obtain ⟨rfl, rfl⟩ := he
      have hc := hvv.cells
      have hcl : v.cells.size = v'.cells.size := by have := hc.len; simpa using this
      have hll : cells.length = cells'.size := by have := hl.len; simpa using this
      rw [fill'] at h
      rw [Instr.fill]
      split at h
      · cases h
      · rename_i off size hp
        rw [hp]
        simp only
        split at h
        · cases h
        · rename_i hb
          simp only [Bool.and_eq_true, beq_tf, decide_eq_true_eq, Nat.ble_eq] at hb
          rw [if_neg (by simp; omega)]
          refine fill_sound rest rest' _ _ r h ?_ hi hvs
          have hz : (v'.cells.zipIdx.foldl (fun cs x => cs.setIfInBounds (off + x.2) x.1) cells').toList = cells'.toList.take off ++ v'.cells.toList ++ cells'.toList.drop (off + v'.cells.size) := by
            rw [← Array.foldl_toList, Array.toList_zipIdx]
            have := foldl_set off v'.cells.toList 0 cells' (by simp; omega)
            simpa using this
          have hzz : (Array.foldl (fun cs (x : Value × Nat) => match x with | (c, j) => cs.setIfInBounds (off + j) c) cells' v'.cells.zipIdx).toList = cells'.toList.take off ++ v'.cells.toList ++ cells'.toList.drop (off + v'.cells.size) := hz
          rw [hzz, hcl]
          exact ((hl.take off).append hc).append (hl.drop _)
end Go.AE
