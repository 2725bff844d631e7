/- Ranging. -/
import Derived.Test.YtongccpmdndcgaaGreatDoorEngO
namespace Go.AE
set_option linter.unusedVariables false
set_option linter.unusedSimpArgs false
variable {P : Program} {ρ : Ren} {σ : AHeap} {w : World}

theorem ELR.nil : ELR P ρ [] [] := ⟨rfl, fun i e e' h => by simp at h⟩
theorem ELR.cons {e e' : MapEntry} {x x' : List MapEntry} (h : ER P ρ e e') (k : ELR P ρ x x') : ELR P ρ (e :: x) (e' :: x') := by
  refine ⟨by simp [k.len], fun i a b ha hb => ?_⟩
  cases i with
  | zero => simp at ha hb; subst ha; subst hb; exact h
  | succ i => simp at ha hb; exact k.at_ i a b ha hb
theorem ELR.cons_inv {e : MapEntry} {x y : List MapEntry} (h : ELR P ρ (e :: x) y) : ∃ e' x', y = e' :: x' ∧ ER P ρ e e' ∧ ELR P ρ x x' := by
  cases y with
  | nil => have := h.len; simp at this
  | cons e' x' => exact ⟨e', x', rfl, h.at_ 0 e e' (by simp) (by simp), by have := h.len; simpa using this, fun i a b ha hb => h.at_ (i + 1) a b (by simpa using ha) (by simpa using hb)⟩
theorem ELR.nil_inv {y : List MapEntry} (h : ELR P ρ [] y) : y = [] := by have := h.len; simp at this; exact List.eq_nil_of_length_eq_zero this.symm
theorem ELR.filter {q : MapEntry → Bool} (hq : ∀ e e' : MapEntry, e'.born = e.born → q e' = q e) : ∀ {x x' : List MapEntry}, ELR P ρ x x' → ELR P ρ (x.filter q) (x'.filter q)
  | [], x', h => by rw [h.nil_inv]; exact .nil
  | e :: x, x', h => by
    obtain ⟨e', r, rfl, he, hr⟩ := h.cons_inv
    rw [List.filter_cons, List.filter_cons, hq e e' he.born]
    split
    · exact .cons he (ELR.filter hq hr)
    · exact ELR.filter hq hr
theorem ELR.all {q : MapEntry → Bool} (hq : ∀ e e' : MapEntry, e'.born = e.born → q e' = q e) : ∀ {x x' : List MapEntry}, ELR P ρ x x' → x'.all q = x.all q
  | [], x', h => by rw [h.nil_inv]
  | e :: x, x', h => by
    obtain ⟨e', r, rfl, he, hr⟩ := h.cons_inv
    rw [List.all_cons, List.all_cons, hq e e' he.born, ELR.all hq hr]
theorem ELR.find {q : MapEntry → Bool} (hq : ∀ e e' : MapEntry, e'.born = e.born → q e' = q e) : ∀ {x x' : List MapEntry} {e : MapEntry}, ELR P ρ x x' → x.find? q = some e → ∃ e', x'.find? q = some e' ∧ ER P ρ e e'
  | [], x', _, h, hf => by simp at hf
  | a :: x, x', e, h, hf => by
    obtain ⟨a', r, rfl, ha, hr⟩ := h.cons_inv
    rw [List.find?_cons] at hf ⊢
    rw [hq a a' ha.born]
    split at hf
    · cases hf; exact ⟨a', rfl, ha⟩
    · exact ELR.find hq hr hf

theorem range_out {t : TypeId} {x x' v : Value} {σ' : AHeap} (h : range' P t x σ = some (v, σ')) (hR : Rel P ρ σ w) (hx : VR P ρ x x') : OutV P ρ σ w v σ' ((Instr.range t x').run P w) := by
  have mk : ∀ {o : AObj} {c : Obj}, o.ro = false → ObjR P (ρ.add σ.next ⟨w.heap.size, 0, 0, 0, false⟩) (w.alloc c) ⟨w.heap.size, 0, 0, 0, false⟩ o → (Instr.range t x').run P w = .ok (.pointer (some ⟨w.heap.size, 0, none⟩)) (w.alloc c) → (ptr (σ.new o).1 0, (σ.new o).2) = (v, σ') →
      OutV P ρ σ w v σ' ((Instr.range t x').run P w) := fun {o c} hro ho hr he => by
    cases he
    exact ⟨_, _, _, hr, .ptr' (m := ⟨w.heap.size, 0, 0, 0, false⟩) Ren.add_same rfl, hR.new rfl ho, .new hR hro rfl⟩
  have hfree : ρ σ.next = none := hR.dom _ (Nat.le_refl _)
  unfold range' at h
  split at h
  · rename_i s hu
    have hx' := hx.string_inv
    subst hx'
    exact mk rfl (o := .strIter s 0) (c := .stringIter s 0) ⟨rfl, heap_new _ _⟩ (by simp [Instr.range, run_under hu]) (Option.some.inj h)
  · rename_i hu
    have hx' := hx.atom_inv rfl
    subst hx'
    exact mk rfl (o := .mapIter none 0 [] 0) (c := .mapIter none 0 #[] 0) ⟨rfl, none, heap_new _ _, .atom rfl⟩ (by simp [Instr.range, run_under hu]) (Option.some.inj h)
  · rename_i m0 hu
    obtain ⟨m, hm, rfl⟩ := hx.map_inv
    split at h
    · rename_i es cl ro hg
      obtain ⟨m2, hm2, _, es', hh, _⟩ := hR.obj m0 _ hg
      rw [hm] at hm2; cases hm2
      exact mk rfl (o := .mapIter (some m0) cl [] cl) (c := .mapIter (some m.blk) cl #[] cl) ⟨rfl, some m.blk, heap_new _ _, .map (Ren.le_add hfree _ _ hm)⟩
        (by simp [Instr.range, run_under hu, run_getObj hh (by intro c e f; simp)]) (Option.some.inj h)
    · cases h
  · cases h

/-- An iterator's block written. -/
theorem Rel.setIt (hR : Rel P ρ σ w) {r : Nat} {o o2 : AObj} {c2 : Obj} {m : Img} (hg : σ.get r = some o) (ho : o.ro = false) (ho2 : o2.ro = false) (hm : ρ r = some m) (hob : ∀ w' : World, w'.heap[m.blk]? = some c2 → ObjR P ρ w' m o2) :
    Rel P ρ (σ.set r o2) { w with heap := w.heap.setIfInBounds m.blk c2 } ∧ Ext ρ σ w ρ (σ.set r o2) { w with heap := w.heap.setIfInBounds m.blk c2 } := by
  have hlt : m.blk < w.heap.size := hR.lt r m hm
  have h1 : ({ w with heap := w.heap.setIfInBounds m.blk c2 } : World).heap.size = w.heap.size := by simp
  have h2 : ∀ k, k ≠ m.blk → ({ w with heap := w.heap.setIfInBounds m.blk c2 } : World).heap[k]? = w.heap[k]? := fun k hk => by
    show (w.heap.setIfInBounds m.blk _)[k]? = _
    rw [Array.getElem?_setIfInBounds_ne (Ne.symm hk)]
  have h3 : ({ w with heap := w.heap.setIfInBounds m.blk c2 } : World).heap[m.blk]? = some c2 := by
    show (w.heap.setIfInBounds m.blk _)[m.blk]? = _
    rw [Array.getElem?_setIfInBounds_self_of_lt hlt]
  exact ⟨hR.upd hg ho hm h1 h2 (hob _ h3) ho2, .upd hg ho hm h1 h2 rfl rfl rfl ho2⟩
theorem over_out (hR : Rel P ρ σ w) {s : Sem Value} (hs : s.run P w = .ok (.tuple #[.bool false]) w) : OutV P ρ σ w (.tuple #[.bool false]) σ (s.run P w) :=
  .same hR (VR.tuple_iff (.cons (.atom rfl) .nil)) hs
theorem next_out {it it' v : Value} {isS : Bool} {ty : TypeId} {σ' : AHeap} (h : next' it isS σ = some (v, σ')) (hR : Rel P ρ σ w) (hi : VR P ρ it it') : OutV P ρ σ w v σ' ((Instr.next it' isS ty).run P w) := by
  unfold next' at h
  split at h
  · rename_i r
    obtain ⟨m, hm, _, rfl⟩ := hi.ptr_inv
    simp only at hm
    split at h
    · rename_i s pos hg
      obtain ⟨m2, hm2, hsh, hh⟩ := hR.obj r _ hg
      rw [hm] at hm2; cases hm2
      rw [hsh]
      split at h
      · rename_i hlt
        have hlt : pos < s.size := Nat.le_of_ble_eq_true hlt
        cases h
        obtain ⟨g1, g2⟩ := hR.setIt (o2 := .strIter s (pos + (Utf8.decode s pos).2)) (c2 := .stringIter s (pos + (Utf8.decode s pos).2)) hg rfl rfl hm (fun w' hw => ⟨hsh, hw⟩)
        refine ⟨ρ, _, _, ?_, VR.tuple_iff (.cons (.atom rfl) (.cons (.atom rfl) (.cons (.atom rfl) .nil))), g1, g2⟩
        simp only [Instr.next, Sem.run_bind, run_getObj hh (by intro c e f; simp), Result.andThen_ok]
        rw [if_pos hlt]
        simp only [Sem.run_bind, run_setObj hh (by intro c e f; simp), Result.andThen_ok, Sem.run_pure]
      · rename_i hlt
        have hlt : ¬ pos < s.size := fun q => by rw [show pos.blt s.size = true from Nat.ble_eq_true_of_le q] at hlt; cases hlt
        cases h
        refine over_out hR ?_
        simp only [Instr.next, Sem.run_bind, run_getObj hh (by intro c e f; simp), Result.andThen_ok]
        rw [if_neg hlt]
        rfl
    · rename_i a b c hg
      obtain ⟨m2, hm2, hsh, r', hh, hv⟩ := hR.obj r _ hg
      rw [hm] at hm2; cases hm2
      have := hv.atom_inv rfl
      cases this
      cases h
      rw [hsh]
      refine over_out hR ?_
      simp only [Instr.next, Sem.run_bind, run_getObj hh (by intro c e f; simp), Result.andThen_ok]
      rfl
    · rename_i mm since seen last hg
      obtain ⟨m2, hm2, hsh, r', hh, hv⟩ := hR.obj r _ hg
      rw [hm] at hm2; cases hm2
      rw [hsh]
      split at h
      · rename_i es clock ro hgm
        obtain ⟨mi, hmi, hr'⟩ := hv.map_inv
        cases hr'
        obtain ⟨m3, hm3, _, es', hhm, hl⟩ := hR.obj mm _ hgm
        rw [hmi] at hm3; cases hm3
        unfold nextMap at h
        split at h
        · cases h
        · rename_i hall
          have hall' : (!seen.toArray.isEmpty && !es'.isEmpty && es'.all fun e => decide (e.born ≥ last)) = false := by
            rw [← hall]
            have e1 : es'.all (fun e => decide (e.born ≥ last)) = es.all fun e => decide (e.born ≥ last) := by
              rw [← Array.all_toList]; exact hl.all (fun e e' hb => by simp [hb])
            have e2 : es'.isEmpty = es.isEmpty := by
              have := hl.len
              rcases es' with ⟨l⟩
              cases es <;> cases l <;> simp_all
            rw [e1, e2]
            simp
          have hold := (hl.filter (q := fun e => !seen.contains e.born) (fun e e' hb => by simp [hb])).filter (q := fun e => decide (e.born < since)) (fun e e' hb => by simp [hb])
          have hnew := (hl.filter (q := fun e => !seen.contains e.born) (fun e e' hb => by simp [hb])).filter (q := fun e => decide (e.born ≥ since)) (fun e e' hb => by simp [hb])
          have hleft : (es'.filter fun e => !seen.toArray.contains e.born).toList = es'.toList.filter fun e => !seen.contains e.born := by
            rw [Array.toList_filter]
            congr 1
            funext e
            simp
          have ho : ((es'.filter fun e => !seen.toArray.contains e.born).filter fun e => decide (e.born < since)).toList = (es'.toList.filter fun e => !seen.contains e.born).filter fun e => decide (e.born < since) := by rw [Array.toList_filter, hleft]
          have hn : ((es'.filter fun e => !seen.toArray.contains e.born).filter fun e => decide (e.born ≥ since)).toList = (es'.toList.filter fun e => !seen.contains e.born).filter fun e => decide (e.born ≥ since) := by rw [Array.toList_filter, hleft]
          split at h
          · rename_i q1 q2
            cases h
            rw [q1] at hold; rw [q2] at hnew
            have z1 := hold.nil_inv
            have z2 := hnew.nil_inv
            rw [z1] at ho; rw [z2] at hn
            have y1 := Array.toList_eq_nil_iff.1 ho
            have y2 := Array.toList_eq_nil_iff.1 hn
            refine over_out hR ?_
            simp only [Instr.next, Sem.run_bind, run_getObj hh (by intro c e f; simp), Result.andThen_ok, run_getObj hhm (by intro c e f; simp)]
            rw [hall']
            simp only [Bool.false_eq_true, if_false, y1, y2]
            simp [Question.forced]
          · rename_i e q1 q2
            cases h
            rw [q1] at hold; rw [q2] at hnew
            obtain ⟨e', r2, z1, he, hr2⟩ := hold.cons_inv
            have := hr2.nil_inv
            subst this
            have z2 := hnew.nil_inv
            rw [z1] at ho; rw [z2] at hn
            have y1 : ((es'.filter fun e => !seen.toArray.contains e.born).filter fun e => decide (e.born < since)) = #[e'] := by apply Array.ext'; rw [ho]
            have y2 := Array.toList_eq_nil_iff.1 hn
            obtain ⟨g1, g2⟩ := hR.setIt (o2 := .mapIter (some mm) since (seen ++ [e.born]) clock) (c2 := .mapIter (some mi.blk) since (seen.toArray.push e'.born) clock) hg rfl rfl hm (fun w' hw => ⟨hsh, some mi.blk, by rw [hw, he.born]; congr 2; simp, .map hmi⟩)
            refine ⟨ρ, .tuple #[.bool true, e'.key, e'.val], _, ?_, VR.tuple_iff (.cons (.atom rfl) (.cons he.key (.cons he.val .nil))), g1, g2⟩
            simp only [Instr.next, Sem.run_bind, run_getObj hh (by intro c e f; simp), Result.andThen_ok, run_getObj hhm (by intro c e f; simp)]
            rw [hall']
            simp only [Bool.false_eq_true, if_false, y1, y2]
            simp [Question.forced, run_setObj hh (by intro c e f; simp)]
          · cases h
      · cases h
    · cases h
  · cases h
theorem entry_out {it it' v : Value} (h : entry' it σ = some v) (hR : Rel P ρ σ w) (hi : VR P ρ it it') : OutV P ρ σ w v σ ((Instr.entry it').run P w) := by
  unfold entry' at h
  split at h
  · rename_i r
    obtain ⟨m, hm, _, rfl⟩ := hi.ptr_inv
    simp only at hm
    split at h
    · rename_i mm since seen stepped hg
      obtain ⟨m2, hm2, hsh, r', hh, hv⟩ := hR.obj r _ hg
      rw [hm] at hm2; cases hm2
      rw [hsh]
      split at h
      · rename_i stamp es clock ro hsee hgm
        obtain ⟨mi, hmi, hr'⟩ := hv.map_inv
        cases hr'
        obtain ⟨m3, hm3, _, es', hhm, hl⟩ := hR.obj mm _ hgm
        rw [hmi] at hm3; cases hm3
        split at h
        · rename_i hck
          have hck := Nat.eq_of_beq_eq_true hck
          subst hck
          split at h
          · rename_i e hf
            cases h
            obtain ⟨e', hf', he⟩ := hl.find (fun a a' hb => by simp [hb]) hf
            refine .same hR (v' := .tuple #[e'.key, e'.val]) (VR.tuple_iff (.cons he.key (.cons he.val .nil))) ?_
            have hfa : es'.find? (fun e => e.born == stamp) = some e' := by rw [← hf', Array.find?_toList]
            have hb : seen.toArray.back? = some stamp := by simpa using hsee
            simp only [Instr.entry, Sem.run_bind, run_getObj hh (by intro c e f; simp), Result.andThen_ok, hb, run_getObj hhm (by intro c e f; simp)]
            simp [hfa]
          · cases h
        · cases h
      · cases h
    · cases h
  · cases h
end Go.AE
