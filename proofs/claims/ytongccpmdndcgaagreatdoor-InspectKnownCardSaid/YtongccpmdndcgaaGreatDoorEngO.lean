/- Maps written. -/
import Derived.Test.YtongccpmdndcgaaGreatDoorEngN
namespace Go.AE
set_option linter.unusedVariables false
set_option linter.unusedSimpArgs false
variable {P : Program} {ρ : Ren} {σ : AHeap} {w : World}

theorem ELR.snoc {x x' : List MapEntry} {e e' : MapEntry} (h : ELR P ρ x x') (he : ER P ρ e e') : ELR P ρ (x ++ [e]) (x' ++ [e']) := by
  refine ⟨by simp [h.len], fun i a b ha hb => ?_⟩
  rw [List.getElem?_append] at ha hb
  rw [← h.len] at hb
  split at ha
  · rename_i hi; rw [if_pos hi] at hb; exact h.at_ i a b ha hb
  · rename_i hi; rw [if_neg hi] at hb
    cases hj : i - x.length with
    | zero => rw [hj] at ha hb; simp at ha hb; subst ha; subst hb; exact he
    | succ j => rw [hj] at ha; simp at ha
theorem ELR.modify {x x' : List MapEntry} {f f' : MapEntry → MapEntry} (h : ELR P ρ x x') (i : Nat) (hf : ∀ e e', x[i]? = some e → x'[i]? = some e' → ER P ρ (f e) (f' e')) : ELR P ρ (x.modify i f) (x'.modify i f') := by
  refine ⟨by simp [h.len], fun j a b ha hb => ?_⟩
  rw [List.getElem?_modify] at ha hb
  cases ha2 : x[j]? with
  | none => rw [ha2] at ha; simp at ha
  | some e =>
    cases hb2 : x'[j]? with
    | none => rw [hb2] at hb; simp at hb
    | some e' =>
      rw [ha2] at ha; rw [hb2] at hb
      simp only [Option.map_eq_map, Option.map_some, Option.some.injEq] at ha hb
      by_cases hij : i = j
      · subst hij; simp at ha hb; subst ha; subst hb; exact hf e e' ha2 hb2
      · simp only [hij, if_false, id_eq] at ha hb; subst ha; subst hb; exact h.at_ j e e' ha2 hb2
theorem ELR.erase {x x' : List MapEntry} (h : ELR P ρ x x') (i : Nat) : ELR P ρ (x.eraseIdx i) (x'.eraseIdx i) := by
  refine ⟨by simp [List.length_eraseIdx, h.len], fun j a b ha hb => ?_⟩
  rw [List.getElem?_eraseIdx] at ha hb
  split at ha
  · rename_i hi; rw [if_pos hi] at hb; exact h.at_ j a b ha hb
  · rename_i hi; rw [if_neg hi] at hb; exact h.at_ (j + 1) a b ha hb

structure FoundW (P : Program) (ρ : Ren) (w : World) (kt : TypeId) (k : Value) (b : Nat) (es : List MapEntry) (es' : Array MapEntry) (clock : Nat) (f : Option (Nat × MapEntry)) (r : Option (Nat × Value)) : Prop where
  heap : w.heap[b]? = some (.map es' clock)
  list : ELR P ρ es es'.toList
  check : (Instr.checkKey false 10000 kt k).run P w = .ok () w
  find : (Instr.findKey kt k es'.toList).run P w = .ok r w
  none_ : f = none → r = none
  some_ : ∀ i e, f = some (i, e) → ∃ e', es[i]? = some e ∧ es'[i]? = some e' ∧ ER P ρ e e' ∧ r = some (i, e'.val) ∧ (Instr.keyThatStays e'.key k).run P w = .ok k w
theorem findW_spec {kt : TypeId} {k k' : Value} {r clock : Nat} {es : List MapEntry} {f : Option (Nat × MapEntry)} {m : Img} (h : findW P kt k r σ = some (es, clock, f)) (hR : Rel P ρ σ w) (hk : VR P ρ k k') (hm : ρ r = some m) :
    σ.get r = some (.map es clock false) ∧ k' = k ∧ m.shift = 0 ∧ ∃ es' r', FoundW P ρ w kt k m.blk es es' clock f r' := by
  unfold findW at h
  split at h
  · rename_i es2 cl2 hko hg
    obtain ⟨rfl, hp, hck⟩ := keyOk_spec hko hk w
    obtain ⟨d, hd⟩ := under_of_keyOk hko
    obtain ⟨m2, hm2, hsh, es', hh, hl⟩ := hR.obj r _ hg
    rw [hm] at hm2; cases hm2
    split at h
    · rename_i i e hf
      split at h
      · rename_i hsb
        cases h
        simp only [Bool.and_eq_true] at hsb
        obtain ⟨r', h1, h2⟩ := findKey_sound isStr_spec hk w es es'.toList 0 _ hf hl
        obtain ⟨e', a1, a2, a3, _, rfl⟩ := h2
        refine ⟨hg, rfl, hsh, es', _, hh, hl, hck false, run_findKey hd h1, (fun q => by cases q), fun i2 e2 q => ?_⟩
        cases q
        refine ⟨e', by simpa using a1, by simpa using a2, a3, rfl, ?_⟩
        rw [a3.key.eq_of_plain hsb.1]
        simp only [Instr.keyThatStays, hsb.2, if_true, Sem.run_pure]
      · cases h
    · rename_i hf
      cases h
      obtain ⟨r', h1, h2⟩ := findKey_sound isStr_spec hk w es es'.toList 0 _ hf hl
      exact ⟨hg, rfl, hsh, es', r', hh, hl, hck false, run_findKey hd h1, fun _ => h2, (fun i e q => by cases q)⟩
    · cases h
  · cases h
/-- A map's block written. -/
theorem Rel.setMap (hR : Rel P ρ σ w) {r : Nat} {es es2 : List MapEntry} {es' es2' : Array MapEntry} {cl cl2 : Nat} {m : Img} (hg : σ.get r = some (.map es cl false)) (hm : ρ r = some m) (hs : m.shift = 0) (hh : w.heap[m.blk]? = some (.map es' cl)) (hl : ELR P ρ es2 es2'.toList) :
    Rel P ρ (σ.set r (.map es2 cl2 false)) { w with heap := w.heap.setIfInBounds m.blk (.map es2' cl2) } ∧ Ext ρ σ w ρ (σ.set r (.map es2 cl2 false)) { w with heap := w.heap.setIfInBounds m.blk (.map es2' cl2) } := by
  have hlt : m.blk < w.heap.size := hR.lt r m hm
  have h1 : ({ w with heap := w.heap.setIfInBounds m.blk (.map es2' cl2) } : World).heap.size = w.heap.size := by simp
  have h2 : ∀ k, k ≠ m.blk → ({ w with heap := w.heap.setIfInBounds m.blk (.map es2' cl2) } : World).heap[k]? = w.heap[k]? := fun k hk => by
    show (w.heap.setIfInBounds m.blk _)[k]? = _
    rw [Array.getElem?_setIfInBounds_ne (Ne.symm hk)]
  have h3 : ({ w with heap := w.heap.setIfInBounds m.blk (.map es2' cl2) } : World).heap[m.blk]? = some (.map es2' cl2) := by
    show (w.heap.setIfInBounds m.blk _)[m.blk]? = _
    rw [Array.getElem?_setIfInBounds_self_of_lt hlt]
  exact ⟨hR.upd hg rfl hm h1 h2 ⟨hs, es2', h3, hl⟩ rfl, .upd hg rfl hm h1 h2 rfl rfl rfl rfl⟩
theorem mapPut_out {t : TypeId} {x k v x' k' v' : Value} {σ' : AHeap} (h : mapPut P t x k v σ = some σ') (hR : Rel P ρ σ w) (hx : VR P ρ x x') (hk : VR P ρ k k') (hv : VR P ρ v v') : OutU P ρ σ w σ' ((Instr.mapUpdate t x' k' v').run P w) := by
  unfold mapPut at h
  split at h
  · rename_i kt et r hu
    obtain ⟨m, hm, rfl⟩ := hx.map_inv
    split at h
    · rename_i es clock i e hf
      cases h
      obtain ⟨hg, rfl, hs, es', r', F⟩ := findW_spec hf hR hk hm
      obtain ⟨e', a1, a2, a3, rfl, hst⟩ := F.some_ i e rfl
      obtain ⟨g1, g2⟩ := hR.setMap (es2 := es.modify i fun e => { e with key := k', val := v }) (es2' := es'.modify i fun e => { e with key := k', val := v' }) (cl2 := clock) hg hm hs F.heap
        (by rw [Array.toList_modify]; exact F.list.modify i fun q q' h1 h2 => ⟨hk, hv, (F.list.at_ i q q' h1 h2).born⟩)
      refine ⟨ρ, _, ?_, g1, g2⟩
      simp only [Instr.mapUpdate, Sem.run_bind, run_under hu, Result.andThen_ok, run_getObj F.heap (by intro c e f; simp), F.check, F.find]
      rw [a2]
      simp only [Option.map_some, Option.getD_some, hst, Result.andThen_ok]
      exact run_setObj F.heap (by intro c e f; simp)
    · rename_i es clock hf
      cases h
      obtain ⟨hg, rfl, hs, es', r', F⟩ := findW_spec hf hR hk hm
      have := F.none_ rfl
      subst this
      obtain ⟨g1, g2⟩ := hR.setMap (es2 := es ++ [{ key := k', val := v, born := clock }]) (es2' := es'.push { key := k', val := v', born := clock }) (cl2 := clock + 1) hg hm hs F.heap
        (by rw [Array.toList_push]; exact F.list.snoc ⟨hk, hv, rfl⟩)
      refine ⟨ρ, _, ?_, g1, g2⟩
      simp only [Instr.mapUpdate, Sem.run_bind, run_under hu, Result.andThen_ok, run_getObj F.heap (by intro c e f; simp), F.check, F.find]
      exact run_setObj F.heap (by intro c e f; simp)
    · cases h
  · cases h
theorem mapEntry_out {t : TypeId} {x k x' k' v : Value} {σ' : AHeap} (h : mapEntry' P t x k σ = some (v, σ')) (hR : Rel P ρ σ w) (hx : VR P ρ x x') (hk : VR P ρ k k') : OutV P ρ σ w v σ' ((Instr.mapEntry t x' k').run P w) := by
  unfold mapEntry' at h
  split at h
  · rename_i kt et r hu
    obtain ⟨m, hm, rfl⟩ := hx.map_inv
    split at h
    · rename_i es clock i e hf
      cases h
      obtain ⟨hg, rfl, hs, es', r', F⟩ := findW_spec hf hR hk hm
      obtain ⟨e', a1, a2, a3, rfl, hst⟩ := F.some_ i e rfl
      obtain ⟨g1, g2⟩ := hR.setMap (es2 := es.modify i fun e => { e with key := k' }) (es2' := es'.modify i fun e => { e with key := k' }) (cl2 := clock) hg hm hs F.heap
        (by rw [Array.toList_modify]; exact F.list.modify i fun q q' h1 h2 => ⟨hk, (F.list.at_ i q q' h1 h2).val, (F.list.at_ i q q' h1 h2).born⟩)
      refine ⟨ρ, .tuple #[e'.val, goInt e'.born], _, ?_, ?_, g1, g2⟩
      · simp only [Instr.mapEntry, Sem.run_bind, run_under hu, Result.andThen_ok, run_getObj F.heap (by intro c e f; simp), F.check, F.find]
        rw [a2]
        simp only [Option.map_some, Option.getD_some, hst, Result.andThen_ok, run_setObj F.heap (by intro c e f; simp), Sem.run_pure]
      · rw [← a3.born]; exact VR.tuple_iff (.cons a3.val (.cons (.atom rfl) .nil))
    · rename_i es clock hf
      split at h
      · rename_i z hz
        cases h
        obtain ⟨hg, rfl, hs, es', r', F⟩ := findW_spec hf hR hk hm
        have := F.none_ rfl
        subst this
        have hvz := VR.of_plain (P := P) (ρ := ρ) (zeroOf_info hz).2
        obtain ⟨g1, g2⟩ := hR.setMap (es2 := es ++ [{ key := k', val := z, born := clock }]) (es2' := es'.push { key := k', val := z, born := clock }) (cl2 := clock + 1) hg hm hs F.heap
          (by rw [Array.toList_push]; exact F.list.snoc ⟨hk, hvz, rfl⟩)
        refine ⟨ρ, .tuple #[z, goInt clock], _, ?_, VR.tuple_iff (.cons hvz (.cons (.atom rfl) .nil)), g1, g2⟩
        simp only [Instr.mapEntry, Sem.run_bind, run_under hu, Result.andThen_ok, run_getObj F.heap (by intro c e f; simp), F.check, F.find, info_zero hz, run_setObj F.heap (by intro c e f; simp), Sem.run_pure]
      · cases h
    · cases h
  · cases h
theorem bornIdx_spec : ∀ (es es' : List MapEntry) (b i k : Nat), bornIdx es b k = some i → (∀ (j : Nat) (e e' : MapEntry), es[j]? = some e → es'[j]? = some e' → e'.born = e.born) → es.length = es'.length →
    k ≤ i ∧ es'.findIdx? (fun e => (e.born : Int) == (b : Int)) = some (i - k)
  | [], _, _, _, _, h, _, _ => by simp [bornIdx] at h
  | e :: es, es', b, i, k, h, hb, hl => by
    cases es' with
    | nil => simp at hl
    | cons e' es' =>
      have h0 := hb 0 e e' (by simp) (by simp)
      rw [bornIdx] at h
      rw [List.findIdx?_cons]
      split at h
      · rename_i hq
        cases h
        have := Nat.eq_of_beq_eq_true hq
        rw [if_pos (by rw [h0, this]; simp)]
        exact ⟨Nat.le_refl _, by simp⟩
      · rename_i hq
        obtain ⟨h1, h2⟩ := bornIdx_spec es es' b i (k + 1) h (fun j a c ha hc => hb (j + 1) a c (by simpa using ha) (by simpa using hc)) (by simpa using hl)
        have hne : ¬ e.born = b := fun e => by rw [e, Nat.beq_refl] at hq; cases hq
        rw [if_neg (by rw [h0]; simp; omega), h2]
        refine ⟨by omega, ?_⟩
        simp
        omega
theorem entryStore_out {t : TypeId} {x s v x' s' v' : Value} {σ' : AHeap} (h : entryStore' x s v σ = some σ') (hR : Rel P ρ σ w) (hx : VR P ρ x x') (hs : VR P ρ s s') (hv : VR P ρ v v') : OutU P ρ σ w σ' ((Instr.entryStore t x' s' v').run P w) := by
  unfold entryStore' at h
  split at h
  · rename_i r born hn
    obtain ⟨m, hm, rfl⟩ := hx.map_inv
    obtain ⟨rfl, k, hk⟩ := nat_inv hn hs
    split at h
    · rename_i es clock hg
      split at h
      · rename_i i hi
        cases h
        obtain ⟨m2, hm2, hsh, es', hh, hl⟩ := hR.obj r _ hg
        rw [hm] at hm2; cases hm2
        obtain ⟨_, hfi⟩ := bornIdx_spec es es'.toList born i 0 hi (fun j e e' h1 h2 => (hl.at_ j e e' h1 h2).born) hl.len
        obtain ⟨g1, g2⟩ := hR.setMap (es2 := es.modify i fun e => { e with val := v }) (es2' := es'.modify i fun e => { e with val := v' }) (cl2 := clock) hg hm hsh hh
          (by rw [Array.toList_modify]; exact hl.modify i fun q q' h1 h2 => ⟨(hl.at_ i q q' h1 h2).key, hv, (hl.at_ i q q' h1 h2).born⟩)
        refine ⟨ρ, _, ?_, g1, g2⟩
        subst hk
        have : es'.findIdx? (fun e => (e.born : Int) == (born : Int)) = some i := by
          have e0 : es'.findIdx? (fun e => (e.born : Int) == (born : Int)) = es'.toList.findIdx? (fun e => (e.born : Int) == (born : Int)) := by rcases es' with ⟨l⟩; simp
          rw [e0, hfi]; simp
        simp only [Instr.entryStore, Sem.run_bind, run_getObj hh (by intro c e f; simp), Result.andThen_ok, asInt, run_asIntOf, Sem.run_pure, this]
        exact run_setObj hh (by intro c e f; simp)
      · cases h
    · cases h
  · cases h
theorem mapDel_out {ts : Array TypeId} {t ty : TypeId} {x k x' k' : Value} {σ' : AHeap} (ht : ts[0]? = some t) (h : mapDel P t x k σ = some σ') (hR : Rel P ρ σ w) (hx : VR P ρ x x') (hk : VR P ρ k k') : OutV P ρ σ w (.tuple #[]) σ' ((Builtin.delete_ ts ty #[x', k']).run P w) := by
  unfold mapDel at h
  split at h
  · rename_i kt et hu
    split at h
    · rw [hx.atom_inv rfl]
      split at h
      · rename_i hko
        cases h
        obtain ⟨rfl, hp, hck⟩ := keyOk_spec hko hk w
        refine .same hR .undef ?_
        simp only [Builtin.delete_, ht, List.getElem?_toArray, List.getElem?_cons_zero, List.getElem?_cons_succ, Sem.run_bind, run_under hu, Result.andThen_ok, hck, Sem.run_pure]
        rfl
      · cases h
    · rename_i r
      obtain ⟨m, hm, rfl⟩ := hx.map_inv
      split at h
      · rename_i es clock hko hg
        obtain ⟨rfl, hp, hck⟩ := keyOk_spec hko hk w
        obtain ⟨d, hd⟩ := under_of_keyOk hko
        obtain ⟨m2, hm2, hsh, es', hh, hl⟩ := hR.obj r _ hg
        rw [hm] at hm2; cases hm2
        split at h
        · rename_i i e hf
          cases h
          obtain ⟨r', h1, h2⟩ := findKey_sound isStr_spec hk w es es'.toList 0 _ hf hl
          obtain ⟨e', a1, a2, a3, _, rfl⟩ := h2
          obtain ⟨g1, g2⟩ := hR.setMap (es2 := es.eraseIdx i) (es2' := es'.eraseIdxIfInBounds i) (cl2 := clock) hg hm hsh hh (by rw [Array.toList_eraseIdxIfInBounds]; exact hl.erase i)
          refine ⟨ρ, _, _, ?_, .undef, g1, g2⟩
          simp only [Builtin.delete_, ht, List.getElem?_toArray, List.getElem?_cons_zero, List.getElem?_cons_succ, Sem.run_bind, run_under hu, Result.andThen_ok, run_getObj hh (by intro c e f; simp), hck, run_findKey hd h1, run_setObj hh (by intro c e f; simp), Sem.run_pure]
          rfl
        · rename_i hf
          cases h
          obtain ⟨r', h1, h2⟩ := findKey_sound isStr_spec hk w es es'.toList 0 _ hf hl
          simp only [FR'] at h2
          subst h2
          obtain ⟨g1, g2⟩ := hR.setMap (es2 := es) (es2' := es') (cl2 := clock) hg hm hsh hh hl
          refine ⟨ρ, _, _, ?_, .undef, g1, g2⟩
          simp only [Builtin.delete_, ht, List.getElem?_toArray, List.getElem?_cons_zero, List.getElem?_cons_succ, Sem.run_bind, run_under hu, Result.andThen_ok, run_getObj hh (by intro c e f; simp), hck, run_findKey hd h1, run_setObj hh (by intro c e f; simp), Sem.run_pure]
          rfl
        · cases h
      · cases h
    · cases h
  · cases h
end Go.AE
