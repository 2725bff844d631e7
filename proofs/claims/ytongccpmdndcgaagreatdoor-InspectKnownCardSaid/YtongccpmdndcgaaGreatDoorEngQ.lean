/- Lengths, methods, calls. -/
import Derived.Test.YtongccpmdndcgaaGreatDoorEngP
namespace Go.AE
set_option linter.unusedVariables false
set_option linter.unusedSimpArgs false
variable {P : Program} {ρ : Ren} {σ : AHeap} {w : World}

/-! Built-ins. -/
theorem len_out {ts : Array TypeId} {ty : TypeId} {x x' v : Value} {σ' : AHeap} {args : List Value} (ha : args = [x]) (h : builtin' P .len ts args σ = some (v, σ')) (hR : Rel P ρ σ w) (hx : VR P ρ x x') : OutV P ρ σ w v σ' ((Builtin.len_ ts ty #[x']).run P w) := by
  subst ha
  unfold builtin' at h
  simp only at h
  cases ht : ts[0]? with
  | none => rw [ht] at h; simp at h
  | some t =>
    rw [ht] at h
    simp only [Option.bind_some] at h
    have go : ∀ {d : TypeDesc} {s : TypeDesc → Value → Sem Value}, P.underlying t = some d → True := fun _ => trivial
    split at h
    · rename_i s hu
      cases h; rw [hx.string_inv]
      exact .same hR (.atom rfl) (by simp [Builtin.len_, ht, run_under hu])
    · rename_i n _ hu
      cases h
      exact .same hR (.atom rfl) (by simp [Builtin.len_, ht, run_under hu])
    · rename_i arr hu
      split at h
      · rename_i n e hu2
        cases h
        exact .same hR (.atom rfl) (by simp [Builtin.len_, ht, run_under hu, run_under hu2])
      · cases h
    · rename_i e a n c hu
      cases h
      refine .same hR (v' := goInt n) (.atom rfl) ?_
      cases a with
      | none => rw [hx.atom_inv rfl]; simp [Builtin.len_, ht, run_under hu]
      | some a => rcases hx.slice_inv with ⟨m, c', s, _, _, _, _, _, rfl⟩ | ⟨m, a', _, _, _, rfl, rfl, rfl⟩ | ⟨k, a', _, rfl, rfl, rfl⟩ <;> simp [Builtin.len_, ht, run_under hu]
    · rename_i k e hu
      cases h; rw [hx.atom_inv rfl]
      exact .same hR (.atom rfl) (by simp [Builtin.len_, ht, run_under hu])
    · rename_i k e r hu
      obtain ⟨m, hm, rfl⟩ := hx.map_inv
      split at h
      · rename_i es cl ro hg
        cases h
        obtain ⟨m2, hm2, _, es', hh, hl⟩ := hR.obj r _ hg
        rw [hm] at hm2; cases hm2
        have hlen : es.length = es'.size := by have := hl.len; simpa using this
        exact .same hR (v' := goInt es.length) (.atom rfl) (by simp [Builtin.len_, ht, run_under hu, run_getObj hh (by intro c e f; simp), hlen])
      · cases h
    · cases h
theorem cap_out {ts : Array TypeId} {ty : TypeId} {x x' v : Value} {σ' : AHeap} {args : List Value} (ha : args = [x]) (h : builtin' P .cap ts args σ = some (v, σ')) (hR : Rel P ρ σ w) (hx : VR P ρ x x') : OutV P ρ σ w v σ' ((Builtin.cap_ ts ty #[x']).run P w) := by
  subst ha
  unfold builtin' at h
  simp only at h
  cases ht : ts[0]? with
  | none => rw [ht] at h; simp at h
  | some t =>
    rw [ht] at h
    simp only [Option.bind_some] at h
    split at h
    · rename_i n _ hu
      cases h
      exact .same hR (.atom rfl) (by simp [Builtin.cap_, ht, run_under hu])
    · rename_i e q n hu
      cases h; rw [hx.atom_inv rfl]
      exact .same hR (.atom rfl) (by simp [Builtin.cap_, ht, run_under hu])
    · rename_i e a q n hu
      split at h
      · rename_i k hk
        cases h
        rcases hx.slice_inv with ⟨m, c', s, hsp, _⟩ | ⟨m, a', hsp, _⟩ | ⟨k, a', _, rfl, rfl, rfl⟩
        · rw [hk] at hsp; cases hsp
        · rw [hk] at hsp; cases hsp
        · exact .same hR (.atom rfl) (by simp [Builtin.cap_, ht, run_under hu])
      · rename_i nn c e2 ro hsp0 hg
        cases h
        rcases hx.slice_inv with ⟨m, c', s, hsp, hm, _, _, hz, rfl⟩ | ⟨m, a', hsp, hm, hg2, rfl, rfl, rfl⟩ | ⟨k, a', hsp, _⟩
        · obtain ⟨m3, hm3, hme, hmg, _⟩ := hR.obj a.block _ hg
          rw [hm] at hm3; cases hm3
          have : n = c' := by
            rcases hz with q | ⟨q, _⟩
            · exact q
            · rw [hmg] at q; cases q
          subst this
          exact .same hR (.atom rfl) (by simp [Builtin.cap_, ht, run_under hu])
        · exact .same hR (.atom rfl) (by simp [Builtin.cap_, ht, run_under hu])
        · rw [hsp0] at hsp; cases hsp
      · cases h
    · cases h
theorem clear_out {ts : Array TypeId} {ty : TypeId} {x x' v : Value} {σ' : AHeap} {args : List Value} (ha : args = [x]) (h : builtin' P .clear ts args σ = some (v, σ')) (hR : Rel P ρ σ w) (hx : VR P ρ x x') : OutV P ρ σ w v σ' ((Builtin.clear_ ts ty #[x']).run P w) := by
  subst ha
  unfold builtin' at h
  simp only at h
  cases ht : ts[0]? with
  | none => rw [ht] at h; simp at h
  | some t =>
    rw [ht] at h
    simp only [Option.bind_some] at h
    split at h
    · rename_i elem a n c hu
      split at h
      · rename_i sz z he hle
        have hle := Nat.le_of_ble_eq_true hle
        obtain ⟨i, zv, hi, hz, hpl, hzs, hby, rfl, rfl⟩ := elemOk_spec he
        split at h
        · rename_i σ2 hst
          cases h
          have hzr : ∀ k : Nat, (Builtin.zeroCells zv.cells k).toList = zerosN zv.cells.toList k := fun k => by rw [zeros_map]; rfl
          have hzv : ∀ w : World, (zeroValue elem).run P w = .ok zv w := fun w => by simp [zeroValue, typeInfo, hi, hz]
          by_cases hn : n = 0
          · subst hn
            have e : σ' = σ := by simpa [zerosN, stCells] using hst.symm
            subst e
            obtain ⟨a', c', rfl⟩ : ∃ a' c', x' = .slice (some a') 0 c' := by
              rcases hx.slice_inv with ⟨m, c', s, _, _, _, _, _, rfl⟩ | ⟨m, a', _, _, _, _, rfl, rfl⟩ | ⟨k, a', _, _, rfl, rfl⟩ <;> exact ⟨_, _, rfl⟩
            exact .same hR .undef (by simp [Builtin.clear_, ht, run_under hu]; rfl)
          · obtain ⟨a', c', w', rfl, _, h1, h2, h3⟩ := hR.stSlice (k := 0) hx (by rw [Nat.add_zero]; exact hst) (zeros_LR' hpl n) (fun _ => by omega)
            rw [addr_add0] at h1
            refine ⟨ρ, _, w', ?_, .undef, h2, h3⟩
            obtain ⟨n', rfl⟩ : ∃ n', n = n' + 1 := ⟨n - 1, by omega⟩
            simp [Builtin.clear_, ht, run_under hu, hzv, hzr, h1]
            rfl
        · cases h
      · cases h
    · cases h
theorem mm_sound {lss : Bool} {x y v x' y' : Value} (h : mm P lss x y = some v) (hx : VR P ρ x x') (hy : VR P ρ y y') (w : World) : (if lss then Builtin.min2 x' y' else Builtin.max2 x' y').run P w = .ok v w ∧ VR P ρ v v := by
  unfold mm at h
  split at h
  · rename_i ha
    simp only [Bool.and_eq_true] at ha
    rw [hx.atom_inv ha.1, hy.atom_inv ha.2]
    obtain ⟨h1, h2⟩ := atomic_some h
    exact ⟨pureP_run h1 w, .atom h2⟩
  · cases h
theorem mmAll_sound {lss : Bool} : ∀ (r r' : List Value) (x x' v : Value), mmAll P lss x r = some v → VR P ρ x x' → LR P ρ r r' → ∃ v', (r'.foldlM (if lss then Builtin.min2 else Builtin.max2) x' : Sem Value).run P w = .ok v' w ∧ VR P ρ v v'
  | [], r', x, x', v, h, hx, hl => by rw [hl.nil_inv]; simp only [mmAll, Option.some.injEq] at h; subst h; exact ⟨x', rfl, hx⟩
  | y :: r, r', x, x', v, h, hx, hl => by
    obtain ⟨y', s', rfl, hy, hs⟩ := hl.cons_inv
    rw [mmAll] at h
    split at h
    · rename_i z hz
      obtain ⟨h1, h2⟩ := mm_sound hz hx hy w
      obtain ⟨v', h3, h4⟩ := mmAll_sound r s' z z v h h2 hs
      refine ⟨v', ?_, h4⟩
      rw [List.foldlM_cons, Sem.run_bind]
      have : ((if lss then Builtin.min2 else Builtin.max2) x' y').run P w = .ok z w := by cases lss <;> simpa using h1
      rw [this, Result.andThen_ok]
      exact h3
    · cases h

/-! Methods. -/
inductive PR (P : Program) (ρ : Ren) : APl → Place → Prop
  | val {v v' : Value} (h : VR P ρ v v') : PR P ρ (.val v) (.val v')
  | var {b off : Nat} {m : Img} (h : ρ b = some m) : PR P ρ (.var b off) (.var ⟨m.blk, off + m.shift, none⟩)
theorem PR.get {t : TypeId} {x : APl} {x' : Place} {v : Value} (h : x.get P t σ = some v) (hR : Rel P ρ σ w) (hx : PR P ρ x x') : ∃ v', (x'.get t).run P w = .ok v' w ∧ VR P ρ v v' := by
  cases hx with
  | val hv => simp only [APl.get, Option.some.injEq] at h; subst h; exact ⟨_, rfl, hv⟩
  | var hm => exact hR.ldVar h hm
theorem fieldOff_spec {s : FieldStep} {f : Field} (h : fieldOff P s = some f) : ∃ fields n, P.underlying s.struct = some (.struct fields) ∧ fields[s.index]? = some f ∧ sizeOf' P f.type = some (n + 1) := by
  unfold fieldOff at h
  split at h
  · rename_i fields hu
    split at h
    · rename_i f2 hf
      split at h
      · rename_i n hs; cases h; exact ⟨fields, n, hu, hf, hs⟩
      · cases h
    · cases h
  · cases h
theorem run_fieldPlace {f : Field} {n k i : Nat} (hs : sizeOf' P f.type = some (n + 1)) : (fieldPlace ⟨k, i, none⟩ f).run P w = .ok ⟨k, i + f.offset, none⟩ w := by
  simp only [fieldPlace, Sem.run_bind, info_size hs, Result.andThen_ok]
  simp [addr_add]
theorem follow_sound (hR : Rel P ρ σ w) : ∀ (path : List FieldStep) (t : TypeId) (x : APl) (x' : Place) (xt : TypeId) (y : APl), follow' P path t x σ = some (xt, y) → PR P ρ x x' → ∃ y', (follow path t x').run P w = .ok (xt, y') w ∧ PR P ρ y y'
  | [], t, x, x', xt, y, h, hx => by simp only [follow', Option.some.injEq, Prod.mk.injEq] at h; obtain ⟨rfl, rfl⟩ := h; exact ⟨x', rfl, hx⟩
  | s :: rest, t, x, x', xt, y, h, hx => by
    rw [follow'] at h
    split at h
    · cases h
    · rename_i f hf
      obtain ⟨fields, n, hu, hfi, hs⟩ := fieldOff_spec hf
      split at h
      · rename_i hd
        split at h
        · rename_i b off hg
          obtain ⟨v', h1, h2⟩ := hx.get hg hR
          obtain ⟨m, hm, _, rfl⟩ := h2.ptr_inv
          obtain ⟨y', h3, h4⟩ := follow_sound hR rest f.type (.var b (off + f.offset)) (.var ⟨m.blk, off + f.offset + m.shift, none⟩) xt y h (.var hm)
          refine ⟨y', ?_, h4⟩
          simp only [follow, Sem.run_bind, run_under hu, Result.andThen_ok, hfi, hd, if_true, h1, asAddr, Sem.run_pure, run_fieldPlace hs]
          rw [show off + m.shift + f.offset = off + f.offset + m.shift by omega]
          exact h3
        · cases h
      · rename_i hd
        split at h
        · rename_i b off
          cases hx with
          | var hm =>
            rename_i m
            obtain ⟨y', h3, h4⟩ := follow_sound hR rest f.type (.var b (off + f.offset)) (.var ⟨m.blk, off + f.offset + m.shift, none⟩) xt y h (.var hm)
            refine ⟨y', ?_, h4⟩
            simp only [follow, Sem.run_bind, run_under hu, Result.andThen_ok, hfi, hd, Bool.false_eq_true, if_false, run_fieldPlace hs]
            rw [show off + m.shift + f.offset = off + f.offset + m.shift by omega]
            exact h3
        · rename_i cs
          split at h
          · rename_i v hp
            cases hx with
            | val hv =>
              obtain ⟨cs', rfl, hl⟩ := hv.agg_inv
              obtain ⟨v', h1, h2⟩ := part_sound (w := w) hp hl
              obtain ⟨y', h3, h4⟩ := follow_sound hR rest f.type (.val v) (.val v') xt y h (.val h2)
              refine ⟨y', ?_, h4⟩
              simp only [follow, Sem.run_bind, run_under hu, Result.andThen_ok, hfi, hd, Bool.false_eq_true, if_false, h1]
              exact h3
          · cases h
        · cases h
theorem run_chk {xt ty : TypeId} {a : Addr} {s n : ByteArray} : (Builtin.ssaWrapNilChk_ #[xt] ty #[.pointer (some a), .string s, .string n]).run P w = .ok (.pointer (some a)) w := rfl
theorem receiver_sound (hR : Rel P ρ σ w) {xt : TypeId} {x : APl} {x' : Place} {pointer : Bool} {r : Value} {wr : Option String} (h : receiver' P xt x pointer σ = some r) (hx : PR P ρ x x') : ∃ r', (receiverAt xt x' pointer wr).run P w = .ok r' w ∧ VR P ρ r r' := by
  unfold receiver' at h
  split at h
  · rename_i e hu
    obtain ⟨v', h1, h2⟩ := hx.get h hR
    exact ⟨v', by simp only [receiverAt, Sem.run_bind, run_under hu, Result.andThen_ok]; exact h1, h2⟩
  · rename_i elem hu
    split at h
    · rename_i b off hg
      obtain ⟨v', h1, h2⟩ := hx.get hg hR
      obtain ⟨m, hm, _, rfl⟩ := h2.ptr_inv
      obtain ⟨r', h3, h4⟩ := hR.ldVar h hm
      refine ⟨r', ?_, h4⟩
      cases wr with
      | none => simp only [receiverAt, Sem.run_bind, run_under hu, Result.andThen_ok, h1, Sem.run_pure, asAddr]; exact h3
      | some nm => simp only [receiverAt, Sem.run_bind, run_under hu, Result.andThen_ok, h1, strVal, run_chk, asAddr, Sem.run_pure]; exact h3
    · cases h
  · rename_i d hd hu
    split at h
    · cases h
      cases hx with
      | var hm => exact ⟨_, by cases d <;> first | exact absurd rfl (hd _) | simp [receiverAt, run_under hu], .ptr hm⟩
    · cases h
  · rename_i d hd hu
    obtain ⟨v', h1, h2⟩ := hx.get h hR
    refine ⟨v', ?_, h2⟩
    cases d <;> first | exact absurd rfl (hd _) | (simp only [receiverAt, Sem.run_bind, run_under hu, Result.andThen_ok]; exact h1)
  · cases h
theorem method_sound (hR : Rel P ρ σ w) : ∀ (n N : Nat) (t : TypeId) (v v' : Value) (name : String) (f : FuncId) (r : Value), n ≤ N → method' P n t v name σ = some (f, r) → VR P ρ v v' → ∃ r', (method N t v' name).run P w = .ok (f, r') w ∧ VR P ρ r r'
  | 0, _, _, _, _, _, _, _, _, h, _ => by simp [method'] at h
  | n + 1, N, t, v, v', name, f, r, hN, h, hv => by
    obtain ⟨N', rfl⟩ : ∃ N', N = N' + 1 := ⟨N - 1, by omega⟩
    rw [method'] at h
    split at h
    · cases h
    · rename_i i hi
      split at h
      · cases h
      · rename_i m hm
        split at h
        · cases h
        · rename_i xt x hf
          obtain ⟨x', h1, h2⟩ := follow_sound hR _ _ _ _ _ _ hf (.val hv)
          have hti : (typeInfo t).run P w = .ok i w := by simp [typeInfo, hi]
          split at h
          · rename_i hfn
            split at h
            · rename_i t' u hg
              obtain ⟨u1, h3, h4⟩ := h2.get hg hR
              obtain ⟨u', rfl, h5⟩ := h4.iface_inv
              obtain ⟨r', h6, h7⟩ := method_sound hR n N' t' u u' name f r (by omega) h h5
              refine ⟨r', ?_, h7⟩
              simp only [method, Sem.run_bind, hti, Result.andThen_ok, hm, h1, hfn, h3]
              exact h6
            · cases h
          · rename_i g pointer hfn
            split at h
            · rename_i r2 hr
              cases h
              obtain ⟨r', h3, h4⟩ := receiver_sound (wr := if m.path.isEmpty then some ((name.splitOn ".").getLastD name) else none) hR hr h2
              refine ⟨r', ?_, h4⟩
              simp only [method, Sem.run_bind, hti, Result.andThen_ok, hm, h1, hfn, h3, Sem.run_pure]
            · cases h
end Go.AE
