/- Loading, storing, rows made, appending, copying. -/
import Derived.Test.YtongccpmdndcgaaGreatDoorEngJ
import Derived.Laws.Append
namespace Go.AE
set_option linter.unusedVariables false
set_option linter.unusedSimpArgs false
variable {P : Program} {ρ : Ren} {σ : AHeap} {w : World}

theorem elemOk_spec {e size : Nat} {zs : List Value} (h : elemOk P e = some (size, zs)) : ∃ i z, P.info? e = some i ∧ i.zero = some z ∧ plain z = true ∧ z.cells.size = i.size ∧ i.bytes ≤ 1048576 ∧ size = i.size ∧ zs = z.cells.toList := by
  unfold elemOk at h
  split at h
  · rename_i i hi
    split at h
    · rename_i z hz
      split at h
      · rename_i hb
        cases h
        simp only [Bool.and_eq_true, beq_tf, decide_eq_true_eq, Nat.ble_eq] at hb
        exact ⟨i, z, hi, hz, hb.1.1, hb.1.2, hb.2, rfl, rfl⟩
      · cases h
    · cases h
  · cases h
theorem zeros_LR' {z : Value} (hz : plain z = true) (n : Nat) : LR P ρ (zerosN z.cells.toList n) (zerosN z.cells.toList n) := by
  have h := (VR.of_plain (P := P) (ρ := ρ) hz).cells
  induction n with
  | zero => exact .nil
  | succ n ih => exact h.append ih
/-- The zero cells as the model makes them. -/
theorem run_zeroRow {e : TypeId} {i : TypeInfo} {z : Value} (hi : P.info? e = some i) (hz : i.zero = some z) (hsz : z.cells.size = i.size) (n : Nat) :
    ∃ zc : Array Value, (n * i.size = 0 ∧ zc = #[] ∨ n * i.size ≠ 0 ∧ zc = z.cells ∧ (zeroValue e).run P w = .ok z w) ∧ ((Array.range (n * i.size)).map fun k => zc[k % zc.size]!).toList = zerosN z.cells.toList n := by
  by_cases h : n * i.size = 0
  · refine ⟨#[], .inl ⟨h, rfl⟩, ?_⟩
    have hl : (zerosN z.cells.toList n).length = 0 := by rw [zerosN_length, Array.length_toList, hsz, h]
    rw [h, List.eq_nil_of_length_eq_zero hl]
    simp
  · refine ⟨z.cells, .inr ⟨h, rfl, by simp [zeroValue, typeInfo, hi, hz]⟩, ?_⟩
    rw [zeros_map, hsz]
theorem run_size {e : TypeId} {i : TypeInfo} (hi : P.info? e = some i) : (sizeOf e).run P w = .ok i.size w := by simp [sizeOf, typeInfo, hi]
theorem wrap_small (n : Nat) (h : n ≤ 1048576) : IntKind.i64.wrap (n : Int) = n := by
  have hb : IntKind.i64.bits = 64 := rfl
  have hs : IntKind.i64.signed = true := rfl
  unfold IntKind.wrap
  rw [hb, hs]
  have hm : (n : Int) % (2 ^ 64 : Int) = n := Int.emod_eq_of_lt (by omega) (by omega)
  simp only [hm]
  rw [if_neg (by simp; omega)]

theorem load_out {t : TypeId} {b off : Nat} {x' v : Value} (h : ldVar P t σ b off = some v) (hR : Rel P ρ σ w) (hx : VR P ρ (.pointer (some ⟨b, off, none⟩)) x') : OutV P ρ σ w v σ ((Instr.loadAt t x').run P w) := by
  obtain ⟨m, hm, _, rfl⟩ := hx.ptr_inv
  obtain ⟨v', hr, hv⟩ := hR.ldVar h hm
  exact .same hR hv (by simp only [Instr.loadAt, Sem.run_bind, Instr.sureAddr, Sem.run_pure, Result.andThen_ok]; exact hr)
theorem store_out {t : TypeId} {b off n : Nat} {a' v v' : Value} {σ' : AHeap} (hn : sizeOf' P t = some n) (hsz : v.cells.size = n) (h : stCells σ b off v.cells.toList = some σ') (hR : Rel P ρ σ w) (ha : VR P ρ (.pointer (some ⟨b, off, none⟩)) a') (hv : VR P ρ v v') :
    OutU P ρ σ w σ' ((Instr.storeAt t a' v').run P w) := by
  obtain ⟨m, hm, _, rfl⟩ := ha.ptr_inv
  obtain ⟨w', hr, hR', hE⟩ := hR.stCells h hm hv.cells
  have hl : v'.cells.size = n := by have := hv.cells.len; simp only [Array.length_toList] at this; omega
  refine ⟨ρ, w', ?_, hR', hE⟩
  simp only [Instr.storeAt, storeVar, Sem.run_bind, Instr.sureAddr, Sem.run_pure, Result.andThen_ok, info_size hn]
  rw [if_neg (by simp [hl])]
  exact hr
theorem buildSlice_run {t elem size len : Nat} {z : List Value} {parts : List (Nat × Value)} {parts' : Array (Nat × Value)} {cs : List Value} (hu : P.underlying t = some (.slice elem)) (he : elemOk P elem = some (size, z)) (hle : len * size ≤ 1048576)
    (hf : fill' (fun i => some (i * size, size)) (zerosN z len) parts = some cs) (hi : parts.map (·.1) = parts'.toList.map (·.1)) (hv : LR P ρ (parts.map (·.2)) (parts'.toList.map (·.2))) :
    ∃ r' : Array Value, LR P ρ cs r'.toList ∧ (Instr.buildSlice t len parts').run P w = .ok (.slice (some ⟨w.heap.size, 0, none⟩) len len) (w.alloc (.cells r' elem)) := by
  obtain ⟨i, zv, hi1, hz, hpl, hzs, hby, rfl, rfl⟩ := elemOk_spec he
  obtain ⟨zc, hzr, hzl⟩ := run_zeroRow (w := w) hi1 hz hzs len
  obtain ⟨r', hr', hlr⟩ := fill_sound parts parts'.toList _ _ cs hf (by rw [← hzl]; exact hzl ▸ zeros_LR' hpl len) hi hv
  refine ⟨r', hlr, ?_⟩
  simp only [Instr.buildSlice, Sem.run_bind, run_under hu, Result.andThen_ok, run_size hi1]
  rw [if_neg (by omega)]
  rcases hzr with ⟨h0, rfl⟩ | ⟨h0, rfl, hzv⟩
  · rw [if_pos h0]
    simp only [Sem.run_bind, Sem.run_pure, Result.andThen_ok, hr', run_newRow]
  · rw [if_neg h0]
    simp only [Sem.run_bind, Sem.run_pure, Result.andThen_ok, hzv, hr', run_newRow]
theorem buildSlice_out {t elem size len : Nat} {z : List Value} {parts : List (Nat × Value)} {parts' : Array (Nat × Value)} {cs : List Value} (hu : P.underlying t = some (.slice elem)) (he : elemOk P elem = some (size, z)) (hle : len * size ≤ 1048576)
    (hf : fill' (fun i => some (i * size, size)) (zerosN z len) parts = some cs) (hR : Rel P ρ σ w) (hi : parts.map (·.1) = parts'.toList.map (·.1)) (hv : LR P ρ (parts.map (·.2)) (parts'.toList.map (·.2))) :
    OutV P ρ σ w (.slice (some ⟨(newCells σ elem cs).1, 0, none⟩) len len) (newCells σ elem cs).2 ((Instr.buildSlice t len parts').run P w) := by
  obtain ⟨r', hlr, hrun⟩ := buildSlice_run (ρ := ρ) (w := w) hu he hle hf hi hv
  obtain ⟨ρ', h1, h2, h3, h4⟩ := new_out hR elem hlr false
  exact ⟨ρ', .slice (some ⟨w.heap.size, 0, none⟩) len len, _, hrun, slice_new h4 (Nat.le_refl _), h2, h3⟩
theorem makeSlice_out {t elem size l c : Nat} {z : List Value} {vl vc : Value} {kl kc : IntKind} (hu : P.underlying t = some (.slice elem)) (he : elemOk P elem = some (size, z)) (hl : vl = .int kl (l : Int)) (hc : vc = .int kc (c : Int)) (h1 : l ≤ c) (h2 : c ≤ 1048576) (hR : Rel P ρ σ w) :
    OutV P ρ σ w (.slice (some ⟨(newCells σ elem (zerosN z c)).1, 0, none⟩) l c) (newCells σ elem (zerosN z c)).2 ((Instr.makeSlice t vl vc).run P w) := by
  obtain ⟨i, zv, hi1, hz, hpl, hzs, hby, rfl, rfl⟩ := elemOk_spec he
  obtain ⟨zc, hzr, hzl⟩ := run_zeroRow (w := w) hi1 hz hzs c
  obtain ⟨ρ', g1, g2, g3, g4⟩ := new_out hR elem (cs := ((Array.range (c * i.size)).map fun k => zc[k % zc.size]!)) (by rw [hzl]; exact zeros_LR' hpl c) false
  subst hl; subst hc
  refine ⟨ρ', .slice (some ⟨w.heap.size, 0, none⟩) l c, _, ?_, slice_new g4 h1, g2, g3⟩
  have hmul : i.bytes * c ≤ 1048576 * 1048576 := Nat.mul_le_mul hby h2
  have hb : ¬ ((c : Int) < 0 ∨ (i.bytes : Int) * c > 2 ^ 48) := by
    have : ((i.bytes * c : Nat) : Int) ≤ ((1048576 * 1048576 : Nat) : Int) := Int.ofNat_le.2 hmul
    rw [Int.natCast_mul] at this
    omega
  simp only [Instr.makeSlice, Sem.run_bind, run_under hu, Result.andThen_ok, asInt, run_asIntOf, Sem.run_pure, typeInfo, run_program, hi1, wrap_small l (by omega), wrap_small c h2]
  rw [if_neg (by simp; omega)]
  simp only [Sem.run_bind, run_askRoom, Result.andThen_ok, Int.toNat_natCast, run_size hi1]
  rcases hzr with ⟨h0, rfl⟩ | ⟨h0, rfl, hzv⟩
  · rw [if_pos h0]
    simp only [Sem.run_bind, Sem.run_pure, Result.andThen_ok, run_newRow]
  · rw [if_neg h0]
    simp only [Sem.run_bind, Sem.run_pure, Result.andThen_ok, hzv, run_newRow]

/-! The first cells of a slice or a string. -/
theorem lenOf_sound {x x' : Value} {n : Nat} (h : lenOf' x = some n) (hx : VR P ρ x x') : (Builtin.lenOf x').run P w = .ok n w := by
  unfold lenOf' at h
  split at h
  · cases h
    rename_i a c
    cases a with
    | none => rw [hx.atom_inv rfl]; rfl
    | some a => rcases hx.slice_inv with ⟨m, c', s, _, _, _, _, _, rfl⟩ | ⟨m, a', _, _, _, rfl, rfl, rfl⟩ | ⟨k, a', _, rfl, rfl, rfl⟩ <;> rfl
  · cases h; rw [hx.string_inv]; rfl
  · cases h
theorem Rel.first (hR : Rel P ρ σ w) {size n : Nat} {x x' : Value} {cs : List Value} (h : firstCells' size n σ x = some cs) (hx : VR P ρ x x') (hn : ∀ k, lenOf' x = some k → n ≤ k) :
    ∃ cs', LR P ρ cs cs' ∧ (Builtin.firstCells size n x').run P w = .ok cs'.toArray w := by
  unfold firstCells' at h
  split at h
  · rename_i a k c
    have hk := hn k rfl
    rcases hx.slice_inv with ⟨m, c', s, hsp, hm, hnc, hc, hz, rfl⟩ | ⟨m, a', _, _, _, rfl, rfl, rfl⟩ | ⟨q, a', _, rfl, rfl, rfl⟩
    · obtain ⟨hl, cs', hlr, hat⟩ := hR.ldCells h hm
      refine ⟨cs', hlr, ?_⟩
      simp only [Builtin.firstCells]
      rw [show n * size = cs'.length by rw [← hlr.len]; exact hl.symm]
      exact run_loadCells' hat
    · obtain rfl : n = 0 := by omega
      rw [Nat.zero_mul] at h
      simp only [AE.ldCells, Option.some.injEq] at h
      subst h
      exact ⟨[], .nil, by simp [Builtin.firstCells, loadCells, loadCellsFrom]⟩
    · obtain rfl : n = 0 := by omega
      rw [Nat.zero_mul] at h
      simp only [AE.ldCells, Option.some.injEq] at h
      subst h
      exact ⟨[], .nil, by simp [Builtin.firstCells, loadCells, loadCellsFrom]⟩
  · cases h; rw [hx.atom_inv rfl]; exact ⟨[], .nil, rfl⟩
  · rename_i s
    cases h
    rw [hx.string_inv]
    refine ⟨_, .map fun b _ => .atom rfl, ?_⟩
    simp only [Builtin.firstCells, Sem.run_pure]
    congr 1
    apply Array.ext'
    rw [extract_mk]
    simp
  · cases h
theorem bytesOf_spec : ∀ (vs : List Value) (bs : List UInt8), bytesOf vs = some bs → ∃ ns : List Int, vs = ns.map (Value.int .u8) ∧ bs = ns.map fun n => UInt8.ofNat n.toNat
  | [], bs, h => by simp only [bytesOf, Option.some.injEq] at h; subst h; exact ⟨[], rfl, rfl⟩
  | v :: vs, bs, h => by
    cases v with
    | int k n =>
      cases k <;> simp only [bytesOf] at h <;> try (cases h; done)
      cases hb : bytesOf vs with
      | none => rw [hb] at h; simp at h
      | some r =>
        rw [hb] at h
        simp only [Option.map_some, Option.some.injEq] at h
        obtain ⟨ns, h1, h2⟩ := bytesOf_spec vs r hb
        subst h
        exact ⟨n :: ns, by simp [h1], by simp [h2]⟩
    | _ => simp [bytesOf] at h
theorem foldl_push (ns : List Int) : ∀ s : ByteArray, ns.foldl (fun r n => r.push (UInt8.ofNat n.toNat)) s = ⟨(s.data.toList ++ ns.map fun n => UInt8.ofNat n.toNat).toArray⟩ := by
  induction ns with
  | nil => intro s; simp
  | cons n ns ih =>
    intro s
    rw [List.foldl_cons, ih]
    congr 1
    simp [ByteArray.push]
end Go.AE
