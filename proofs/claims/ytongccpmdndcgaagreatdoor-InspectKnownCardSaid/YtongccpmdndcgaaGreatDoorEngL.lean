/- Conversions, appending, copying. -/
import Derived.Test.YtongccpmdndcgaaGreatDoorEngK
namespace Go.AE
set_option linter.unusedVariables false
set_option linter.unusedSimpArgs false
variable {P : Program} {ρ : Ren} {σ : AHeap} {w : World}

theorem Rel.drew (h : Rel P ρ σ w) : Rel P ρ σ w.drew := h.of_heap rfl
theorem Ext.drew : Ext ρ σ w ρ σ w.drew := .of_heap rfl rfl rfl rfl
theorem push_modify {α : Type} (a : Array α) (x : α) (f : α → α) : (a.push x).modify a.size f = a.push (f x) := by
  apply Array.ext_getElem?
  intro i
  rw [Array.getElem?_modify, Array.getElem?_push, Array.getElem?_push]
  by_cases h : i = a.size
  · subst h; simp
  · rw [if_neg h, if_neg (Ne.symm h), if_neg h]
theorem freeze_new (w : World) (c : Array Value) (e : TypeId) : (w.alloc (.cells c e)).freeze { block := w.heap.size, off := c.size } 1 = w.alloc (.cells c e (c.size, c.size + 1)) := by
  unfold World.freeze World.alloc
  rw [if_neg (by decide)]
  simp only
  rw [push_modify]
  simp
theorem toBytes_out (u : ByteArray) {e : TypeId} (hsz : sizeOf' P e = some 1) (hR : Rel P ρ σ w) :
    OutV P ρ σ w (.slice (some ⟨(newCells σ e (u.data.toList.map fun b => Value.int .u8 b.toNat) true).1, 0, none⟩) u.size u.size) (newCells σ e (u.data.toList.map fun b => Value.int .u8 b.toNat) true).2 ((Conv.stringToBytes e u).run P w) := by
  have hlen : (u.data.toList.map fun b => Value.int .u8 b.toNat).length = u.size := by simp
  have hl : LR P ρ (u.data.toList.map fun b => Value.int .u8 b.toNat) (u.data.toList.map fun b => Value.int .u8 b.toNat) := .map fun b _ => .atom rfl
  let c := (Question.appendCap u.size 0 e).cut (w.tape w.drawn (.appendCap u.size 0 e))
  have hc : u.size ≤ c := Nat.le_add_right _ _
  let row : List Value := (u.data.toList.map fun b => Value.int .u8 b.toNat) ++ List.replicate (c - u.size) (.int .u8 0)
  have hrow : row.length = c := by simp only [row, List.length_append, hlen, List.length_replicate]; omega
  obtain ⟨h1, h2⟩ := hR.drew.newCells e true hl (List.replicate (c - u.size) (.int .u8 0)) (row.length, row.length + 1) (.inr ⟨Nat.le_refl _, Nat.lt_succ_self _⟩)
  refine ⟨_, .slice (some ⟨w.heap.size, 0, none⟩) u.size c, _, ?_, ?_, h1, Ext.drew.trans h2⟩
  · have harr : (u.data.map fun b => Value.int .u8 b.toNat) ++ Array.replicate (c - u.size) (.int .u8 0) = row.toArray := by apply Array.ext'; simp [row]
    have hsh : (w.drew.alloc (.cells row.toArray e)).shape? w.heap.size = some (e, row.length) := by
      unfold World.shape?
      rw [show (w.drew.alloc (.cells row.toArray e)).heap[w.heap.size]? = some (.cells row.toArray e) from heap_new w.drew _]
      simp
    have hfz := freeze_new w.drew row.toArray e
    have e1 : (choose (Question.appendCap u.size 0 e)).run P w = .ok c w.drew := by
      rw [run_choose]; rfl
    simp only [Conv.stringToBytes, Sem.run_bind, e1, Result.andThen_ok]
    rw [harr]
    simp only [run_newRow, Result.andThen_ok, markStringish, Sem.run_bind, run_shape]
    rw [show w.drew.heap.size = w.heap.size from rfl, hsh]
    simp only [run_freeze, Result.andThen_ok, Sem.run_pure]
    rw [show row.length = row.toArray.size by simp]
    rw [show (w.heap.size) = w.drew.heap.size from rfl, hfz]
  · have := VR.slice (P := P) (s := 1) (o := 0) (n := u.size) (c := u.size) (c' := c) (Ren.add_same (ρ := ρ) (b := σ.next) (m := ⟨w.drew.heap.size, 0, e, row.length, true⟩)) (Nat.le_refl _) hc (.inr ⟨rfl, hsz, by simp [hrow]⟩)
    exact this
/-- A slice of bytes converted to its own type: its row is marked behind its end. -/
theorem slice_same_out {src e0 e : TypeId} {a : Addr} {n c n' c' o' k : Nat} {cs : Tr Value} {e' : TypeId} {g : Bool} {m : Img} (hs : P.underlying src = some (.slice e0)) (hd : P.underlying src = some (.slice e)) (hu : P.underlying e = some (.int .u8)) (hR : Rel P ρ σ w)
    (hg : σ.get a.block = some (.cells k cs e' g false)) (hm : ρ a.block = some m) (hx : VR P ρ (.slice (some a) n c) (.slice (some ⟨m.blk, o', none⟩) n' c')) :
    OutV P ρ σ w (.slice (some a) n c) (σ.set a.block (.cells k cs e' g false)) ((Go.convert src src (.slice (some ⟨m.blk, o', none⟩) n' c')).run P w) := by
  obtain rfl : e0 = e := by rw [hs] at hd; cases hd; rfl
  obtain ⟨m2, hm2, ho⟩ := hR.obj _ _ hg
  rw [hm] at hm2; cases hm2
  obtain ⟨he, hgr, c2, fz, hb, hsz, hfz, hcs⟩ := ho
  obtain ⟨hfz, hsh0⟩ := hfz rfl
  obtain ⟨fz', hheap, hthaw⟩ : ∃ fz', (w.freeze { block := m.blk, off := c2.size } 1).heap = w.heap.modify m.blk (fun _ => .cells c2 e' fz') ∧ thaw fz' m.rows := by
    obtain ⟨lo, hi⟩ := fz
    refine ⟨if lo == hi then (c2.size, c2.size + 1) else (min lo c2.size, max hi (c2.size + 1)), ?_, ?_⟩
    · simp only [World.freeze]
      rw [if_neg (by decide)]
      simp only
      apply Array.ext (by simp)
      intro i h1 h2
      simp only [Array.getElem_modify]
      by_cases q : m.blk = i
      · subst q
        have := (Array.getElem?_eq_some_iff.1 hb).2
        simp [this]
      · simp [q]
    · rcases hfz with h | ⟨h1, h2⟩
      · cases h; simp; exact .inr ⟨by omega, by simp⟩
      · right
        rw [if_neg (by simp; omega)]
        simp only
        omega
  have hlt := hR.lt _ _ hm
  have hnew : (w.freeze { block := m.blk, off := c2.size } 1).heap[m.blk]? = some (.cells c2 e' fz') := by
    rw [hheap, Array.getElem?_modify]
    simp [hb]
  have hoth : ∀ i, i ≠ m.blk → (w.freeze { block := m.blk, off := c2.size } 1).heap[i]? = w.heap[i]? := fun i hi => by
    rw [hheap, Array.getElem?_modify, if_neg (Ne.symm hi)]
  have hsize : (w.freeze { block := m.blk, off := c2.size } 1).heap.size = w.heap.size := by rw [hheap]; simp
  have rest : (w.freeze { block := m.blk, off := c2.size } 1).os = w.os ∧ (w.freeze { block := m.blk, off := c2.size } 1).tape = w.tape ∧ (w.freeze { block := m.blk, off := c2.size } 1).output = w.output := by
    unfold World.freeze; split <;> exact ⟨rfl, rfl, rfl⟩
  have hO : ObjR P ρ (w.freeze { block := m.blk, off := c2.size } 1) m (.cells k cs e' g false) := ⟨he, hgr, c2, fz', hnew, hsz, fun _ => ⟨hthaw, hsh0⟩, hcs⟩
  refine ⟨ρ, _, _, ?_, hx, hR.upd hg rfl hm hsize hoth hO rfl, .upd hg rfl hm hsize hoth rest.1 rest.2.1 rest.2.2 rfl⟩
  have hshape : w.shape? m.blk = some (e', c2.size) := by unfold World.shape?; rw [hb]
  simp [Go.convert, run_under hs, run_under hu, markStringish, run_shape, hshape]
theorem conv_out {src dst : TypeId} {x x' v : Value} {σ' : AHeap} (h : conv P src dst x σ = some (v, σ')) (hR : Rel P ρ σ w) (hx : VR P ρ x x') : OutV P ρ σ w v σ' ((Go.convert src dst x').run P w) := by
  have num : ∀ {y : Value}, atom y = true → VR P ρ y x' → (atomic (pureP P (Go.convert src dst y))).map (·, σ) = some (v, σ') → OutV P ρ σ w v σ' ((Go.convert src dst x').run P w) := fun {y} ha hy hq => by
    rw [hy.atom_inv ha]
    cases hp : atomic (pureP P (Go.convert src dst y)) with
    | none => rw [hp] at hq; simp at hq
    | some u =>
      rw [hp] at hq
      simp only [Option.map_some, Option.some.injEq, Prod.mk.injEq] at hq
      obtain ⟨rfl, rfl⟩ := hq
      obtain ⟨h1, h2⟩ := atomic_some hp
      exact .same hR (.atom h2) (pureP_run h1 w)
  unfold conv at h
  split at h
  · rename_i s d hs hd
    split at h
    · exact num rfl hx h
    · exact num rfl hx h
    · rename_i u
      rw [hx.string_inv]
      split at h
      · cases h
        exact .same hR (.atom rfl) (by simp [Go.convert, run_under hs, run_under hd])
      · rename_i e
        split at h
        · rename_i hu hsz
          cases h
          have : (Go.convert src dst (.string u)).run P w = (Conv.stringToBytes e u).run P w := by simp [Go.convert, run_under hs, run_under hd, run_under hu]
          rw [this]
          exact toBytes_out u hsz hR
        · cases h
      · cases h
    · rename_i a n c
      split at h
      · rename_i e0 e
        split at h
        · cases h
        · rename_i a
          split at h
          · cases h
          · rename_i hsp
            split at h
            · rename_i k cs e' g hq hu hg
              cases h
              simp only [Bool.and_eq_true] at hq
              obtain rfl : src = dst := Nat.eq_of_beq_eq_true hq.1
              have hc0 : 0 < c := Nat.le_of_ble_eq_true hq.2
              rcases hx.slice_inv with ⟨m, c', s, hsp', hm, hn, hcc, hz, rfl⟩ | ⟨m, a', _, _, _, rfl, rfl, rfl⟩ | ⟨q, a', _, rfl, rfl, rfl⟩
              · exact slice_same_out hs hd hu hR hg hm hx
              · exact absurd hc0 (Nat.lt_irrefl _)
              · exact absurd hc0 (Nat.lt_irrefl _)
            · cases h
      · rename_i e
        split at h
        · rename_i hu
          split at h
          · rename_i vs hf
            split at h
            · rename_i bs hb
              cases h
              obtain ⟨cs', hl, hrun⟩ := hR.first hf hx (fun k hk => by simp [lenOf'] at hk; omega)
              obtain ⟨ns, rfl, rfl⟩ := bytesOf_spec _ _ hb
              have hcs : cs' = ns.map (Value.int .u8) := hl.eq_of fun v v' hv hr => by
                obtain ⟨q, _, rfl⟩ := List.mem_map.1 hv; exact hr.atom_inv rfl
              subst hcs
              refine .same hR (v' := .string ⟨(ns.map fun n => UInt8.ofNat n.toNat).toArray⟩) (.atom rfl) ?_
              cases a with
              | none =>
                rw [hx.atom_inv rfl] at hrun ⊢
                rw [run_convert_bytes_string w src dst e none n c hs hu hd]
                simp only [Builtin.firstCells, Sem.run_pure] at hrun
                injection hrun with hrun
                have : ns = [] := by cases ns with | nil => rfl | cons => simp at hrun
                subst this
                rfl
              | some a =>
                obtain ⟨a2, c2, rfl⟩ : ∃ a2 c2, x' = .slice (some a2) n c2 := by
                  rcases hx.slice_inv with ⟨m, c', s, _, _, _, _, _, rfl⟩ | ⟨m, a', _, _, _, rfl, rfl, rfl⟩ | ⟨k, a', _, rfl, rfl, rfl⟩ <;> exact ⟨_, _, rfl⟩
                rw [run_convert_bytes_string w src dst e (some a2) n c2 hs hu hd]
                simp only [Builtin.firstCells, Nat.mul_one] at hrun
                rw [run_bytesToString w a2 n c2 ns hrun, foldl_push]
                rfl
            · cases h
          · cases h
        · cases h
      · cases h
    · cases h
  · cases h

/-! Storing into a slice. -/
theorem Rel.stSlice (hR : Rel P ρ σ w) {a : Addr} {n c k : Nat} {x' : Value} {vs vs' : List Value} {σ' : AHeap} (hx : VR P ρ (.slice (some a) n c) x') (h : AE.stCells σ a.block (a.off + k) vs = some σ') (hl : LR P ρ vs vs') (hc : vs ≠ [] → 0 < c) :
    ∃ a' c' w', x' = .slice (some a') n c' ∧ c ≤ c' ∧ (storeCells (a'.add k) vs').run P w = .ok () w' ∧ Rel P ρ σ' w' ∧ Ext ρ σ w ρ σ' w' := by
  have emp : ∀ a', c = 0 → ∃ w', (storeCells ((a' : Addr).add k) vs').run P w = .ok () w' ∧ Rel P ρ σ' w' ∧ Ext ρ σ w ρ σ' w' := fun a' h0 => by
    cases vs with
    | nil => rw [hl.nil_inv]; simp only [AE.stCells, Option.some.injEq] at h; subst h; exact ⟨w, rfl, hR, .refl _ _ _⟩
    | cons v r => have := hc (by simp); omega
  rcases hx.slice_inv with ⟨m, c', s, hsp, hm, hn, hcc, hz, rfl⟩ | ⟨m, a', _, _, _, rfl, rfl, rfl⟩ | ⟨q, a', _, rfl, rfl, rfl⟩
  · obtain ⟨w', h1, h2, h3⟩ := hR.stCells h hm hl
    exact ⟨_, c', w', rfl, hcc, by rw [addr_add, show a.off + m.shift + k = a.off + k + m.shift by omega]; exact h1, h2, h3⟩
  · obtain ⟨w', h1, h2, h3⟩ := emp a' rfl
    exact ⟨a', 0, w', rfl, Nat.le_refl _, h1, h2, h3⟩
  · obtain ⟨w', h1, h2, h3⟩ := emp a' rfl
    exact ⟨a', 0, w', rfl, Nat.le_refl _, h1, h2, h3⟩
theorem addr_add0 (a : Addr) : a.add 0 = a := by simp [Addr.add]
theorem copy_out {ts : Array TypeId} {t ty elem size sl dLen dCap : Nat} {base : Option Addr} {s d' s' : Value} {cs : List Value} {v : Value} {σ' : AHeap} (ht : ts[0]? = some t) (hu : P.underlying t = some (.slice elem)) (hs : sizeOf' P elem = some size) (hsl : lenOf' s = some sl) (hdc : dLen ≤ dCap)
    (hf : firstCells' size (Nat.min sl dLen) σ s = some cs)
    (h : (match base with | none => some (goInt (Nat.min sl dLen), σ) | some a => match stCells σ a.block a.off cs with | some σ => some (goInt (Nat.min sl dLen), σ) | none => none) = some (v, σ'))
    (hR : Rel P ρ σ w) (hd : VR P ρ (.slice base dLen dCap) d') (hsv : VR P ρ s s') : OutV P ρ σ w v σ' ((Builtin.copy_ ts ty #[d', s']).run P w) := by
  obtain ⟨cs', hl, hrun⟩ := hR.first hf hsv (fun k hk => by rw [hsl] at hk; cases hk; exact Nat.min_le_left _ _)
  have hlen := lenOf_sound (w := w) hsl hsv
  cases base with
  | none =>
    simp only [Option.some.injEq, Prod.mk.injEq] at h
    obtain ⟨rfl, rfl⟩ := h
    rw [hd.atom_inv rfl]
    refine .same hR (.atom rfl) ?_
    simp only [Builtin.copy_, ht, List.getElem?_toArray, List.getElem?_cons_zero, List.getElem?_cons_succ, Sem.run_bind, run_under hu, Result.andThen_ok, hlen, info_size hs, hrun, Sem.run_pure]
  | some a =>
    simp only at h
    split at h
    · rename_i σ2 hst
      cases h
      by_cases hn : Nat.min sl dLen = 0
      · have hcs : cs = [] := by
          rw [hn] at hf
          cases s with
          | slice b q r => cases b with | none => simpa [firstCells'] using hf.symm | some b => simpa [firstCells', AE.ldCells] using hf.symm
          | string u => simpa [firstCells'] using hf.symm
          | _ => simp [firstCells'] at hf
        subst hcs
        obtain ⟨a', c', w', rfl, _, h1, h2, h3⟩ := hR.stSlice (k := 0) hd (by rw [Nat.add_zero]; exact hst) hl (fun hne => absurd rfl hne)
        refine ⟨ρ, _, w', ?_, .atom rfl, h2, h3⟩
        simp only [Builtin.copy_, ht, List.getElem?_toArray, List.getElem?_cons_zero, List.getElem?_cons_succ, Sem.run_bind, run_under hu, Result.andThen_ok, hlen, info_size hs, hrun, Sem.run_pure]
        rw [addr_add0] at h1
        simp [h1]
      · obtain ⟨a', c', w', rfl, _, h1, h2, h3⟩ := hR.stSlice (k := 0) hd (by rw [Nat.add_zero]; exact hst) hl (fun _ => by have : Nat.min sl dLen ≤ dLen := Nat.min_le_right _ _; omega)
        refine ⟨ρ, _, w', ?_, .atom rfl, h2, h3⟩
        simp only [Builtin.copy_, ht, List.getElem?_toArray, List.getElem?_cons_zero, List.getElem?_cons_succ, Sem.run_bind, run_under hu, Result.andThen_ok, hlen, info_size hs, hrun, Sem.run_pure]
        rw [addr_add0] at h1
        simp [h1]
    · cases h
end Go.AE
