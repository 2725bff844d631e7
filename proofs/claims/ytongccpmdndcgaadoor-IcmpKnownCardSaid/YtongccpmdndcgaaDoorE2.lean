/- Texts of this proof, gathered. What each part says stands at its head; conditions: none but those that its theorems name. -/
import Derived.Test.YtongccpmdndcgaaDoorE1
import Derived.RegionTactic
/- Conversions, appending, copying. -/
section
set_option linter.all false
namespace Go.AE
variable {D : Prop} {P : Program} {ρ : Ren} {σ : AHeap} {w : World}

theorem Rel.drew (h : Rel P ρ σ w) : Rel P ρ σ w.drew := h.of_heap rfl
theorem Ext.drew : Ext D ρ σ w ρ σ w.drew := .of_heap rfl rfl rfl rfl (Nat.le_succ _)
theorem push_modify {α : Type} (a : Array α) (x : α) (f : α → α) : (a.push x).modify a.size f = a.push (f x) := by
  apply Array.ext_getElem?
  intro i
  rw [Array.getElem?_modify, Array.getElem?_push, Array.getElem?_push]
  by_cases h : i = a.size
  · subst h; simp
  · rw [if_neg h, if_neg (Ne.symm h), if_neg h]
theorem freeze_new (w : World) (c : Array Value) (e : TypeId) : (w.alloc (.cells c e)).freeze { block := w.heap.size, off := c.size } 1 = w.alloc (.cells c e (c.size, c.size + 1)) := by
  unfold World.freeze World.alloc
  rw [if_neg (by decide)]
  simp only
  rw [push_modify]
  simp
theorem toBytes_out (u : ByteArray) {e : TypeId} (hsz : sizeOf' P e = some 1) (hR : Rel P ρ σ w) :
    OutV D P ρ σ w (.slice (some ⟨(newCells σ e (u.data.toList.map fun b => Value.int .u8 b.toNat) true).1, 0, none⟩) u.size u.size) (newCells σ e (u.data.toList.map fun b => Value.int .u8 b.toNat) true).2 ((Conv.stringToBytes e u).run P w) := by
  have hlen : (u.data.toList.map fun b => Value.int .u8 b.toNat).length = u.size := by simp
  have hl : LR P ρ (u.data.toList.map fun b => Value.int .u8 b.toNat) (u.data.toList.map fun b => Value.int .u8 b.toNat) := .map fun b _ => .atom rfl
  let c := (Question.appendCap u.size 0 e).cut (w.tape w.drawn (.appendCap u.size 0 e))
  have hc : u.size ≤ c := Nat.le_add_right _ _
  let row : List Value := (u.data.toList.map fun b => Value.int .u8 b.toNat) ++ List.replicate (c - u.size) (.int .u8 0)
  have hrow : row.length = c := by simp only [row, List.length_append, hlen, List.length_replicate]; omega
  obtain ⟨h1, h2⟩ := hR.drew.newCells e true hl (List.replicate (c - u.size) (.int .u8 0)) (row.length, row.length + 1) (.inr ⟨Nat.le_refl _, Nat.lt_succ_self _⟩)
  refine ⟨_, .slice (some ⟨w.heap.size, 0, none⟩) u.size c, _, ?_, ?_, h1, Ext.drew.trans h2⟩
  · have harr : (u.data.map fun b => Value.int .u8 b.toNat) ++ Array.replicate (c - u.size) (.int .u8 0) = row.toArray := by apply Array.ext'; simp [row]
    have hsh : (w.drew.alloc (.cells row.toArray e)).shape? w.heap.size = some (e, row.length) := by
      unfold World.shape?
      rw [show (w.drew.alloc (.cells row.toArray e)).heap[w.heap.size]? = some (.cells row.toArray e) from heap_new w.drew _]
      simp
    have hfz := freeze_new w.drew row.toArray e
    have e1 : (choose (Question.appendCap u.size 0 e)).run P w = .ok c w.drew := by
      rw [run_choose]; rfl
    simp only [Conv.stringToBytes, Sem.run_bind, e1, Result.andThen_ok]
    rw [harr]
    simp only [run_newRow, Result.andThen_ok, markStringish, Sem.run_bind, run_shape]
    rw [show w.drew.heap.size = w.heap.size from rfl, hsh]
    simp only [run_freeze, Result.andThen_ok, Sem.run_pure]
    rw [show row.length = row.toArray.size by simp]
    rw [show (w.heap.size) = w.drew.heap.size from rfl, hfz]
  · have := VR.slice (P := P) (s := 1) (o := 0) (n := u.size) (c := u.size) (c' := c) (Ren.add_same (ρ := ρ) (b := σ.next) (m := ⟨w.drew.heap.size, 0, e, row.length, true⟩)) (Nat.le_refl _) hc (.inr ⟨rfl, hsz, by simp [hrow]⟩)
    exact this
/-- A slice of bytes converted to its own type: its row is marked behind its end. -/
theorem slice_same_out {src e0 e : TypeId} {a : Addr} {n c n' c' o' k : Nat} {cs : Tr Value} {e' : TypeId} {g : Bool} {m : Img} (hs : P.underlying src = some (.slice e0)) (hd : P.underlying src = some (.slice e)) (hu : P.underlying e = some (.int .u8)) (hR : Rel P ρ σ w)
    (hg : σ.get a.block = some (.cells k cs e' g false)) (hm : ρ a.block = some m) (hx : VR P ρ (.slice (some a) n c) (.slice (some ⟨m.blk, o', none⟩) n' c')) :
    OutV D P ρ σ w (.slice (some a) n c) (σ.set a.block (.cells k cs e' g false)) ((Go.convert src src (.slice (some ⟨m.blk, o', none⟩) n' c')).run P w) := by
  obtain rfl : e0 = e := by rw [hs] at hd; cases hd; rfl
  obtain ⟨m2, hm2, ho⟩ := hR.obj _ _ hg
  rw [hm] at hm2; cases hm2
  obtain ⟨he, hgr, c2, fz, hb, hsz, hfz, hcs⟩ := ho
  obtain ⟨hfz, hsh0⟩ := hfz rfl
  obtain ⟨fz', hheap, hthaw⟩ : ∃ fz', (w.freeze { block := m.blk, off := c2.size } 1).heap = w.heap.modify m.blk (fun _ => .cells c2 e' fz') ∧ thaw fz' m.rows := by
    obtain ⟨lo, hi⟩ := fz
    refine ⟨if lo == hi then (c2.size, c2.size + 1) else (min lo c2.size, max hi (c2.size + 1)), ?_, ?_⟩
    · simp only [World.freeze]
      rw [if_neg (by decide)]
      simp only
      apply Array.ext (by simp)
      intro i h1 h2
      simp only [Array.getElem_modify]
      by_cases q : m.blk = i
      · subst q
        have := (Array.getElem?_eq_some_iff.1 hb).2
        simp [this]
      · simp [q]
    · rcases hfz with h | ⟨h1, h2⟩
      · cases h; simp; exact .inr ⟨by omega, by simp⟩
      · right
        rw [if_neg (by simp; omega)]
        simp only
        omega
  have hlt := hR.lt _ _ hm
  have hnew : (w.freeze { block := m.blk, off := c2.size } 1).heap[m.blk]? = some (.cells c2 e' fz') := by
    rw [hheap, Array.getElem?_modify]
    simp [hb]
  have hoth : ∀ i, i ≠ m.blk → (w.freeze { block := m.blk, off := c2.size } 1).heap[i]? = w.heap[i]? := fun i hi => by
    rw [hheap, Array.getElem?_modify, if_neg (Ne.symm hi)]
  have hsize : (w.freeze { block := m.blk, off := c2.size } 1).heap.size = w.heap.size := by rw [hheap]; simp
  have rest : (w.freeze { block := m.blk, off := c2.size } 1).os = w.os ∧ (w.freeze { block := m.blk, off := c2.size } 1).tape = w.tape ∧ (w.freeze { block := m.blk, off := c2.size } 1).output = w.output := by
    unfold World.freeze; split <;> exact ⟨rfl, rfl, rfl⟩
  have hO : ObjR P ρ (w.freeze { block := m.blk, off := c2.size } 1) m (.cells k cs e' g false) := ⟨he, hgr, c2, fz', hnew, hsz, fun _ => ⟨hthaw, hsh0⟩, hcs⟩
  refine ⟨ρ, _, _, ?_, hx, hR.upd hg rfl hm hsize hoth hO rfl, .upd hg rfl hm hsize hoth rest.1 rest.2.1 rest.2.2 rfl (Nat.le_of_eq (by unfold World.freeze; first | rfl | (split <;> rfl)))⟩
  have hshape : w.shape? m.blk = some (e', c2.size) := by unfold World.shape?; rw [hb]
  simp [Go.convert, run_under hs, run_under hu, markStringish, run_shape, hshape]
theorem conv_out {src dst : TypeId} {x x' v : Value} {σ' : AHeap} (h : conv P src dst x σ = some (v, σ')) (hR : Rel P ρ σ w) (hx : VR P ρ x x') : OutV D P ρ σ w v σ' ((Go.convert src dst x').run P w) := by
  have num : ∀ {y : Value}, atom y = true → VR P ρ y x' → (atomic (pureP P (Go.convert src dst y))).map (·, σ) = some (v, σ') → OutV D P ρ σ w v σ' ((Go.convert src dst x').run P w) := fun {y} ha hy hq => by
    rw [hy.atom_inv ha]
    cases hp : atomic (pureP P (Go.convert src dst y)) with
    | none => rw [hp] at hq; simp at hq
    | some u =>
      rw [hp] at hq
      simp only [Option.map_some, Option.some.injEq, Prod.mk.injEq] at hq
      obtain ⟨rfl, rfl⟩ := hq
      obtain ⟨h1, h2⟩ := atomic_some hp
      exact .same hR (.atom h2) (pureP_run h1 w)
  unfold conv at h
  split at h
  · rename_i s d hs hd
    split at h
    · exact num rfl hx h
    · exact num rfl hx h
    · rename_i u
      rw [hx.string_inv]
      split at h
      · cases h
        exact .same hR (.atom rfl) (by simp [Go.convert, run_under hs, run_under hd])
      · rename_i e
        split at h
        · rename_i hu hsz
          cases h
          have : (Go.convert src dst (.string u)).run P w = (Conv.stringToBytes e u).run P w := by simp [Go.convert, run_under hs, run_under hd, run_under hu]
          rw [this]
          exact toBytes_out u hsz hR
        · cases h
      · cases h
    · rename_i a n c
      split at h
      · rename_i e0 e
        split at h
        · cases h
        · rename_i a
          split at h
          · cases h
          · rename_i hsp
            split at h
            · rename_i k cs e' g hq hu hg
              cases h
              simp only [Bool.and_eq_true] at hq
              obtain rfl : src = dst := Nat.eq_of_beq_eq_true hq.1
              have hc0 : 0 < c := Nat.le_of_ble_eq_true hq.2
              rcases hx.slice_inv with ⟨m, c', s, hsp', hm, hn, hcc, hz, rfl⟩ | ⟨m, a', _, _, _, rfl, rfl, rfl⟩ | ⟨q, a', _, rfl, rfl, rfl⟩
              · exact slice_same_out hs hd hu hR hg hm hx
              · exact absurd hc0 (Nat.lt_irrefl _)
              · exact absurd hc0 (Nat.lt_irrefl _)
            · cases h
      · rename_i e
        split at h
        · rename_i hu
          split at h
          · rename_i vs hf
            split at h
            · rename_i bs hb
              cases h
              obtain ⟨cs', hl, hrun⟩ := hR.first hf hx (fun k hk => by simp [lenOf'] at hk; omega)
              obtain ⟨ns, rfl, rfl⟩ := bytesOf_spec _ _ hb
              have hcs : cs' = ns.map (Value.int .u8) := hl.eq_of fun v v' hv hr => by
                obtain ⟨q, _, rfl⟩ := List.mem_map.1 hv; exact hr.atom_inv rfl
              subst hcs
              refine .same hR (v' := .string ⟨(ns.map fun n => UInt8.ofNat n.toNat).toArray⟩) (.atom rfl) ?_
              cases a with
              | none =>
                rw [hx.atom_inv rfl] at hrun ⊢
                rw [run_convert_bytes_string w src dst e none n c hs hu hd]
                simp only [Builtin.firstCells, Sem.run_pure] at hrun
                injection hrun with hrun
                have : ns = [] := by cases ns with | nil => rfl | cons => simp at hrun
                subst this
                rfl
              | some a =>
                obtain ⟨a2, c2, rfl⟩ : ∃ a2 c2, x' = .slice (some a2) n c2 := by
                  rcases hx.slice_inv with ⟨m, c', s, _, _, _, _, _, rfl⟩ | ⟨m, a', _, _, _, rfl, rfl, rfl⟩ | ⟨k, a', _, rfl, rfl, rfl⟩ <;> exact ⟨_, _, rfl⟩
                rw [run_convert_bytes_string w src dst e (some a2) n c2 hs hu hd]
                simp only [Builtin.firstCells, Nat.mul_one] at hrun
                rw [run_bytesToString w a2 n c2 ns hrun, foldl_push]
                rfl
            · cases h
          · cases h
        · cases h
      · cases h
    · cases h
  · cases h

/-! Storing into a slice. -/
theorem Rel.stSlice (hR : Rel P ρ σ w) {a : Addr} {n c k : Nat} {x' : Value} {vs vs' : List Value} {σ' : AHeap} (hx : VR P ρ (.slice (some a) n c) x') (h : AE.stCells σ a.block (a.off + k) vs = some σ') (hl : LR P ρ vs vs') (hc : vs ≠ [] → 0 < c) :
    ∃ a' c' w', x' = .slice (some a') n c' ∧ c ≤ c' ∧ (storeCells (a'.add k) vs').run P w = .ok () w' ∧ Rel P ρ σ' w' ∧ Ext D ρ σ w ρ σ' w' := by
  have emp : ∀ a', c = 0 → ∃ w', (storeCells ((a' : Addr).add k) vs').run P w = .ok () w' ∧ Rel P ρ σ' w' ∧ Ext D ρ σ w ρ σ' w' := fun a' h0 => by
    cases vs with
    | nil => rw [hl.nil_inv]; simp only [AE.stCells, Option.some.injEq] at h; subst h; exact ⟨w, rfl, hR, .refl _ _ _⟩
    | cons v r => have := hc (by simp); omega
  rcases hx.slice_inv with ⟨m, c', s, hsp, hm, hn, hcc, hz, rfl⟩ | ⟨m, a', _, _, _, rfl, rfl, rfl⟩ | ⟨q, a', _, rfl, rfl, rfl⟩
  · obtain ⟨w', h1, h2, h3⟩ := hR.stCells h hm hl
    exact ⟨_, c', w', rfl, hcc, by rw [addr_add, show a.off + m.shift + k = a.off + k + m.shift by omega]; exact h1, h2, h3⟩
  · obtain ⟨w', h1, h2, h3⟩ := emp a' rfl
    exact ⟨a', 0, w', rfl, Nat.le_refl _, h1, h2, h3⟩
  · obtain ⟨w', h1, h2, h3⟩ := emp a' rfl
    exact ⟨a', 0, w', rfl, Nat.le_refl _, h1, h2, h3⟩
theorem addr_add0 (a : Addr) : a.add 0 = a := by simp [Addr.add]
theorem copy_out {ts : Array TypeId} {t ty elem size sl dLen dCap : Nat} {base : Option Addr} {s d' s' : Value} {cs : List Value} {v : Value} {σ' : AHeap} (ht : ts[0]? = some t) (hu : P.underlying t = some (.slice elem)) (hs : sizeOf' P elem = some size) (hsl : lenOf' s = some sl) (hdc : dLen ≤ dCap)
    (hf : firstCells' size (Nat.min sl dLen) σ s = some cs)
    (h : (match base with | none => some (goInt (Nat.min sl dLen), σ) | some a => match stCells σ a.block a.off cs with | some σ => some (goInt (Nat.min sl dLen), σ) | none => none) = some (v, σ'))
    (hR : Rel P ρ σ w) (hd : VR P ρ (.slice base dLen dCap) d') (hsv : VR P ρ s s') : OutV D P ρ σ w v σ' ((Builtin.copy_ ts ty #[d', s']).run P w) := by
  obtain ⟨cs', hl, hrun⟩ := hR.first hf hsv (fun k hk => by rw [hsl] at hk; cases hk; exact Nat.min_le_left _ _)
  have hlen := lenOf_sound (w := w) hsl hsv
  cases base with
  | none =>
    simp only [Option.some.injEq, Prod.mk.injEq] at h
    obtain ⟨rfl, rfl⟩ := h
    rw [hd.atom_inv rfl]
    refine .same hR (.atom rfl) ?_
    simp only [Builtin.copy_, ht, List.getElem?_toArray, List.getElem?_cons_zero, List.getElem?_cons_succ, Sem.run_bind, run_under hu, Result.andThen_ok, hlen, info_size hs, hrun, Sem.run_pure]
  | some a =>
    simp only at h
    split at h
    · rename_i σ2 hst
      cases h
      by_cases hn : Nat.min sl dLen = 0
      · have hcs : cs = [] := by
          rw [hn] at hf
          cases s with
          | slice b q r => cases b with | none => simpa [firstCells'] using hf.symm | some b => simpa [firstCells', AE.ldCells] using hf.symm
          | string u => simpa [firstCells'] using hf.symm
          | _ => simp [firstCells'] at hf
        subst hcs
        obtain ⟨a', c', w', rfl, _, h1, h2, h3⟩ := hR.stSlice (k := 0) hd (by rw [Nat.add_zero]; exact hst) hl (fun hne => absurd rfl hne)
        refine ⟨ρ, _, w', ?_, .atom rfl, h2, h3⟩
        simp only [Builtin.copy_, ht, List.getElem?_toArray, List.getElem?_cons_zero, List.getElem?_cons_succ, Sem.run_bind, run_under hu, Result.andThen_ok, hlen, info_size hs, hrun, Sem.run_pure]
        rw [addr_add0] at h1
        simp [h1]
      · obtain ⟨a', c', w', rfl, _, h1, h2, h3⟩ := hR.stSlice (k := 0) hd (by rw [Nat.add_zero]; exact hst) hl (fun _ => by have : Nat.min sl dLen ≤ dLen := Nat.min_le_right _ _; omega)
        refine ⟨ρ, _, w', ?_, .atom rfl, h2, h3⟩
        simp only [Builtin.copy_, ht, List.getElem?_toArray, List.getElem?_cons_zero, List.getElem?_cons_succ, Sem.run_bind, run_under hu, Result.andThen_ok, hlen, info_size hs, hrun, Sem.run_pure]
        rw [addr_add0] at h1
        simp [h1]
    · cases h
end Go.AE
end
/- Appending; lengths; clearing. -/
section
set_option linter.all false
namespace Go.AE
variable {D : Prop} {P : Program} {ρ : Ren} {σ : AHeap} {w : World}

/-- The model's append once the cells to append are read. -/
theorem run_append_room {ts : Array TypeId} {t xt ty elem size n sLen sCap : Nat} {dx : TypeDesc} {base : Option Addr} {x : Value} {cs : List Value} (ht : ts[0]? = some t) (ht1 : ts[1]? = some xt) (hu : P.underlying t = some (.slice elem)) (hux : P.underlying xt = some dx) (hdx : ∀ k, dx ≠ .int k)
    (hs : sizeOf' P elem = some size) (hn : (Builtin.lenOf x).run P w = .ok n w) (hf : (Builtin.firstCells size n x).run P w = .ok cs.toArray w) (hle : sLen + n ≤ sCap) :
    (Builtin.append_ ts ty #[.slice base sLen sCap, x]).run P w = match base with
      | none => .ok (.slice none (sLen + n) sCap) w
      | some a => ((storeCells (a.add (sLen * size)) cs).run P w).andThen fun _ w' => .ok (.slice (some a) (sLen + n) sCap) w' := by
  have hz : (match dx with | .int _ => true | _ => false) = false := by cases dx <;> first | rfl | exact absurd rfl (hdx _)
  simp only [Builtin.append_, ht, ht1, List.getElem?_toArray, List.getElem?_cons_zero, List.getElem?_cons_succ, Sem.run_bind, run_under hu, run_under hux, Result.andThen_ok, info_size hs, Sem.run_pure, hz, Bool.false_eq_true, if_false, hn]
  rw [if_pos hle]
  simp only [Bool.not_false, if_true, Sem.run_bind, hf, Result.andThen_ok]
  cases base with
  | none => simp
  | some a => simp
theorem run_append_new {ts : Array TypeId} {t xt ty elem n sLen sCap : Nat} {i : TypeInfo} {z : Value} {dx : TypeDesc} {base : Option Addr} {x : Value} {cs old : List Value} (ht : ts[0]? = some t) (ht1 : ts[1]? = some xt) (hu : P.underlying t = some (.slice elem)) (hux : P.underlying xt = some dx) (hdx : ∀ k, dx ≠ .int k)
    (hi : P.info? elem = some i) (hz : i.zero = some z) (hby : i.bytes ≤ 1048576) (hn : (Builtin.lenOf x).run P w = .ok n w) (hlt : sCap < sLen + n) (hle : sLen + n ≤ 1048576)
    (ho : (Builtin.firstCells i.size sLen (.slice base sLen sCap)).run P w.drew = .ok old.toArray w.drew) (hf : (Builtin.firstCells i.size n x).run P w.drew = .ok cs.toArray w.drew) :
    ∃ c, sLen + n ≤ c ∧ (Builtin.append_ ts ty #[.slice base sLen sCap, x]).run P w = .ok (.slice (some ⟨w.heap.size, 0, none⟩) (sLen + n) c) (w.drew.alloc (.cells (old.toArray ++ cs.toArray ++ Builtin.zeroCells z.cells (c - (sLen + n))) elem)) := by
  have hzz : (match dx with | .int _ => true | _ => false) = false := by cases dx <;> first | rfl | exact absurd rfl (hdx _)
  refine ⟨(Question.appendCap (sLen + n) sCap elem).cut (w.tape w.drawn (.appendCap (sLen + n) sCap elem)), Nat.le_add_right _ _, ?_⟩
  have hsz : (sizeOf elem).run P w = .ok i.size w := by simp [sizeOf, typeInfo, hi]
  have hcap := nextslicecap_le hlt
  have hmul : Builtin.nextslicecap (sLen + n) sCap * i.bytes ≤ 2097152 * 1048576 := Nat.mul_le_mul (by omega) hby
  simp only [Builtin.append_, ht, ht1, List.getElem?_toArray, List.getElem?_cons_zero, List.getElem?_cons_succ, Sem.run_bind, run_under hu, run_under hux, Result.andThen_ok, hsz, Sem.run_pure, hzz, Bool.false_eq_true, if_false, hn]
  rw [if_neg (by omega)]
  have hty : ∀ w : World, (typeInfo elem).run P w = .ok i w := fun w => by simp [typeInfo, hi]
  have hmax : ¬ ((((sLen + n : Nat) : Int) > IntKind.i64.max) ∧ (False ∨ i.bytes = 0)) := by
    have : IntKind.i64.max = 9223372036854775807 := by decide
    omega
  simp only [Sem.run_bind, hty, Result.andThen_ok]
  rw [if_neg (by simpa using hmax)]
  simp only [Sem.run_bind, hty, Result.andThen_ok]
  rw [if_neg (by omega)]
  have e1 : (choose (Question.appendCap (sLen + n) sCap elem)).run P w = .ok ((Question.appendCap (sLen + n) sCap elem).cut (w.tape w.drawn (.appendCap (sLen + n) sCap elem))) w.drew := by
    rw [run_choose]; rfl
  simp only [Sem.run_bind, e1, Result.andThen_ok, hty, run_askRoom, ho, Bool.not_false, if_true, hf]
  have hzv : (zeroValue elem).run P w.drew = .ok z w.drew := by simp [zeroValue, typeInfo, hi, hz]
  simp only [hzv, Result.andThen_ok, run_newRow, Sem.run_pure]
  rfl
theorem zeroCells_len (z : Array Value) (n : Nat) : (Builtin.zeroCells z n).size = n * z.size := by simp [Builtin.zeroCells]

theorem append_out {ts : Array TypeId} {ty : Nat} {s x s' x' v : Value} {t : TypeId} {σ' : AHeap} (ht : ts[0]? = some t) (h : append' P t ts[1]? s x σ = some (v, σ')) (hR : Rel P ρ σ w) (hs : VR P ρ s s') (hx : VR P ρ x x') :
    OutV D P ρ σ w v σ' ((Builtin.append_ ts ty #[s', x']).run P w) := by
  unfold append' at h
  split at h
  · rename_i elem base sLen sCap hu
    split at h
    · rename_i size zs xt he hxt
      obtain ⟨i, z, hi, hz, hpl, hzs, hby, rfl, rfl⟩ := elemOk_spec he
      have hsz : sizeOf' P elem = some i.size := by simp [sizeOf', hi]
      split at h
      · cases h
      · rename_i dx hdx hux
        split at h
        · rename_i n hn
          split at h
          · rename_i cs hf
            obtain ⟨cs', hl, hfr⟩ := hR.first hf hx (fun k hk => by rw [hn] at hk; cases hk; exact Nat.le_refl _)
            have hlen := lenOf_sound (w := w) hn hx
            obtain ⟨csd, hld, hfd⟩ := hR.drew.first hf hx (fun k hk => by rw [hn] at hk; cases hk; exact Nat.le_refl _)
            unfold appendCells at h
            split at h
            · rename_i hle
              have hle := Nat.le_of_ble_eq_true hle
              split at h
              · cases h
                rw [hs.atom_inv rfl]
                refine .same hR (v' := .slice none (sLen + n) sCap) (.atom rfl) ?_
                rw [run_append_room ht hxt hu hux hdx hsz hlen hfr hle]
              · rename_i a
                split at h
                · rename_i σ2 hst
                  cases h
                  have hpos : cs ≠ [] → 0 < sCap := fun hne => by
                    rcases Nat.eq_zero_or_pos sCap with h0 | h0
                    · exfalso
                      obtain rfl : n = 0 := by omega
                      apply hne
                      cases x with
                      | slice b q r => cases b with | none => simpa [firstCells'] using hf.symm | some b => simpa [firstCells', AE.ldCells] using hf.symm
                      | string u => simpa [firstCells'] using hf.symm
                      | _ => simp [firstCells'] at hf
                    · exact h0
                  obtain ⟨a', c', w', rfl, hcc, h1, h2, h3⟩ := hR.stSlice hs hst hl hpos
                  refine ⟨ρ, .slice (some a') (sLen + n) c', w', ?_, ?_, h2, h3⟩
                  · rw [run_append_room ht hxt hu hux hdx hsz hlen hfr (by omega)]
                    simp only [h1, Result.andThen_ok]
                  · rcases hs.slice_inv with ⟨m, c2, s2, hsp, hm, hn2, hc2, hz2, e2⟩ | ⟨m, a2, hsp, hm, hg2, rfl, rfl, e2⟩ | ⟨k, a2, hsp, rfl, rfl, e2⟩
                    · cases e2
                      obtain ⟨b, o, sp⟩ := a
                      simp only at hsp hm; subst hsp
                      exact .slice hm (by omega) hc2 hz2
                    · cases e2
                      obtain rfl : n = 0 := by omega
                      obtain ⟨b, o, sp⟩ := a
                      simp only at hsp hm; subst hsp
                      exact .tail hm hg2
                    · cases e2
                      obtain rfl : n = 0 := by omega
                      exact .empty hsp
                · cases h
            · rename_i hnle
              have hnle : sCap < sLen + n := by
                rcases Nat.lt_or_ge sCap (sLen + n) with q | q
                · exact q
                · rw [Nat.ble_eq_true_of_le q] at hnle; cases hnle
              split at h
              · rename_i old ho
                split at h
                · rename_i hb
                  simp only [Bool.and_eq_true, beq_tf, decide_eq_true_eq, Nat.ble_eq] at hb
                  obtain ⟨⟨⟨hbig, hol0⟩, hcl0⟩, hsing⟩ := hb
                  obtain ⟨old', hol, hor⟩ := hR.drew.first ho hs (fun k hk => by simp only [lenOf', Option.some.injEq] at hk; omega)
                  -- a new row
                  have fresh : ∀ (σ0 : AHeap), Rel P ρ σ0 w → Ext D ρ σ w ρ σ0 w → ∀ (base' : Option Addr) (cap' : Nat), s' = .slice base' sLen cap' → cap' < sLen + n →
                      OutV D P ρ σ w (.slice (some ⟨(newCells σ0 elem (old ++ cs) true).1, 0, none⟩) (sLen + n) (sLen + n)) (newCells σ0 elem (old ++ cs) true).2 ((Builtin.append_ ts ty #[s', x']).run P w) := by
                    intro σ0 hR0 hE0 base' cap' e hlt
                    subst e
                    obtain ⟨c, hc, hrun⟩ := run_append_new (ty := ty) (w := w) ht hxt hu hux hdx hi hz hby hlen hlt hbig hor hfd
                    have hlr := hol.append hld
                    obtain ⟨g1, g2⟩ := hR0.drew.newCells elem true hlr (Builtin.zeroCells z.cells (c - (sLen + n))).toList (0, 0) (thaw_zero _)
                    have harr : (old' ++ csd ++ (Builtin.zeroCells z.cells (c - (sLen + n))).toList).toArray = old'.toArray ++ csd.toArray ++ Builtin.zeroCells z.cells (c - (sLen + n)) := by apply Array.ext'; simp
                    rw [harr] at g1 g2
                    have hrows : (old' ++ csd ++ (Builtin.zeroCells z.cells (c - (sLen + n))).toList).length = c * i.size := by
                      rw [List.length_append, List.length_append, ← hol.len, ← hld.len, hol0, hcl0, Array.length_toList, zeroCells_len, hzs, ← Nat.add_mul, ← Nat.add_mul]
                      congr 1
                      omega
                    refine ⟨_, _, _, hrun, ?_, g1, (hE0.trans Ext.drew).trans g2⟩
                    have := VR.slice (P := P) (s := i.size) (o := 0) (n := sLen + n) (c := sLen + n) (c' := c) (Ren.add_same (ρ := ρ) (b := σ0.next) (m := ⟨w.drew.heap.size, 0, elem, (old' ++ csd ++ (Builtin.zeroCells z.cells (c - (sLen + n))).toList).length, true⟩)) (Nat.le_refl _) hc (.inr ⟨rfl, hsz, by show 0 + 0 + c * i.size ≤ (old' ++ csd ++ (Builtin.zeroCells z.cells (c - (sLen + n))).toList).length; rw [hrows]; omega⟩)
                    exact this
                  split at h
                  · cases h
                    exact fresh σ hR (.refl _ _ _) none sCap (hs.atom_inv rfl) hnle
                  · rename_i a
                    split at h
                    · rename_i k hk
                      cases h
                      rcases hs.slice_inv with ⟨_, _, _, hsp, _⟩ | ⟨_, _, hsp, _⟩ | ⟨k2, a2, hsp, rfl, rfl, e2⟩
                      · rw [hk] at hsp; cases hsp
                      · rw [hk] at hsp; cases hsp
                      · exact fresh σ hR (.refl _ _ _) (some a2) 0 e2 hnle
                    · rename_i hsp0
                      split at h
                      · rename_i nn c e hg
                        split at h
                        · rename_i hee
                          have hee : e = elem := Nat.eq_of_beq_eq_true hee
                          subst hee
                          cases h
                          rcases hs.slice_inv with ⟨m, c2, s2, hsp, hm, hn2, hc2, hz2, e2⟩ | ⟨m, a2, hsp, hm, hg2, rfl, rfl, e2⟩ | ⟨k, a2, hsp, _⟩
                          · by_cases hroom : sLen + n ≤ c2
                            · -- written in place
                              subst e2
                              obtain ⟨b, o, sp⟩ := a
                              simp only at hsp hm hg hz2; subst hsp
                              obtain ⟨m3, hm3, hme, hmg, d, fz, hheap, hdz, hth, hcell⟩ := hR.obj b _ hg
                              rw [hm] at hm3; cases hm3
                              have hz3 := hz2.resolve_left (by omega)
                              rw [hme] at hz3
                              obtain ⟨_, hs2, hbd⟩ := hz3
                              rw [hsz] at hs2; cases hs2
                              simp only [firstCells'] at ho
                              obtain ⟨_, olds, holr, holc⟩ := hR.ldCells ho hm
                              have hmul : (sLen + n) * i.size ≤ c2 * i.size := Nat.mul_le_mul_right _ hroom
                              rw [Nat.add_mul] at hmul
                              have hcl' : cs'.length = n * i.size := by rw [← hl.len, hcl0]
                              have one : ∀ v ∈ cs', v.oneCell' = true := fun v' hv' => by
                                obtain ⟨q, hq⟩ := List.getElem?_of_mem hv'
                                obtain ⟨v, hv, hr⟩ := hl.get' hq
                                rw [hr.single]; exact List.all_eq_true.1 hsing v (List.mem_of_getElem? hv)
                              have hst := run_store_row (P := P) (o := o + m.shift + sLen * i.size) (vs := cs') hheap (by rw [hdz]; exact (hth rfl).1) (by rw [hdz, hcl']; omega) one
                              obtain ⟨d', hd', hds, hdc⟩ := setCells_heap m.blk cs' (o + m.shift + sLen * i.size) w d e fz hheap
                              obtain ⟨r1, r2, r3, r4⟩ := setCells_rest m.blk cs' (o + m.shift + sLen * i.size) w
                              have hfree : ρ σ.next = none := hR.dom _ (Nat.le_refl _)
                              have hle := Ren.le_add (m := (⟨m.blk, o + m.shift, e, m.rows, true⟩ : Img)) hfree
                              refine ⟨ρ.add σ.next ⟨m.blk, o + m.shift, e, m.rows, true⟩, .slice (some ⟨m.blk, o + m.shift, none⟩) (sLen + n) c2, _, ?_, ?_,
                                hR.regrow (o' := .cells (old ++ cs).length (Tr.ofList (old ++ cs) 0 .leaf) e true false) (m' := ⟨m.blk, o + m.shift, e, m.rows, true⟩) hg rfl hm rfl r1 (fun k hk => setCells_other _ _ _ _ k hk) ⟨rfl, rfl, d', fz, hd', by rw [hds, hdz], fun _ => ⟨(hth rfl).1, fun q => by cases q⟩, fun q v hv => ?_⟩, .regrow (m' := ⟨m.blk, o + m.shift, e, m.rows, true⟩) hR rfl hg rfl hm rfl r1 (fun k hk => setCells_other _ _ _ _ k hk) r2 r3 r4 (Nat.le_of_eq (setCells_drawn _ _ _ _).symm)⟩
                              · rw [run_append_room ht hxt hu hux hdx hsz hlen hfr hroom]
                                simp only [addr_add, hst, Result.andThen_ok]
                              · have := VR.slice (P := P) (s := i.size) (o := 0) (n := sLen + n) (c := sLen + n) (c' := c2) (Ren.add_same (ρ := ρ) (b := σ.next) (m := ⟨m.blk, o + m.shift, e, m.rows, true⟩)) (Nat.le_refl _) hroom (.inr ⟨rfl, hsz, by show 0 + (o + m.shift) + c2 * i.size ≤ m.rows; omega⟩)
                                rw [Nat.zero_add] at this
                                exact this
                              · rw [Tr.get_of, List.getElem?_append] at hv
                                show ∃ v', d'[q + (o + m.shift)]? = some v' ∧ _
                                rw [hdc]
                                split at hv
                                · rename_i hq
                                  obtain ⟨v', hv', hr⟩ := holr.get hv
                                  refine ⟨v', ?_, hr.mono hle⟩
                                  rw [if_neg (by omega)]
                                  have := holc q v' hv'
                                  rw [cell_of hheap] at this
                                  rw [show q + (o + m.shift) = o + m.shift + q by omega]
                                  exact this
                                · rename_i hq
                                  obtain ⟨v', hv', hr⟩ := hl.get hv
                                  have hlt := (List.getElem?_eq_some_iff.1 hv').1
                                  refine ⟨v', ?_, hr.mono hle⟩
                                  rw [if_pos (by omega), show q + (o + m.shift) - (o + m.shift + sLen * i.size) = q - old.length by omega]
                                  exact hv'
                            · exact fresh _ (hR.drop a.block) (.drop a.block) _ c2 e2 (by omega)
                          · exact fresh _ (hR.drop a.block) (.drop a.block) (some a2) 0 e2 hnle
                          · rw [hsp0] at hsp; cases hsp
                        · cases h
                      · rename_i nn c e ro hg
                        cases h
                        rcases hs.slice_inv with ⟨m, c2, s2, hsp, hm, hn2, hc2, hz2, e2⟩ | ⟨m, a2, hsp, hm, hg2, _⟩ | ⟨k, a2, hsp, _⟩
                        · obtain ⟨m3, hm3, hme, hmg, _⟩ := hR.obj a.block _ hg
                          rw [hm] at hm3; cases hm3
                          have : sCap = c2 := by
                            rcases hz2 with q | ⟨q, _⟩
                            · exact q
                            · rw [hmg] at q; cases q
                          exact fresh σ hR (.refl _ _ _) _ c2 e2 (by omega)
                        · obtain ⟨m3, hm3, hme, hmg, _⟩ := hR.obj a.block _ hg
                          rw [hm] at hm3; cases hm3
                          rw [hmg] at hg2; cases hg2
                        · rw [hsp0] at hsp; cases hsp
                      · cases h
                · cases h
              · cases h
          · cases h
        · cases h
      · cases h
    · cases h
  · cases h
end Go.AE
end
/- Maps. -/
section
set_option linter.all false
namespace Go.AE
variable {D : Prop} {P : Program} {ρ : Ren} {σ : AHeap} {w : World}

theorem run_getObj {r : Nat} {o : Obj} (h : w.heap[r]? = some o) (hc : ∀ c e f, o ≠ .cells c e f) : (getObj r).run P w = .ok o w := by
  cases o <;> first | exact absurd rfl (hc _ _ _) | simp only [getObj, Sem.run, h]
theorem run_setObj {r : Nat} {o o' : Obj} (h : w.heap[r]? = some o) (hc : ∀ c e f, o ≠ .cells c e f) : (setObj r o').run P w = .ok () { w with heap := w.heap.setIfInBounds r o' } := by
  cases o <;> first | exact absurd rfl (hc _ _ _) | simp only [setObj, Sem.run, h]

theorem ba_beq (a c : ByteArray) : (a == c) = (a.data.toList == c.data.toList) := by
  obtain ⟨a⟩ := a
  obtain ⟨c⟩ := c
  show (a == c) = (a.toList == c.toList)
  rw [Bool.eq_iff_iff]
  simp

theorem equal_now {d : TypeDesc} {kt : TypeId} {k e : Value} {b : Bool} (hu : P.underlying kt = some d) (h : Instr.sameNow d k e = some b) (w : World) : (Op.equal kt k e).run P w = .ok b w := by
  obtain ⟨n, hq⟩ := equal_go
  unfold Instr.sameNow at h
  split at h
  · split at h
    · rename_i hk; cases h; subst hk; simp [hq, Op.equalIn, run_under hu]
    · cases h
  · cases h; simp [hq, Op.equalIn, run_under hu]
  · cases h; simp [hq, Op.equalIn, run_under hu]
  · cases h
theorem findNow_asking {d : TypeDesc} {kt : TypeId} {k : Value} (hu : P.underlying kt = some d) : ∀ (es : List MapEntry) (i : Nat) (r : Option (Nat × Value)), Instr.findNow d k es i = some r → (Instr.findAsking kt k es i).run P w = .ok r w
  | [], i, r, h => by simp only [Instr.findNow, Option.some.injEq] at h; subst h; rfl
  | e :: es, i, r, h => by
    rw [Instr.findNow] at h
    rw [Instr.findAsking]
    split at h
    · rename_i hs; cases h; simp [equal_now hu hs w]
    · rename_i hs; simp [equal_now hu hs w, findNow_asking hu es (i + 1) r h]
    · cases h
theorem run_findKey {kt : TypeId} {d : TypeDesc} {k : Value} {es : List MapEntry} {r : Option (Nat × Value)} (hu : P.underlying kt = some d) (h : (Instr.findAsking kt k es 0).run P w = .ok r w) : (Instr.findKey kt k es).run P w = .ok r w := by
  simp only [Instr.findKey, Sem.run_bind, run_under hu, Result.andThen_ok]
  cases hn : Instr.findNow d k es 0 with
  | none => simpa using h
  | some q =>
    have := findNow_asking (w := w) hu es 0 q hn
    rw [h] at this
    cases this
    rfl
theorem keyEq_sound {kt : TypeId} {str : Bool} {k e k' e' : Value} {b : Bool} (h : keyEq P kt str k e = some b) (hs : str = true → P.underlying kt = some .string) (hk : VR P ρ k k') (he : VR P ρ e e') (w : World) : (Op.equal kt k' e').run P w = .ok b w := by
  unfold keyEq at h
  split at h
  · split at h
    · rename_i a c
      cases h
      rw [hk.string_inv, he.string_inv]
      obtain ⟨n, hq⟩ := equal_go
      rw [hq]
      simp only [Op.equalIn, Sem.run_bind, run_under (hs rfl), Result.andThen_ok, Sem.run_pure]
      rw [ba_beq]
    · cases h
  · split at h
    · rename_i hp
      simp only [Bool.and_eq_true] at hp
      rw [hk.eq_of_plain hp.1, he.eq_of_plain hp.2]
      exact pureP_run h w
    · cases h
/-- What a search for a key comes to. -/
def FR' (P : Program) (ρ : Ren) (i0 : Nat) (es es' : List MapEntry) : Option (Nat × MapEntry) → Option (Nat × Value) → Prop
  | none, r => r = none
  | some (i, e), r => ∃ e', es[i - i0]? = some e ∧ es'[i - i0]? = some e' ∧ ER P ρ e e' ∧ i0 ≤ i ∧ r = some (i, e'.val)
theorem findKey_sound {kt : TypeId} {str : Bool} {k k' : Value} (hs : str = true → P.underlying kt = some .string) (hk : VR P ρ k k') (w : World) : ∀ (es es' : List MapEntry) (i : Nat) (r : Option (Nat × MapEntry)), findKey' P kt str k es i = some r → ELR P ρ es es' →
    ∃ r', (Instr.findAsking kt k' es' i).run P w = .ok r' w ∧ FR' P ρ i es es' r r'
  | [], es', i, r, h, hl => by
    have : es' = [] := by have := hl.len; simp at this; exact List.eq_nil_of_length_eq_zero this.symm
    subst this
    simp only [findKey', Option.some.injEq] at h
    subst h
    exact ⟨none, rfl, rfl⟩
  | e :: es, es', i, r, h, hl => by
    cases es' with
    | nil => have := hl.len; simp at this
    | cons e' es' =>
      have h0 := hl.at_ 0 e e' (by simp) (by simp)
      have hl' : ELR P ρ es es' := ⟨by have := hl.len; simpa using this, fun j a b ha hb => hl.at_ (j + 1) a b (by simpa using ha) (by simpa using hb)⟩
      rw [findKey'] at h
      rw [Instr.findAsking]
      split at h
      · rename_i hq
        cases h
        exact ⟨some (i, e'.val), by simp [keyEq_sound hq hs hk h0.key w], e', by simp, by simp, h0, Nat.le_refl _, rfl⟩
      · rename_i hq
        obtain ⟨r', h1, h2⟩ := findKey_sound hs hk w es es' (i + 1) r h hl'
        refine ⟨r', by simp [keyEq_sound hq hs hk h0.key w, h1], ?_⟩
        cases r with
        | none => exact h2
        | some p =>
          obtain ⟨j, f⟩ := p
          obtain ⟨f', a, b, c, d, e⟩ := h2
          refine ⟨f', ?_, ?_, c, by omega, e⟩
          · rw [show j - i = (j - (i + 1)) + 1 by omega]; simpa using a
          · rw [show j - i = (j - (i + 1)) + 1 by omega]; simpa using b
      · cases h
theorem isStr_spec {kt : TypeId} (h : isStr P kt = true) : P.underlying kt = some .string := by
  unfold isStr at h
  split at h
  · assumption
  · cases h
theorem keyOk_spec {kt : TypeId} {k k' : Value} (h : keyOk P kt k = true) (hk : VR P ρ k k') (w : World) : k' = k ∧ plain k = true ∧ ∀ b, (Instr.checkKey b 10000 kt k).run P w = .ok () w := by
  unfold keyOk at h
  simp only [Bool.and_eq_true, Bool.or_eq_true] at h
  obtain ⟨hp, h⟩ := h
  refine ⟨hk.eq_of_plain hp, hp, fun b => ?_⟩
  obtain ⟨n, hn⟩ : ∃ n, 10000 = n + 1 := ⟨9999, rfl⟩
  rcases h with h | ⟨h1, h2⟩
  · rw [hn]
    unfold easyKey at h
    cases hu : P.underlying kt with
    | none => rw [hu] at h; cases h
    | some d => rw [hu] at h; cases d <;> simp at h <;> simp [Instr.checkKey, run_under hu]
  · cases b with
    | false =>
      cases hq : pureP P (Instr.checkKey false 10000 kt k) with
      | none => rw [hq] at h1; cases h1
      | some u => exact pureP_run hq w
    | true =>
      cases hq : pureP P (Instr.checkKey true 10000 kt k) with
      | none => rw [hq] at h2; cases h2
      | some u => exact pureP_run hq w
theorem under_of_keyOk {kt : TypeId} {k : Value} (h : keyOk P kt k = true) : ∃ d, P.underlying kt = some d := by
  cases hu : P.underlying kt with
  | some d => exact ⟨d, rfl⟩
  | none =>
    exfalso
    unfold keyOk easyKey at h
    rw [hu] at h
    simp only [Bool.false_or, Bool.and_eq_true] at h
    obtain ⟨_, h1, _⟩ := h
    cases hq : pureP P (Instr.checkKey false 10000 kt k) with
    | none => rw [hq] at h1; cases h1
    | some u =>
      obtain ⟨n, hn⟩ : ∃ n, 10000 = n + 1 := ⟨9999, rfl⟩
      rw [hn] at hq
      have := pureP_run hq default
      simp [Instr.checkKey, underlying, hu] at this
theorem lookup_out {t : TypeId} {x k x' k' v : Value} {ok : Bool} (h : lookup' P t x k ok σ = some v) (hR : Rel P ρ σ w) (hx : VR P ρ x x') (hk : VR P ρ k k') : OutV D P ρ σ w v σ ((Instr.lookup t x' k' ok).run P w) := by
  unfold lookup' at h
  split at h
  · rename_i kt et hu
    split at h
    · rename_i es hko hes
      obtain ⟨rfl, hp, hck⟩ := keyOk_spec hko hk w
      obtain ⟨d, hd⟩ := under_of_keyOk hko
      have hents : ∃ es' : Array MapEntry, ELR P ρ es es'.toList ∧ ((x' = .map none ∧ es' = #[]) ∨ ∃ r cl, x' = .map (some r) ∧ w.heap[r]? = some (.map es' cl)) := by
        unfold entriesOf at hes
        split at hes
        · cases hes; exact ⟨#[], ⟨rfl, fun i e e' h => by simp at h⟩, .inl ⟨hx.atom_inv rfl, rfl⟩⟩
        · rename_i r
          split at hes
          · rename_i es2 cl ro hg
            cases hes
            obtain ⟨m, hm, rfl⟩ := hx.map_inv
            obtain ⟨m2, hm2, _, es', hh, hl⟩ := hR.obj r _ hg
            rw [hm] at hm2; cases hm2
            exact ⟨es', hl, .inr ⟨m.blk, cl, rfl, hh⟩⟩
          · cases hes
        · cases hes
      obtain ⟨es', hl, hxe⟩ := hents
      cases hf : findKey' P kt (isStr P kt) k' es 0 with
      | none => rw [hf] at h; cases h
      | some r =>
        rw [hf] at h
        obtain ⟨r', h1, h2⟩ := findKey_sound isStr_spec hk w es es'.toList 0 r hf hl
        have h3 := run_findKey hd h1
        have hrun : ∀ (v' : Value) (okk : Bool), (match r' with | some (_, v) => pure (v, true) | none => do pure (← zeroValue et, false) : Sem (Value × Bool)).run P w = .ok (v', okk) w →
            (Instr.lookup t x' k' ok).run P w = .ok (if ok then .tuple #[v', .bool okk] else v') w := by
          intro v' okk hq
          rcases hxe with ⟨rfl, rfl⟩ | ⟨r0, cl, rfl, hh⟩
          · simp only [Instr.lookup, Sem.run_bind, run_under hu, Result.andThen_ok, Sem.run_pure, hck]
            rw [h3]
            simp only [Result.andThen_ok]
            cases r' with
            | none => simp only at hq ⊢; rw [Sem.run_bind] at hq; simp only [Sem.run_bind]; revert hq; cases hz : (zeroValue et).run P w <;> intro hq <;> simp at hq ⊢; obtain ⟨⟨rfl, rfl⟩, rfl⟩ := hq; exact ⟨rfl, rfl⟩
            | some p => simp only [Sem.run_pure, Result.ok.injEq, Prod.mk.injEq] at hq ⊢; obtain ⟨⟨rfl, rfl⟩, _⟩ := hq; simp
          · simp only [Instr.lookup, Sem.run_bind, run_under hu, Result.andThen_ok, Sem.run_pure, run_getObj hh (by intro c e f; simp), hck]
            rw [h3]
            simp only [Result.andThen_ok]
            cases r' with
            | none => simp only at hq ⊢; rw [Sem.run_bind] at hq; simp only [Sem.run_bind]; revert hq; cases hz : (zeroValue et).run P w <;> intro hq <;> simp at hq ⊢; obtain ⟨⟨rfl, rfl⟩, rfl⟩ := hq; exact ⟨rfl, rfl⟩
            | some p => simp only [Sem.run_pure, Result.ok.injEq, Prod.mk.injEq] at hq ⊢; obtain ⟨⟨rfl, rfl⟩, _⟩ := hq; simp
        cases r with
        | none =>
          simp only [FR'] at h2
          subst h2
          simp only at h
          split at h
          · rename_i z hz
            cases h
            have hvz := VR.of_plain (P := P) (ρ := ρ) (zeroOf_info hz).2
            refine .same hR ?_ (hrun z false (by simp [info_zero hz]))
            cases ok with
            | true => exact VR.tuple_iff (.cons hvz (.cons (.atom rfl) .nil))
            | false => exact hvz
          · cases h
        | some p =>
          obtain ⟨i, e⟩ := p
          obtain ⟨e', _, _, he, _, rfl⟩ := h2
          simp only [Option.some.injEq] at h
          subst h
          refine .same hR ?_ (hrun e'.val true rfl)
          cases ok with
          | true => exact VR.tuple_iff (.cons he.val (.cons (.atom rfl) .nil))
          | false => exact he.val
    · cases h
  · cases h
end Go.AE
end
/- Maps written. -/
section
set_option linter.all false
namespace Go.AE
variable {D : Prop} {P : Program} {ρ : Ren} {σ : AHeap} {w : World}

theorem ELR.snoc {x x' : List MapEntry} {e e' : MapEntry} (h : ELR P ρ x x') (he : ER P ρ e e') : ELR P ρ (x ++ [e]) (x' ++ [e']) := by
  refine ⟨by simp [h.len], fun i a b ha hb => ?_⟩
  rw [List.getElem?_append] at ha hb
  rw [← h.len] at hb
  split at ha
  · rename_i hi; rw [if_pos hi] at hb; exact h.at_ i a b ha hb
  · rename_i hi; rw [if_neg hi] at hb
    cases hj : i - x.length with
    | zero => rw [hj] at ha hb; simp at ha hb; subst ha; subst hb; exact he
    | succ j => rw [hj] at ha; simp at ha
theorem ELR.modify {x x' : List MapEntry} {f f' : MapEntry → MapEntry} (h : ELR P ρ x x') (i : Nat) (hf : ∀ e e', x[i]? = some e → x'[i]? = some e' → ER P ρ (f e) (f' e')) : ELR P ρ (x.modify i f) (x'.modify i f') := by
  refine ⟨by simp [h.len], fun j a b ha hb => ?_⟩
  rw [List.getElem?_modify] at ha hb
  cases ha2 : x[j]? with
  | none => rw [ha2] at ha; simp at ha
  | some e =>
    cases hb2 : x'[j]? with
    | none => rw [hb2] at hb; simp at hb
    | some e' =>
      rw [ha2] at ha; rw [hb2] at hb
      simp only [Option.map_eq_map, Option.map_some, Option.some.injEq] at ha hb
      by_cases hij : i = j
      · subst hij; simp at ha hb; subst ha; subst hb; exact hf e e' ha2 hb2
      · simp only [hij, if_false, id_eq] at ha hb; subst ha; subst hb; exact h.at_ j e e' ha2 hb2
theorem ELR.erase {x x' : List MapEntry} (h : ELR P ρ x x') (i : Nat) : ELR P ρ (x.eraseIdx i) (x'.eraseIdx i) := by
  refine ⟨by simp [List.length_eraseIdx, h.len], fun j a b ha hb => ?_⟩
  rw [List.getElem?_eraseIdx] at ha hb
  split at ha
  · rename_i hi; rw [if_pos hi] at hb; exact h.at_ j a b ha hb
  · rename_i hi; rw [if_neg hi] at hb; exact h.at_ (j + 1) a b ha hb

structure FoundW (P : Program) (ρ : Ren) (w : World) (kt : TypeId) (k : Value) (b : Nat) (es : List MapEntry) (es' : Array MapEntry) (clock : Nat) (f : Option (Nat × MapEntry)) (r : Option (Nat × Value)) : Prop where
  heap : w.heap[b]? = some (.map es' clock)
  list : ELR P ρ es es'.toList
  check : (Instr.checkKey false 10000 kt k).run P w = .ok () w
  find : (Instr.findKey kt k es'.toList).run P w = .ok r w
  none_ : f = none → r = none
  some_ : ∀ i e, f = some (i, e) → ∃ e', es[i]? = some e ∧ es'[i]? = some e' ∧ ER P ρ e e' ∧ r = some (i, e'.val) ∧ (Instr.keyThatStays e'.key k).run P w = .ok k w
theorem findW_spec {kt : TypeId} {k k' : Value} {r clock : Nat} {es : List MapEntry} {f : Option (Nat × MapEntry)} {m : Img} (h : findW P kt k r σ = some (es, clock, f)) (hR : Rel P ρ σ w) (hk : VR P ρ k k') (hm : ρ r = some m) :
    σ.get r = some (.map es clock false) ∧ k' = k ∧ m.shift = 0 ∧ ∃ es' r', FoundW P ρ w kt k m.blk es es' clock f r' := by
  unfold findW at h
  split at h
  · rename_i es2 cl2 hko hg
    obtain ⟨rfl, hp, hck⟩ := keyOk_spec hko hk w
    obtain ⟨d, hd⟩ := under_of_keyOk hko
    obtain ⟨m2, hm2, hsh, es', hh, hl⟩ := hR.obj r _ hg
    rw [hm] at hm2; cases hm2
    split at h
    · rename_i i e hf
      split at h
      · rename_i hsb
        cases h
        simp only [Bool.and_eq_true] at hsb
        obtain ⟨r', h1, h2⟩ := findKey_sound isStr_spec hk w es es'.toList 0 _ hf hl
        obtain ⟨e', a1, a2, a3, _, rfl⟩ := h2
        refine ⟨hg, rfl, hsh, es', _, hh, hl, hck false, run_findKey hd h1, (fun q => by cases q), fun i2 e2 q => ?_⟩
        cases q
        refine ⟨e', by simpa using a1, by simpa using a2, a3, rfl, ?_⟩
        rw [a3.key.eq_of_plain hsb.1]
        simp only [Instr.keyThatStays, hsb.2, if_true, Sem.run_pure]
      · cases h
    · rename_i hf
      cases h
      obtain ⟨r', h1, h2⟩ := findKey_sound isStr_spec hk w es es'.toList 0 _ hf hl
      exact ⟨hg, rfl, hsh, es', r', hh, hl, hck false, run_findKey hd h1, fun _ => h2, (fun i e q => by cases q)⟩
    · cases h
  · cases h
/-- A map's block written. -/
theorem Rel.setMap (hR : Rel P ρ σ w) {r : Nat} {es es2 : List MapEntry} {es' es2' : Array MapEntry} {cl cl2 : Nat} {m : Img} (hg : σ.get r = some (.map es cl false)) (hm : ρ r = some m) (hs : m.shift = 0) (hh : w.heap[m.blk]? = some (.map es' cl)) (hl : ELR P ρ es2 es2'.toList) :
    Rel P ρ (σ.set r (.map es2 cl2 false)) { w with heap := w.heap.setIfInBounds m.blk (.map es2' cl2) } ∧ Ext D ρ σ w ρ (σ.set r (.map es2 cl2 false)) { w with heap := w.heap.setIfInBounds m.blk (.map es2' cl2) } := by
  have hlt : m.blk < w.heap.size := hR.lt r m hm
  have h1 : ({ w with heap := w.heap.setIfInBounds m.blk (.map es2' cl2) } : World).heap.size = w.heap.size := by simp
  have h2 : ∀ k, k ≠ m.blk → ({ w with heap := w.heap.setIfInBounds m.blk (.map es2' cl2) } : World).heap[k]? = w.heap[k]? := fun k hk => by
    show (w.heap.setIfInBounds m.blk _)[k]? = _
    rw [Array.getElem?_setIfInBounds_ne (Ne.symm hk)]
  have h3 : ({ w with heap := w.heap.setIfInBounds m.blk (.map es2' cl2) } : World).heap[m.blk]? = some (.map es2' cl2) := by
    show (w.heap.setIfInBounds m.blk _)[m.blk]? = _
    rw [Array.getElem?_setIfInBounds_self_of_lt hlt]
  exact ⟨hR.upd hg rfl hm h1 h2 ⟨hs, es2', h3, hl⟩ rfl, .upd hg rfl hm h1 h2 rfl rfl rfl rfl (Nat.le_refl _)⟩
theorem mapPut_out {t : TypeId} {x k v x' k' v' : Value} {σ' : AHeap} (h : mapPut P t x k v σ = some σ') (hR : Rel P ρ σ w) (hx : VR P ρ x x') (hk : VR P ρ k k') (hv : VR P ρ v v') : OutU D P ρ σ w σ' ((Instr.mapUpdate t x' k' v').run P w) := by
  unfold mapPut at h
  split at h
  · rename_i kt et r hu
    obtain ⟨m, hm, rfl⟩ := hx.map_inv
    split at h
    · rename_i es clock i e hf
      cases h
      obtain ⟨hg, rfl, hs, es', r', F⟩ := findW_spec hf hR hk hm
      obtain ⟨e', a1, a2, a3, rfl, hst⟩ := F.some_ i e rfl
      obtain ⟨g1, g2⟩ := hR.setMap (es2 := es.modify i fun e => { e with key := k', val := v }) (es2' := es'.modify i fun e => { e with key := k', val := v' }) (cl2 := clock) hg hm hs F.heap
        (by rw [Array.toList_modify]; exact F.list.modify i fun q q' h1 h2 => ⟨hk, hv, (F.list.at_ i q q' h1 h2).born⟩)
      refine ⟨ρ, _, ?_, g1, g2⟩
      simp only [Instr.mapUpdate, Sem.run_bind, run_under hu, Result.andThen_ok, run_getObj F.heap (by intro c e f; simp), F.check, F.find]
      rw [a2]
      simp only [Option.map_some, Option.getD_some, hst, Result.andThen_ok]
      exact run_setObj F.heap (by intro c e f; simp)
    · rename_i es clock hf
      cases h
      obtain ⟨hg, rfl, hs, es', r', F⟩ := findW_spec hf hR hk hm
      have := F.none_ rfl
      subst this
      obtain ⟨g1, g2⟩ := hR.setMap (es2 := es ++ [{ key := k', val := v, born := clock }]) (es2' := es'.push { key := k', val := v', born := clock }) (cl2 := clock + 1) hg hm hs F.heap
        (by rw [Array.toList_push]; exact F.list.snoc ⟨hk, hv, rfl⟩)
      refine ⟨ρ, _, ?_, g1, g2⟩
      simp only [Instr.mapUpdate, Sem.run_bind, run_under hu, Result.andThen_ok, run_getObj F.heap (by intro c e f; simp), F.check, F.find]
      exact run_setObj F.heap (by intro c e f; simp)
    · cases h
  · cases h
theorem mapEntry_out {t : TypeId} {x k x' k' v : Value} {σ' : AHeap} (h : mapEntry' P t x k σ = some (v, σ')) (hR : Rel P ρ σ w) (hx : VR P ρ x x') (hk : VR P ρ k k') : OutV D P ρ σ w v σ' ((Instr.mapEntry t x' k').run P w) := by
  unfold mapEntry' at h
  split at h
  · rename_i kt et r hu
    obtain ⟨m, hm, rfl⟩ := hx.map_inv
    split at h
    · rename_i es clock i e hf
      cases h
      obtain ⟨hg, rfl, hs, es', r', F⟩ := findW_spec hf hR hk hm
      obtain ⟨e', a1, a2, a3, rfl, hst⟩ := F.some_ i e rfl
      obtain ⟨g1, g2⟩ := hR.setMap (es2 := es.modify i fun e => { e with key := k' }) (es2' := es'.modify i fun e => { e with key := k' }) (cl2 := clock) hg hm hs F.heap
        (by rw [Array.toList_modify]; exact F.list.modify i fun q q' h1 h2 => ⟨hk, (F.list.at_ i q q' h1 h2).val, (F.list.at_ i q q' h1 h2).born⟩)
      refine ⟨ρ, .tuple #[e'.val, goInt e'.born], _, ?_, ?_, g1, g2⟩
      · simp only [Instr.mapEntry, Sem.run_bind, run_under hu, Result.andThen_ok, run_getObj F.heap (by intro c e f; simp), F.check, F.find]
        rw [a2]
        simp only [Option.map_some, Option.getD_some, hst, Result.andThen_ok, run_setObj F.heap (by intro c e f; simp), Sem.run_pure]
      · rw [← a3.born]; exact VR.tuple_iff (.cons a3.val (.cons (.atom rfl) .nil))
    · rename_i es clock hf
      split at h
      · rename_i z hz
        cases h
        obtain ⟨hg, rfl, hs, es', r', F⟩ := findW_spec hf hR hk hm
        have := F.none_ rfl
        subst this
        have hvz := VR.of_plain (P := P) (ρ := ρ) (zeroOf_info hz).2
        obtain ⟨g1, g2⟩ := hR.setMap (es2 := es ++ [{ key := k', val := z, born := clock }]) (es2' := es'.push { key := k', val := z, born := clock }) (cl2 := clock + 1) hg hm hs F.heap
          (by rw [Array.toList_push]; exact F.list.snoc ⟨hk, hvz, rfl⟩)
        refine ⟨ρ, .tuple #[z, goInt clock], _, ?_, VR.tuple_iff (.cons hvz (.cons (.atom rfl) .nil)), g1, g2⟩
        simp only [Instr.mapEntry, Sem.run_bind, run_under hu, Result.andThen_ok, run_getObj F.heap (by intro c e f; simp), F.check, F.find, info_zero hz, run_setObj F.heap (by intro c e f; simp), Sem.run_pure]
      · cases h
    · cases h
  · cases h
theorem bornIdx_spec : ∀ (es es' : List MapEntry) (b i k : Nat), bornIdx es b k = some i → (∀ (j : Nat) (e e' : MapEntry), es[j]? = some e → es'[j]? = some e' → e'.born = e.born) → es.length = es'.length →
    k ≤ i ∧ es'.findIdx? (fun e => (e.born : Int) == (b : Int)) = some (i - k)
  | [], _, _, _, _, h, _, _ => by simp [bornIdx] at h
  | e :: es, es', b, i, k, h, hb, hl => by
    cases es' with
    | nil => simp at hl
    | cons e' es' =>
      have h0 := hb 0 e e' (by simp) (by simp)
      rw [bornIdx] at h
      rw [List.findIdx?_cons]
      split at h
      · rename_i hq
        cases h
        have := Nat.eq_of_beq_eq_true hq
        rw [if_pos (by rw [h0, this]; simp)]
        exact ⟨Nat.le_refl _, by simp⟩
      · rename_i hq
        obtain ⟨h1, h2⟩ := bornIdx_spec es es' b i (k + 1) h (fun j a c ha hc => hb (j + 1) a c (by simpa using ha) (by simpa using hc)) (by simpa using hl)
        have hne : ¬ e.born = b := fun e => by rw [e, Nat.beq_refl] at hq; cases hq
        rw [if_neg (by rw [h0]; simp; omega), h2]
        refine ⟨by omega, ?_⟩
        simp
        omega
theorem entryStore_out {t : TypeId} {x s v x' s' v' : Value} {σ' : AHeap} (h : entryStore' x s v σ = some σ') (hR : Rel P ρ σ w) (hx : VR P ρ x x') (hs : VR P ρ s s') (hv : VR P ρ v v') : OutU D P ρ σ w σ' ((Instr.entryStore t x' s' v').run P w) := by
  unfold entryStore' at h
  split at h
  · rename_i r born hn
    obtain ⟨m, hm, rfl⟩ := hx.map_inv
    obtain ⟨rfl, k, hk⟩ := nat_inv hn hs
    split at h
    · rename_i es clock hg
      split at h
      · rename_i i hi
        cases h
        obtain ⟨m2, hm2, hsh, es', hh, hl⟩ := hR.obj r _ hg
        rw [hm] at hm2; cases hm2
        obtain ⟨_, hfi⟩ := bornIdx_spec es es'.toList born i 0 hi (fun j e e' h1 h2 => (hl.at_ j e e' h1 h2).born) hl.len
        obtain ⟨g1, g2⟩ := hR.setMap (es2 := es.modify i fun e => { e with val := v }) (es2' := es'.modify i fun e => { e with val := v' }) (cl2 := clock) hg hm hsh hh
          (by rw [Array.toList_modify]; exact hl.modify i fun q q' h1 h2 => ⟨(hl.at_ i q q' h1 h2).key, hv, (hl.at_ i q q' h1 h2).born⟩)
        refine ⟨ρ, _, ?_, g1, g2⟩
        subst hk
        have : es'.findIdx? (fun e => (e.born : Int) == (born : Int)) = some i := by
          have e0 : es'.findIdx? (fun e => (e.born : Int) == (born : Int)) = es'.toList.findIdx? (fun e => (e.born : Int) == (born : Int)) := by rcases es' with ⟨l⟩; simp
          rw [e0, hfi]; simp
        simp only [Instr.entryStore, Sem.run_bind, run_getObj hh (by intro c e f; simp), Result.andThen_ok, asInt, run_asIntOf, Sem.run_pure, this]
        exact run_setObj hh (by intro c e f; simp)
      · cases h
    · cases h
  · cases h
theorem mapDel_out {ts : Array TypeId} {t ty : TypeId} {x k x' k' : Value} {σ' : AHeap} (ht : ts[0]? = some t) (h : mapDel P t x k σ = some σ') (hR : Rel P ρ σ w) (hx : VR P ρ x x') (hk : VR P ρ k k') : OutV D P ρ σ w (.tuple #[]) σ' ((Builtin.delete_ ts ty #[x', k']).run P w) := by
  unfold mapDel at h
  split at h
  · rename_i kt et hu
    split at h
    · rw [hx.atom_inv rfl]
      split at h
      · rename_i hko
        cases h
        obtain ⟨rfl, hp, hck⟩ := keyOk_spec hko hk w
        refine .same hR .undef ?_
        simp only [Builtin.delete_, ht, List.getElem?_toArray, List.getElem?_cons_zero, List.getElem?_cons_succ, Sem.run_bind, run_under hu, Result.andThen_ok, hck, Sem.run_pure]
        rfl
      · cases h
    · rename_i r
      obtain ⟨m, hm, rfl⟩ := hx.map_inv
      split at h
      · rename_i es clock hko hg
        obtain ⟨rfl, hp, hck⟩ := keyOk_spec hko hk w
        obtain ⟨d, hd⟩ := under_of_keyOk hko
        obtain ⟨m2, hm2, hsh, es', hh, hl⟩ := hR.obj r _ hg
        rw [hm] at hm2; cases hm2
        split at h
        · rename_i i e hf
          cases h
          obtain ⟨r', h1, h2⟩ := findKey_sound isStr_spec hk w es es'.toList 0 _ hf hl
          obtain ⟨e', a1, a2, a3, _, rfl⟩ := h2
          obtain ⟨g1, g2⟩ := hR.setMap (es2 := es.eraseIdx i) (es2' := es'.eraseIdxIfInBounds i) (cl2 := clock) hg hm hsh hh (by rw [Array.toList_eraseIdxIfInBounds]; exact hl.erase i)
          refine ⟨ρ, _, _, ?_, .undef, g1, g2⟩
          simp only [Builtin.delete_, ht, List.getElem?_toArray, List.getElem?_cons_zero, List.getElem?_cons_succ, Sem.run_bind, run_under hu, Result.andThen_ok, run_getObj hh (by intro c e f; simp), hck, run_findKey hd h1, run_setObj hh (by intro c e f; simp), Sem.run_pure]
          rfl
        · rename_i hf
          cases h
          obtain ⟨r', h1, h2⟩ := findKey_sound isStr_spec hk w es es'.toList 0 _ hf hl
          simp only [FR'] at h2
          subst h2
          obtain ⟨g1, g2⟩ := hR.setMap (es2 := es) (es2' := es') (cl2 := clock) hg hm hsh hh hl
          refine ⟨ρ, _, _, ?_, .undef, g1, g2⟩
          simp only [Builtin.delete_, ht, List.getElem?_toArray, List.getElem?_cons_zero, List.getElem?_cons_succ, Sem.run_bind, run_under hu, Result.andThen_ok, run_getObj hh (by intro c e f; simp), hck, run_findKey hd h1, run_setObj hh (by intro c e f; simp), Sem.run_pure]
          rfl
        · cases h
      · cases h
    · cases h
  · cases h
end Go.AE
end
/- Ranging. -/
section
set_option linter.all false
namespace Go.AE
variable {D : Prop} {P : Program} {ρ : Ren} {σ : AHeap} {w : World}

theorem ELR.nil : ELR P ρ [] [] := ⟨rfl, fun i e e' h => by simp at h⟩
theorem ELR.cons {e e' : MapEntry} {x x' : List MapEntry} (h : ER P ρ e e') (k : ELR P ρ x x') : ELR P ρ (e :: x) (e' :: x') := by
  refine ⟨by simp [k.len], fun i a b ha hb => ?_⟩
  cases i with
  | zero => simp at ha hb; subst ha; subst hb; exact h
  | succ i => simp at ha hb; exact k.at_ i a b ha hb
theorem ELR.cons_inv {e : MapEntry} {x y : List MapEntry} (h : ELR P ρ (e :: x) y) : ∃ e' x', y = e' :: x' ∧ ER P ρ e e' ∧ ELR P ρ x x' := by
  cases y with
  | nil => have := h.len; simp at this
  | cons e' x' => exact ⟨e', x', rfl, h.at_ 0 e e' (by simp) (by simp), by have := h.len; simpa using this, fun i a b ha hb => h.at_ (i + 1) a b (by simpa using ha) (by simpa using hb)⟩
theorem ELR.nil_inv {y : List MapEntry} (h : ELR P ρ [] y) : y = [] := by have := h.len; simp at this; exact List.eq_nil_of_length_eq_zero this.symm
theorem ELR.filter {q : MapEntry → Bool} (hq : ∀ e e' : MapEntry, e'.born = e.born → q e' = q e) : ∀ {x x' : List MapEntry}, ELR P ρ x x' → ELR P ρ (x.filter q) (x'.filter q)
  | [], x', h => by rw [h.nil_inv]; exact .nil
  | e :: x, x', h => by
    obtain ⟨e', r, rfl, he, hr⟩ := h.cons_inv
    rw [List.filter_cons, List.filter_cons, hq e e' he.born]
    split
    · exact .cons he (ELR.filter hq hr)
    · exact ELR.filter hq hr
theorem ELR.all {q : MapEntry → Bool} (hq : ∀ e e' : MapEntry, e'.born = e.born → q e' = q e) : ∀ {x x' : List MapEntry}, ELR P ρ x x' → x'.all q = x.all q
  | [], x', h => by rw [h.nil_inv]
  | e :: x, x', h => by
    obtain ⟨e', r, rfl, he, hr⟩ := h.cons_inv
    rw [List.all_cons, List.all_cons, hq e e' he.born, ELR.all hq hr]
theorem ELR.find {q : MapEntry → Bool} (hq : ∀ e e' : MapEntry, e'.born = e.born → q e' = q e) : ∀ {x x' : List MapEntry} {e : MapEntry}, ELR P ρ x x' → x.find? q = some e → ∃ e', x'.find? q = some e' ∧ ER P ρ e e'
  | [], x', _, h, hf => by simp at hf
  | a :: x, x', e, h, hf => by
    obtain ⟨a', r, rfl, ha, hr⟩ := h.cons_inv
    rw [List.find?_cons] at hf ⊢
    rw [hq a a' ha.born]
    split at hf
    · cases hf; exact ⟨a', rfl, ha⟩
    · exact ELR.find hq hr hf

theorem range_out {t : TypeId} {x x' v : Value} {σ' : AHeap} (h : range' P t x σ = some (v, σ')) (hR : Rel P ρ σ w) (hx : VR P ρ x x') : OutV D P ρ σ w v σ' ((Instr.range t x').run P w) := by
  have mk : ∀ {o : AObj} {c : Obj}, o.ro = false → ObjR P (ρ.add σ.next ⟨w.heap.size, 0, 0, 0, false⟩) (w.alloc c) ⟨w.heap.size, 0, 0, 0, false⟩ o → (Instr.range t x').run P w = .ok (.pointer (some ⟨w.heap.size, 0, none⟩)) (w.alloc c) → (ptr (σ.new o).1 0, (σ.new o).2) = (v, σ') →
      OutV D P ρ σ w v σ' ((Instr.range t x').run P w) := fun {o c} hro ho hr he => by
    cases he
    exact ⟨_, _, _, hr, .ptr' (m := ⟨w.heap.size, 0, 0, 0, false⟩) Ren.add_same rfl, hR.new rfl ho, .new hR hro rfl⟩
  have hfree : ρ σ.next = none := hR.dom _ (Nat.le_refl _)
  unfold range' at h
  split at h
  · rename_i s hu
    have hx' := hx.string_inv
    subst hx'
    exact mk rfl (o := .strIter s 0) (c := .stringIter s 0) ⟨rfl, heap_new _ _⟩ (by simp [Instr.range, run_under hu]) (Option.some.inj h)
  · rename_i hu
    have hx' := hx.atom_inv rfl
    subst hx'
    exact mk rfl (o := .mapIter none 0 [] 0) (c := .mapIter none 0 #[] 0) ⟨rfl, none, heap_new _ _, .atom rfl⟩ (by simp [Instr.range, run_under hu]) (Option.some.inj h)
  · rename_i m0 hu
    obtain ⟨m, hm, rfl⟩ := hx.map_inv
    split at h
    · rename_i es cl ro hg
      obtain ⟨m2, hm2, _, es', hh, _⟩ := hR.obj m0 _ hg
      rw [hm] at hm2; cases hm2
      exact mk rfl (o := .mapIter (some m0) cl [] cl) (c := .mapIter (some m.blk) cl #[] cl) ⟨rfl, some m.blk, heap_new _ _, .map (Ren.le_add hfree _ _ hm)⟩
        (by simp [Instr.range, run_under hu, run_getObj hh (by intro c e f; simp)]) (Option.some.inj h)
    · cases h
  · cases h

/-- An iterator's block written. -/
theorem Rel.setIt (hR : Rel P ρ σ w) {r : Nat} {o o2 : AObj} {c2 : Obj} {m : Img} (hg : σ.get r = some o) (ho : o.ro = false) (ho2 : o2.ro = false) (hm : ρ r = some m) (hob : ∀ w' : World, w'.heap[m.blk]? = some c2 → ObjR P ρ w' m o2) :
    Rel P ρ (σ.set r o2) { w with heap := w.heap.setIfInBounds m.blk c2 } ∧ Ext D ρ σ w ρ (σ.set r o2) { w with heap := w.heap.setIfInBounds m.blk c2 } := by
  have hlt : m.blk < w.heap.size := hR.lt r m hm
  have h1 : ({ w with heap := w.heap.setIfInBounds m.blk c2 } : World).heap.size = w.heap.size := by simp
  have h2 : ∀ k, k ≠ m.blk → ({ w with heap := w.heap.setIfInBounds m.blk c2 } : World).heap[k]? = w.heap[k]? := fun k hk => by
    show (w.heap.setIfInBounds m.blk _)[k]? = _
    rw [Array.getElem?_setIfInBounds_ne (Ne.symm hk)]
  have h3 : ({ w with heap := w.heap.setIfInBounds m.blk c2 } : World).heap[m.blk]? = some c2 := by
    show (w.heap.setIfInBounds m.blk _)[m.blk]? = _
    rw [Array.getElem?_setIfInBounds_self_of_lt hlt]
  exact ⟨hR.upd hg ho hm h1 h2 (hob _ h3) ho2, .upd hg ho hm h1 h2 rfl rfl rfl ho2 (Nat.le_refl _)⟩
theorem over_out (hR : Rel P ρ σ w) {s : Sem Value} (hs : s.run P w = .ok (.tuple #[.bool false]) w) : OutV D P ρ σ w (.tuple #[.bool false]) σ (s.run P w) :=
  .same hR (VR.tuple_iff (.cons (.atom rfl) .nil)) hs
theorem next_out {it it' v : Value} {isS : Bool} {ty : TypeId} {σ' : AHeap} (h : next' it isS σ = some (v, σ')) (hR : Rel P ρ σ w) (hi : VR P ρ it it') : OutV D P ρ σ w v σ' ((Instr.next it' isS ty).run P w) := by
  unfold next' at h
  split at h
  · rename_i r
    obtain ⟨m, hm, _, rfl⟩ := hi.ptr_inv
    simp only at hm
    split at h
    · rename_i s pos hg
      obtain ⟨m2, hm2, hsh, hh⟩ := hR.obj r _ hg
      rw [hm] at hm2; cases hm2
      rw [hsh]
      split at h
      · rename_i hlt
        have hlt : pos < s.size := Nat.le_of_ble_eq_true hlt
        cases h
        obtain ⟨g1, g2⟩ := hR.setIt (o2 := .strIter s (pos + (Utf8.decode s pos).2)) (c2 := .stringIter s (pos + (Utf8.decode s pos).2)) hg rfl rfl hm (fun w' hw => ⟨hsh, hw⟩)
        refine ⟨ρ, _, _, ?_, VR.tuple_iff (.cons (.atom rfl) (.cons (.atom rfl) (.cons (.atom rfl) .nil))), g1, g2⟩
        simp only [Instr.next, Sem.run_bind, run_getObj hh (by intro c e f; simp), Result.andThen_ok]
        rw [if_pos hlt]
        simp only [Sem.run_bind, run_setObj hh (by intro c e f; simp), Result.andThen_ok, Sem.run_pure]
      · rename_i hlt
        have hlt : ¬ pos < s.size := fun q => by rw [show pos.blt s.size = true from Nat.ble_eq_true_of_le q] at hlt; cases hlt
        cases h
        refine over_out hR ?_
        simp only [Instr.next, Sem.run_bind, run_getObj hh (by intro c e f; simp), Result.andThen_ok]
        rw [if_neg hlt]
        rfl
    · rename_i a b c hg
      obtain ⟨m2, hm2, hsh, r', hh, hv⟩ := hR.obj r _ hg
      rw [hm] at hm2; cases hm2
      have := hv.atom_inv rfl
      cases this
      cases h
      rw [hsh]
      refine over_out hR ?_
      simp only [Instr.next, Sem.run_bind, run_getObj hh (by intro c e f; simp), Result.andThen_ok]
      rfl
    · rename_i mm since seen last hg
      obtain ⟨m2, hm2, hsh, r', hh, hv⟩ := hR.obj r _ hg
      rw [hm] at hm2; cases hm2
      rw [hsh]
      split at h
      · rename_i es clock ro hgm
        obtain ⟨mi, hmi, hr'⟩ := hv.map_inv
        cases hr'
        obtain ⟨m3, hm3, _, es', hhm, hl⟩ := hR.obj mm _ hgm
        rw [hmi] at hm3; cases hm3
        unfold nextMap at h
        split at h
        · cases h
        · rename_i hall
          have hall' : (!seen.toArray.isEmpty && !es'.isEmpty && es'.all fun e => decide (e.born ≥ last)) = false := by
            rw [← hall]
            have e1 : es'.all (fun e => decide (e.born ≥ last)) = es.all fun e => decide (e.born ≥ last) := by
              rw [← Array.all_toList]; exact hl.all (fun e e' hb => by simp [hb])
            have e2 : es'.isEmpty = es.isEmpty := by
              have := hl.len
              rcases es' with ⟨l⟩
              cases es <;> cases l <;> simp_all
            rw [e1, e2]
            simp
          have hold := (hl.filter (q := fun e => !seen.contains e.born) (fun e e' hb => by simp [hb])).filter (q := fun e => decide (e.born < since)) (fun e e' hb => by simp [hb])
          have hnew := (hl.filter (q := fun e => !seen.contains e.born) (fun e e' hb => by simp [hb])).filter (q := fun e => decide (e.born ≥ since)) (fun e e' hb => by simp [hb])
          have hleft : (es'.filter fun e => !seen.toArray.contains e.born).toList = es'.toList.filter fun e => !seen.contains e.born := by
            rw [Array.toList_filter]
            congr 1
            funext e
            simp
          have ho : ((es'.filter fun e => !seen.toArray.contains e.born).filter fun e => decide (e.born < since)).toList = (es'.toList.filter fun e => !seen.contains e.born).filter fun e => decide (e.born < since) := by rw [Array.toList_filter, hleft]
          have hn : ((es'.filter fun e => !seen.toArray.contains e.born).filter fun e => decide (e.born ≥ since)).toList = (es'.toList.filter fun e => !seen.contains e.born).filter fun e => decide (e.born ≥ since) := by rw [Array.toList_filter, hleft]
          split at h
          · rename_i q1 q2
            cases h
            rw [q1] at hold; rw [q2] at hnew
            have z1 := hold.nil_inv
            have z2 := hnew.nil_inv
            rw [z1] at ho; rw [z2] at hn
            have y1 := Array.toList_eq_nil_iff.1 ho
            have y2 := Array.toList_eq_nil_iff.1 hn
            refine over_out hR ?_
            simp only [Instr.next, Sem.run_bind, run_getObj hh (by intro c e f; simp), Result.andThen_ok, run_getObj hhm (by intro c e f; simp)]
            rw [hall']
            simp only [Bool.false_eq_true, if_false, y1, y2]
            simp [Question.forced]
          · rename_i e q1 q2
            cases h
            rw [q1] at hold; rw [q2] at hnew
            obtain ⟨e', r2, z1, he, hr2⟩ := hold.cons_inv
            have := hr2.nil_inv
            subst this
            have z2 := hnew.nil_inv
            rw [z1] at ho; rw [z2] at hn
            have y1 : ((es'.filter fun e => !seen.toArray.contains e.born).filter fun e => decide (e.born < since)) = #[e'] := by apply Array.ext'; rw [ho]
            have y2 := Array.toList_eq_nil_iff.1 hn
            obtain ⟨g1, g2⟩ := hR.setIt (o2 := .mapIter (some mm) since (seen ++ [e.born]) clock) (c2 := .mapIter (some mi.blk) since (seen.toArray.push e'.born) clock) hg rfl rfl hm (fun w' hw => ⟨hsh, some mi.blk, by rw [hw, he.born]; congr 2; simp, .map hmi⟩)
            refine ⟨ρ, .tuple #[.bool true, e'.key, e'.val], _, ?_, VR.tuple_iff (.cons (.atom rfl) (.cons he.key (.cons he.val .nil))), g1, g2⟩
            simp only [Instr.next, Sem.run_bind, run_getObj hh (by intro c e f; simp), Result.andThen_ok, run_getObj hhm (by intro c e f; simp)]
            rw [hall']
            simp only [Bool.false_eq_true, if_false, y1, y2]
            simp [Question.forced, run_setObj hh (by intro c e f; simp)]
          · cases h
      · cases h
    · cases h
  · cases h
theorem entry_out {it it' v : Value} (h : entry' it σ = some v) (hR : Rel P ρ σ w) (hi : VR P ρ it it') : OutV D P ρ σ w v σ ((Instr.entry it').run P w) := by
  unfold entry' at h
  split at h
  · rename_i r
    obtain ⟨m, hm, _, rfl⟩ := hi.ptr_inv
    simp only at hm
    split at h
    · rename_i mm since seen stepped hg
      obtain ⟨m2, hm2, hsh, r', hh, hv⟩ := hR.obj r _ hg
      rw [hm] at hm2; cases hm2
      rw [hsh]
      split at h
      · rename_i stamp es clock ro hsee hgm
        obtain ⟨mi, hmi, hr'⟩ := hv.map_inv
        cases hr'
        obtain ⟨m3, hm3, _, es', hhm, hl⟩ := hR.obj mm _ hgm
        rw [hmi] at hm3; cases hm3
        split at h
        · rename_i hck
          have hck := Nat.eq_of_beq_eq_true hck
          subst hck
          split at h
          · rename_i e hf
            cases h
            obtain ⟨e', hf', he⟩ := hl.find (fun a a' hb => by simp [hb]) hf
            refine .same hR (v' := .tuple #[e'.key, e'.val]) (VR.tuple_iff (.cons he.key (.cons he.val .nil))) ?_
            have hfa : es'.find? (fun e => e.born == stamp) = some e' := by rw [← hf', Array.find?_toList]
            have hb : seen.toArray.back? = some stamp := by simpa using hsee
            simp only [Instr.entry, Sem.run_bind, run_getObj hh (by intro c e f; simp), Result.andThen_ok, hb, run_getObj hhm (by intro c e f; simp)]
            simp [hfa]
          · cases h
        · cases h
      · cases h
    · cases h
  · cases h
end Go.AE
end
/- Lengths, methods, calls. -/
section
set_option linter.all false
namespace Go.AE
variable {D : Prop} {P : Program} {ρ : Ren} {σ : AHeap} {w : World}

/-! Built-ins. -/
theorem len_out {ts : Array TypeId} {ty : TypeId} {x x' v : Value} {σ' : AHeap} {args : List Value} (ha : args = [x]) (h : builtin' P .len ts args σ = some (v, σ')) (hR : Rel P ρ σ w) (hx : VR P ρ x x') : OutV D P ρ σ w v σ' ((Builtin.len_ ts ty #[x']).run P w) := by
  subst ha
  unfold builtin' at h
  simp only at h
  cases ht : ts[0]? with
  | none => rw [ht] at h; simp at h
  | some t =>
    rw [ht] at h
    simp only [Option.bind_some] at h
    have go : ∀ {d : TypeDesc} {s : TypeDesc → Value → Sem Value}, P.underlying t = some d → True := fun _ => trivial
    split at h
    · rename_i s hu
      cases h; rw [hx.string_inv]
      exact .same hR (.atom rfl) (by simp [Builtin.len_, ht, run_under hu])
    · rename_i n _ hu
      cases h
      exact .same hR (.atom rfl) (by simp [Builtin.len_, ht, run_under hu])
    · rename_i arr hu
      split at h
      · rename_i n e hu2
        cases h
        exact .same hR (.atom rfl) (by simp [Builtin.len_, ht, run_under hu, run_under hu2])
      · cases h
    · rename_i e a n c hu
      cases h
      refine .same hR (v' := goInt n) (.atom rfl) ?_
      cases a with
      | none => rw [hx.atom_inv rfl]; simp [Builtin.len_, ht, run_under hu]
      | some a => rcases hx.slice_inv with ⟨m, c', s, _, _, _, _, _, rfl⟩ | ⟨m, a', _, _, _, rfl, rfl, rfl⟩ | ⟨k, a', _, rfl, rfl, rfl⟩ <;> simp [Builtin.len_, ht, run_under hu]
    · rename_i k e hu
      cases h; rw [hx.atom_inv rfl]
      exact .same hR (.atom rfl) (by simp [Builtin.len_, ht, run_under hu])
    · rename_i k e r hu
      obtain ⟨m, hm, rfl⟩ := hx.map_inv
      split at h
      · rename_i es cl ro hg
        cases h
        obtain ⟨m2, hm2, _, es', hh, hl⟩ := hR.obj r _ hg
        rw [hm] at hm2; cases hm2
        have hlen : es.length = es'.size := by have := hl.len; simpa using this
        exact .same hR (v' := goInt es.length) (.atom rfl) (by simp [Builtin.len_, ht, run_under hu, run_getObj hh (by intro c e f; simp), hlen])
      · cases h
    · cases h
theorem cap_out {ts : Array TypeId} {ty : TypeId} {x x' v : Value} {σ' : AHeap} {args : List Value} (ha : args = [x]) (h : builtin' P .cap ts args σ = some (v, σ')) (hR : Rel P ρ σ w) (hx : VR P ρ x x') : OutV D P ρ σ w v σ' ((Builtin.cap_ ts ty #[x']).run P w) := by
  subst ha
  unfold builtin' at h
  simp only at h
  cases ht : ts[0]? with
  | none => rw [ht] at h; simp at h
  | some t =>
    rw [ht] at h
    simp only [Option.bind_some] at h
    split at h
    · rename_i n _ hu
      cases h
      exact .same hR (.atom rfl) (by simp [Builtin.cap_, ht, run_under hu])
    · rename_i e q n hu
      cases h; rw [hx.atom_inv rfl]
      exact .same hR (.atom rfl) (by simp [Builtin.cap_, ht, run_under hu])
    · rename_i e a q n hu
      split at h
      · rename_i k hk
        cases h
        rcases hx.slice_inv with ⟨m, c', s, hsp, _⟩ | ⟨m, a', hsp, _⟩ | ⟨k, a', _, rfl, rfl, rfl⟩
        · rw [hk] at hsp; cases hsp
        · rw [hk] at hsp; cases hsp
        · exact .same hR (.atom rfl) (by simp [Builtin.cap_, ht, run_under hu])
      · rename_i nn c e2 ro hsp0 hg
        cases h
        rcases hx.slice_inv with ⟨m, c', s, hsp, hm, _, _, hz, rfl⟩ | ⟨m, a', hsp, hm, hg2, rfl, rfl, rfl⟩ | ⟨k, a', hsp, _⟩
        · obtain ⟨m3, hm3, hme, hmg, _⟩ := hR.obj a.block _ hg
          rw [hm] at hm3; cases hm3
          have : n = c' := by
            rcases hz with q | ⟨q, _⟩
            · exact q
            · rw [hmg] at q; cases q
          subst this
          exact .same hR (.atom rfl) (by simp [Builtin.cap_, ht, run_under hu])
        · exact .same hR (.atom rfl) (by simp [Builtin.cap_, ht, run_under hu])
        · rw [hsp0] at hsp; cases hsp
      · cases h
    · cases h
theorem clear_out {ts : Array TypeId} {ty : TypeId} {x x' v : Value} {σ' : AHeap} {args : List Value} (ha : args = [x]) (h : builtin' P .clear ts args σ = some (v, σ')) (hR : Rel P ρ σ w) (hx : VR P ρ x x') : OutV D P ρ σ w v σ' ((Builtin.clear_ ts ty #[x']).run P w) := by
  subst ha
  unfold builtin' at h
  simp only at h
  cases ht : ts[0]? with
  | none => rw [ht] at h; simp at h
  | some t =>
    rw [ht] at h
    simp only [Option.bind_some] at h
    split at h
    · rename_i elem a n c hu
      split at h
      · rename_i sz z he hle
        have hle := Nat.le_of_ble_eq_true hle
        obtain ⟨i, zv, hi, hz, hpl, hzs, hby, rfl, rfl⟩ := elemOk_spec he
        split at h
        · rename_i σ2 hst
          cases h
          have hzr : ∀ k : Nat, (Builtin.zeroCells zv.cells k).toList = zerosN zv.cells.toList k := fun k => by rw [zeros_map]; rfl
          have hzv : ∀ w : World, (zeroValue elem).run P w = .ok zv w := fun w => by simp [zeroValue, typeInfo, hi, hz]
          by_cases hn : n = 0
          · subst hn
            have e : σ' = σ := by simpa [zerosN, stCells] using hst.symm
            subst e
            obtain ⟨a', c', rfl⟩ : ∃ a' c', x' = .slice (some a') 0 c' := by
              rcases hx.slice_inv with ⟨m, c', s, _, _, _, _, _, rfl⟩ | ⟨m, a', _, _, _, _, rfl, rfl⟩ | ⟨k, a', _, _, rfl, rfl⟩ <;> exact ⟨_, _, rfl⟩
            exact .same hR .undef (by simp [Builtin.clear_, ht, run_under hu]; rfl)
          · obtain ⟨a', c', w', rfl, _, h1, h2, h3⟩ := hR.stSlice (k := 0) hx (by rw [Nat.add_zero]; exact hst) (zeros_LR' hpl n) (fun _ => by omega)
            rw [addr_add0] at h1
            refine ⟨ρ, _, w', ?_, .undef, h2, h3⟩
            obtain ⟨n', rfl⟩ : ∃ n', n = n' + 1 := ⟨n - 1, by omega⟩
            simp [Builtin.clear_, ht, run_under hu, hzv, hzr, h1]
            rfl
        · cases h
      · cases h
    · cases h
theorem mm_sound {lss : Bool} {x y v x' y' : Value} (h : mm P lss x y = some v) (hx : VR P ρ x x') (hy : VR P ρ y y') (w : World) : (if lss then Builtin.min2 x' y' else Builtin.max2 x' y').run P w = .ok v w ∧ VR P ρ v v := by
  unfold mm at h
  split at h
  · rename_i ha
    simp only [Bool.and_eq_true] at ha
    rw [hx.atom_inv ha.1, hy.atom_inv ha.2]
    obtain ⟨h1, h2⟩ := atomic_some h
    exact ⟨pureP_run h1 w, .atom h2⟩
  · cases h
theorem mmAll_sound {lss : Bool} : ∀ (r r' : List Value) (x x' v : Value), mmAll P lss x r = some v → VR P ρ x x' → LR P ρ r r' → ∃ v', (r'.foldlM (if lss then Builtin.min2 else Builtin.max2) x' : Sem Value).run P w = .ok v' w ∧ VR P ρ v v'
  | [], r', x, x', v, h, hx, hl => by rw [hl.nil_inv]; simp only [mmAll, Option.some.injEq] at h; subst h; exact ⟨x', rfl, hx⟩
  | y :: r, r', x, x', v, h, hx, hl => by
    obtain ⟨y', s', rfl, hy, hs⟩ := hl.cons_inv
    rw [mmAll] at h
    split at h
    · rename_i z hz
      obtain ⟨h1, h2⟩ := mm_sound hz hx hy w
      obtain ⟨v', h3, h4⟩ := mmAll_sound r s' z z v h h2 hs
      refine ⟨v', ?_, h4⟩
      rw [List.foldlM_cons, Sem.run_bind]
      have : ((if lss then Builtin.min2 else Builtin.max2) x' y').run P w = .ok z w := by cases lss <;> simpa using h1
      rw [this, Result.andThen_ok]
      exact h3
    · cases h

/-! Methods. -/
inductive PR (P : Program) (ρ : Ren) : APl → Place → Prop
  | val {v v' : Value} (h : VR P ρ v v') : PR P ρ (.val v) (.val v')
  | var {b off : Nat} {m : Img} (h : ρ b = some m) : PR P ρ (.var b off) (.var ⟨m.blk, off + m.shift, none⟩)
theorem PR.get {t : TypeId} {x : APl} {x' : Place} {v : Value} (h : x.get P t σ = some v) (hR : Rel P ρ σ w) (hx : PR P ρ x x') : ∃ v', (x'.get t).run P w = .ok v' w ∧ VR P ρ v v' := by
  cases hx with
  | val hv => simp only [APl.get, Option.some.injEq] at h; subst h; exact ⟨_, rfl, hv⟩
  | var hm => exact hR.ldVar h hm
theorem fieldOff_spec {s : FieldStep} {f : Field} (h : fieldOff P s = some f) : ∃ fields n, P.underlying s.struct = some (.struct fields) ∧ fields[s.index]? = some f ∧ sizeOf' P f.type = some (n + 1) := by
  unfold fieldOff at h
  split at h
  · rename_i fields hu
    split at h
    · rename_i f2 hf
      split at h
      · rename_i n hs; cases h; exact ⟨fields, n, hu, hf, hs⟩
      · cases h
    · cases h
  · cases h
theorem run_fieldPlace {f : Field} {n k i : Nat} (hs : sizeOf' P f.type = some (n + 1)) : (fieldPlace ⟨k, i, none⟩ f).run P w = .ok ⟨k, i + f.offset, none⟩ w := by
  simp only [fieldPlace, Sem.run_bind, info_size hs, Result.andThen_ok]
  simp [addr_add]
theorem follow_sound (hR : Rel P ρ σ w) : ∀ (path : List FieldStep) (t : TypeId) (x : APl) (x' : Place) (xt : TypeId) (y : APl), follow' P path t x σ = some (xt, y) → PR P ρ x x' → ∃ y', (follow path t x').run P w = .ok (xt, y') w ∧ PR P ρ y y'
  | [], t, x, x', xt, y, h, hx => by simp only [follow', Option.some.injEq, Prod.mk.injEq] at h; obtain ⟨rfl, rfl⟩ := h; exact ⟨x', rfl, hx⟩
  | s :: rest, t, x, x', xt, y, h, hx => by
    rw [follow'] at h
    split at h
    · cases h
    · rename_i f hf
      obtain ⟨fields, n, hu, hfi, hs⟩ := fieldOff_spec hf
      split at h
      · rename_i hd
        split at h
        · rename_i b off hg
          obtain ⟨v', h1, h2⟩ := hx.get hg hR
          obtain ⟨m, hm, _, rfl⟩ := h2.ptr_inv
          obtain ⟨y', h3, h4⟩ := follow_sound hR rest f.type (.var b (off + f.offset)) (.var ⟨m.blk, off + f.offset + m.shift, none⟩) xt y h (.var hm)
          refine ⟨y', ?_, h4⟩
          simp only [follow, Sem.run_bind, run_under hu, Result.andThen_ok, hfi, hd, if_true, h1, asAddr, Sem.run_pure, run_fieldPlace hs]
          rw [show off + m.shift + f.offset = off + f.offset + m.shift by omega]
          exact h3
        · cases h
      · rename_i hd
        split at h
        · rename_i b off
          cases hx with
          | var hm =>
            rename_i m
            obtain ⟨y', h3, h4⟩ := follow_sound hR rest f.type (.var b (off + f.offset)) (.var ⟨m.blk, off + f.offset + m.shift, none⟩) xt y h (.var hm)
            refine ⟨y', ?_, h4⟩
            simp only [follow, Sem.run_bind, run_under hu, Result.andThen_ok, hfi, hd, Bool.false_eq_true, if_false, run_fieldPlace hs]
            rw [show off + m.shift + f.offset = off + f.offset + m.shift by omega]
            exact h3
        · rename_i cs
          split at h
          · rename_i v hp
            cases hx with
            | val hv =>
              obtain ⟨cs', rfl, hl⟩ := hv.agg_inv
              obtain ⟨v', h1, h2⟩ := part_sound (w := w) hp hl
              obtain ⟨y', h3, h4⟩ := follow_sound hR rest f.type (.val v) (.val v') xt y h (.val h2)
              refine ⟨y', ?_, h4⟩
              simp only [follow, Sem.run_bind, run_under hu, Result.andThen_ok, hfi, hd, Bool.false_eq_true, if_false, h1]
              exact h3
          · cases h
        · cases h
theorem run_chk {xt ty : TypeId} {a : Addr} {s n : ByteArray} : (Builtin.ssaWrapNilChk_ #[xt] ty #[.pointer (some a), .string s, .string n]).run P w = .ok (.pointer (some a)) w := rfl
theorem receiver_sound (hR : Rel P ρ σ w) {xt : TypeId} {x : APl} {x' : Place} {pointer : Bool} {r : Value} {wr : Option String} (h : receiver' P xt x pointer σ = some r) (hx : PR P ρ x x') : ∃ r', (receiverAt xt x' pointer wr).run P w = .ok r' w ∧ VR P ρ r r' := by
  unfold receiver' at h
  split at h
  · rename_i e hu
    obtain ⟨v', h1, h2⟩ := hx.get h hR
    exact ⟨v', by simp only [receiverAt, Sem.run_bind, run_under hu, Result.andThen_ok]; exact h1, h2⟩
  · rename_i elem hu
    split at h
    · rename_i b off hg
      obtain ⟨v', h1, h2⟩ := hx.get hg hR
      obtain ⟨m, hm, _, rfl⟩ := h2.ptr_inv
      obtain ⟨r', h3, h4⟩ := hR.ldVar h hm
      refine ⟨r', ?_, h4⟩
      cases wr with
      | none => simp only [receiverAt, Sem.run_bind, run_under hu, Result.andThen_ok, h1, Sem.run_pure, asAddr]; exact h3
      | some nm => simp only [receiverAt, Sem.run_bind, run_under hu, Result.andThen_ok, h1, strVal, run_chk, asAddr, Sem.run_pure]; exact h3
    · cases h
  · rename_i d hd hu
    split at h
    · cases h
      cases hx with
      | var hm => exact ⟨_, by cases d <;> first | exact absurd rfl (hd _) | simp [receiverAt, run_under hu], .ptr hm⟩
    · cases h
  · rename_i d hd hu
    obtain ⟨v', h1, h2⟩ := hx.get h hR
    refine ⟨v', ?_, h2⟩
    cases d <;> first | exact absurd rfl (hd _) | (simp only [receiverAt, Sem.run_bind, run_under hu, Result.andThen_ok]; exact h1)
  · cases h
theorem method_sound (hR : Rel P ρ σ w) : ∀ (n N : Nat) (t : TypeId) (v v' : Value) (name : String) (f : FuncId) (r : Value), n ≤ N → method' P n t v name σ = some (f, r) → VR P ρ v v' → ∃ r', (method N t v' name).run P w = .ok (f, r') w ∧ VR P ρ r r'
  | 0, _, _, _, _, _, _, _, _, h, _ => by simp [method'] at h
  | n + 1, N, t, v, v', name, f, r, hN, h, hv => by
    obtain ⟨N', rfl⟩ : ∃ N', N = N' + 1 := ⟨N - 1, by omega⟩
    rw [method'] at h
    split at h
    · cases h
    · rename_i i hi
      split at h
      · cases h
      · rename_i m hm
        split at h
        · cases h
        · rename_i xt x hf
          obtain ⟨x', h1, h2⟩ := follow_sound hR _ _ _ _ _ _ hf (.val hv)
          have hti : (typeInfo t).run P w = .ok i w := by simp [typeInfo, hi]
          split at h
          · rename_i hfn
            split at h
            · rename_i t' u hg
              obtain ⟨u1, h3, h4⟩ := h2.get hg hR
              obtain ⟨u', rfl, h5⟩ := h4.iface_inv
              obtain ⟨r', h6, h7⟩ := method_sound hR n N' t' u u' name f r (by omega) h h5
              refine ⟨r', ?_, h7⟩
              simp only [method, Sem.run_bind, hti, Result.andThen_ok, hm, h1, hfn, h3]
              exact h6
            · cases h
          · rename_i g pointer hfn
            split at h
            · rename_i r2 hr
              cases h
              obtain ⟨r', h3, h4⟩ := receiver_sound (wr := if m.path.isEmpty then some ((name.splitOn ".").getLastD name) else none) hR hr h2
              refine ⟨r', ?_, h4⟩
              simp only [method, Sem.run_bind, hti, Result.andThen_ok, hm, h1, hfn, h3, Sem.run_pure]
            · cases h
end Go.AE
end
/- Every operation. -/
section
set_option linter.all false
namespace Go.AE
variable {D : Prop} {P : Program} {ρ : Ren} {σ : AHeap} {w : World}

/-- What a call may come to. -/
def CallPost (D : Prop) (P : Program) (ρ : Ren) (σ : AHeap) (w : World) (v : Value) (σ' : AHeap) (e : Ending) (w' : World) : Prop :=
  ∃ ρ' v', e = .returned v' ∧ VR P ρ' v v' ∧ Rel P ρ' σ' w' ∧ Ext D ρ σ w ρ' σ' w'
/-- The calls of an evaluation are the model's. The globals that are named stand where they are. -/
def Gl (gs : List Nat) (ρ : Ren) : Prop := ∀ g, g ∈ gs → ∃ m, ρ g = some m ∧ m.blk = g ∧ m.shift = 0
theorem Gl.mono {gs : List Nat} {ρ' : Ren} (h : Gl gs ρ) (hle : ρ.le ρ') : Gl gs ρ' := fun g hg => by obtain ⟨m, a, b⟩ := h g hg; exact ⟨m, hle _ _ a, b⟩
def CallS (D : Prop) (P : Program) (gs : List Nat) (call : CallF) : Prop := ∀ f args σ v σ', call f args σ = some (v, σ') → ∀ ρ w args', Gl gs ρ → LR P ρ args args' → Rel P ρ σ w → Calls P f args'.toArray w (CallPost D P ρ σ w v σ')

theorem run_callFunc {f : FuncId} {args : Array Value} (h : enters P f = true) : (callFunc f args).run P w = .ok (.enter f args) w := by
  unfold enters at h
  split at h
  · rename_i fn hf
    simp only [Bool.and_eq_true, Bool.not_eq_true'] at h
    have hb : fn.body.isNone = false := by cases hq : fn.body <;> simp_all
    simp only [callFunc, Sem.run_bind, run_program, Result.andThen_ok, hf]
    rw [if_neg (by simp [h.2]), if_neg (by simp [hb])]
    rfl
  · cases h

theorem Out.wp {o : Oper} {a : Act} {v : Value} {σ' : AHeap} {K : Act → World → Prop} {Q : Exit → Act → World → Prop} (h : Out D P ρ σ w v σ' ((execOp a.eval o).run P w))
    (hK : ∀ ρ' v' w', VR P ρ' v v' → Rel P ρ' σ' w' → Ext D ρ σ w ρ' σ' w' → K (a.put o.dst v') w') : o.wp P a w K Q := by
  obtain ⟨ρ', v', w', hr, hv, hR, hE⟩ := h
  unfold Oper.wp
  rcases hr with hr | ⟨hr, rfl⟩
  · rw [hr]; exact hK ρ' v' w' hv hR hE
  · rw [hr]; exact hK ρ' undef w' hv hR hE
theorem Out.of_still (h : Rel P ρ σ w) {v v' : Value} {r : Result Next} (hr : r = .ok (.value v') w) (hv : VR P ρ v v') : Out D P ρ σ w v σ r := ⟨ρ, v', w, .inl hr, hv, h, .refl _ _ _⟩
theorem map_pair {α : Type} {o : Option α} {σ' : AHeap} {v : α} (h : o.map (·, σ) = some (v, σ')) : o = some v ∧ σ' = σ := by
  cases o with
  | none => simp at h
  | some u => simp only [Option.map_some, Option.some.injEq, Prod.mk.injEq] at h; exact ⟨by rw [h.1], h.2.symm⟩
theorem map_undef {o : Option AHeap} {σ' : AHeap} {v : Value} (h : o.map (undef, ·) = some (v, σ')) : o = some σ' ∧ v = undef := by
  cases o with
  | none => simp at h
  | some u => simp only [Option.map_some, Option.some.injEq, Prod.mk.injEq] at h; exact ⟨by rw [h.2], h.1.symm⟩
theorem evals_LR {f g : Operand → Value} {xs : Array Operand} (h : ∀ x ∈ xs.toList, VR P ρ (f x) (g x)) : LR P ρ (xs.map f).toList (xs.map g).toList := by
  simp only [Array.toList_map]; exact .map h
theorem opt_OR {f g : Operand → Value} {x : Option Operand} (h : ∀ y ∈ x.toArray.toList, VR P ρ (f y) (g y)) : OR P ρ (x.map f) (x.map g) := by
  cases x with
  | none => exact ⟨fun _ => rfl, fun v h => by simp at h⟩
  | some y => exact ⟨fun h => by simp at h, fun v hv => by simp at hv; subst hv; exact ⟨_, rfl, h y (by simp)⟩⟩

set_option maxHeartbeats 1000000 in
/-- EVERY OPERATION OF THE EVALUATOR IS THE MODEL's. -/
theorem aop_sound {gs : List Nat} {call : CallF} (hcall : CallS D P gs call) {o : Oper} {fr : AFr} {a : Act} {v : Value} {σ' : AHeap} (h : aop P call o fr σ = some (v, σ')) (hE : ∀ x ∈ o.op.operands.toList, VR P ρ (fr.eval x) (a.eval x)) (hG : Gl gs ρ) (hR : Rel P ρ σ w)
    {K : Act → World → Prop} {Q : Exit → Act → World → Prop} (hK : ∀ ρ' v' w', VR P ρ' v v' → Rel P ρ' σ' w' → Ext D ρ σ w ρ' σ' w' → K (a.put o.dst v') w') : o.wp P a w K Q := by
  obtain ⟨dst, op, ty, pos, after, guard⟩ := o
  have fin : Out D P ρ σ w v σ' ((execOp a.eval ⟨dst, op, ty, pos, after, guard⟩).run P w) → Oper.wp P ⟨dst, op, ty, pos, after, guard⟩ a w K Q := fun ho => ho.wp hK
  cases op
  case move x =>
    simp only [aop, Option.some.injEq, Prod.mk.injEq] at h; obtain ⟨rfl, rfl⟩ := h
    exact fin (.of_still hR rfl (hE x (by simp [Op.operands])))
  case assign x =>
    simp only [aop, Option.some.injEq, Prod.mk.injEq] at h; obtain ⟨rfl, rfl⟩ := h
    exact fin (.of_still hR rfl (hE x (by simp [Op.operands])))
  case pick c x y =>
    simp only [aop] at h
    have hc := hE c (by simp [Op.operands])
    split at h
    · rename_i e
      cases h
      rw [e] at hc
      exact fin (.of_still hR (v' := a.eval x) (by simp only [execOp]; rw [hc.bool_inv]; rfl) (hE x (by simp [Op.operands])))
    · rename_i e
      cases h
      rw [e] at hc
      exact fin (.of_still hR (v' := a.eval y) (by simp only [execOp]; rw [hc.bool_inv]; rfl) (hE y (by simp [Op.operands])))
    · cases h
  case alloc e =>
    simp only [aop] at h
    split at h
    · rename_i z hz; cases h; exact fin (alloc_out hz hR).out
    · cases h
  case box e x =>
    simp only [aop, Option.some.injEq] at h; cases h
    exact fin (box_out hR (hE x (by simp [Op.operands]))).out
  case build t parts =>
    simp only [aop] at h
    obtain ⟨h1, rfl⟩ := map_pair h
    have hps : ∀ p ∈ parts.toList, VR P ρ (fr.eval p.2) (a.eval p.2) := fun p hp => hE p.2 (by simp only [Op.operands]; exact List.mem_map_of_mem hp)
    refine fin (OutV.out (build_out h1 hR ?_ ?_))
    · simp
    · simp only [Array.toList_map, List.map_map]; exact .map hps
  case buildSlice t len parts =>
    simp only [aop] at h
    have hps : ∀ p ∈ parts.toList, VR P ρ (fr.eval p.2) (a.eval p.2) := fun p hp => hE p.2 (by simp only [Op.operands]; exact List.mem_map_of_mem hp)
    split at h
    · rename_i elem hu
      split at h
      · rename_i size z he
        split at h
        · rename_i hle
          split at h
          · rename_i cs hf
            cases h
            refine fin (OutV.out (buildSlice_out hu he (Nat.le_of_ble_eq_true hle) hf hR ?_ ?_))
            · simp
            · simp only [Array.toList_map, List.map_map]; exact .map hps
          · cases h
        · cases h
      · cases h
    · cases h
  case load t x =>
    simp only [aop] at h
    have hx := hE x (by simp [Op.operands])
    split at h
    · rename_i b off e
      obtain ⟨h1, rfl⟩ := map_pair h
      rw [e] at hx
      exact fin (load_out h1 hR hx).out
    · cases h
  case store t x y =>
    simp only [aop] at h
    have hx := hE x (by simp [Op.operands])
    have hy := hE y (by simp [Op.operands])
    split at h
    · rename_i b off e
      rw [e] at hx
      split at h
      · rename_i n hn
        split at h
        · rename_i hsz
          obtain ⟨h1, rfl⟩ := map_undef h
          exact fin (store_out hn hsz h1 hR hx hy).out
        · cases h
      · cases h
    · cases h
  case nilCheck x =>
    simp only [aop] at h
    have hx := hE x (by simp [Op.operands])
    split at h
    · rename_i ad e
      cases h
      rw [e] at hx
      obtain ⟨m, _, _, e2⟩ := hx.ptr_inv
      refine fin (.of_still hR (v' := a.eval x) ?_ hx)
      simp only [execOp]; rw [e2]; rfl
    · rename_i t u e
      cases h
      rw [e] at hx
      obtain ⟨u', e2, _⟩ := hx.iface_inv
      refine fin (.of_still hR (v' := a.eval x) ?_ hx)
      simp only [execOp]; rw [e2]; rfl
    all_goals first
      | (cases h; done)
      | (rename_i e
         cases h
         rw [e] at hx
         obtain ⟨y1, y2, e2, _, _⟩ := hx.func_inv
         refine fin (.of_still hR (v' := a.eval x) ?_ hx)
         simp only [execOp]; rw [e2]; rfl)
  case binOp op t x y yt =>
    simp only [aop] at h
    obtain ⟨h1, rfl⟩ := map_pair h
    exact fin (bin_out h1 hR (hE x (by simp [Op.operands])) (hE y (by simp [Op.operands]))).out
  case unOp op t x =>
    simp only [aop] at h
    obtain ⟨h1, rfl⟩ := map_pair h
    exact fin (un_out h1 hR (hE x (by simp [Op.operands]))).out
  case convert s d x =>
    simp only [aop] at h
    exact fin (conv_out h hR (hE x (by simp [Op.operands]))).out
  case sliceToArrayPointer arr x =>
    simp only [aop] at h
    have hx := hE x (by simp [Op.operands])
    split at h
    · rename_i n e ad len c hu ex
      rw [ex] at hx
      split at h
      · rename_i ad
        split at h
        · rename_i hsp
          split at h
          · rename_i hlt
            simp only [Bool.and_eq_true, Nat.ble_eq] at hlt
            have h0 : 0 < n := Nat.le_of_ble_eq_true hlt.1
            have hlt := hlt.2
            cases h
            rcases hx.slice_inv with ⟨m, c', s, hsp2, hm, hn, hc, hz, e2⟩ | ⟨m, a', hsp2, hm, hg, rfl, rfl, e2⟩ | ⟨k, a', hsp2, _⟩
            · obtain ⟨b, o, sp⟩ := ad
              simp only at hsp2 hm; subst hsp2
              refine fin (OutV.out (.same hR (.ptr hm) ?_))
              simp only [Instr.arrayAt, Sem.run_bind, run_under hu, Result.andThen_ok, e2]
              rw [if_neg (by omega)]; rfl
            · omega
            · rw [hsp] at hsp2; cases hsp2
          · cases h
        · cases h
      · cases h
    · cases h
  case makeInterface t x =>
    simp only [aop] at h
    split at h
    · cases h
    · rename_i d hd hu
      cases h
      exact fin (makeInterface_out hu (fun ms e => hd ms e) hR (hE x (by simp [Op.operands]))).out
    · cases h
  case makeFunc fn x y =>
    simp only [aop, Option.some.injEq] at h; cases h
    refine fin (OutV.out (.same hR (v' := .func fn (x.map a.eval) (y.map a.eval)) (VR.func_iff (evals_LR fun z hz => hE z (by simp [Op.operands]; exact .inl (by simpa using hz))) (evals_LR fun z hz => hE z (by simp [Op.operands]; exact .inr (by simpa using hz)))) ?_))
    rfl
  case makeMap t r =>
    simp only [aop] at h
    have mk : ∀ (r' : Option Value), (Instr.makeMap t r').run P w = .ok (.map (some w.heap.size)) (w.alloc (.map #[] 0)) → OutV D P ρ σ w (.map (some (σ.new (.map [] 0 false)).1)) (σ.new (.map [] 0 false)).2 ((Instr.makeMap t r').run P w) := fun r' hr => by
      have ho : ObjR P (ρ.add σ.next ⟨w.heap.size, 0, 0, 0, false⟩) (w.alloc (.map #[] 0)) ⟨w.heap.size, 0, 0, 0, false⟩ (.map [] 0 false) := ⟨rfl, #[], heap_new _ _, .nil⟩
      exact ⟨_, _, _, hr, .map (m := ⟨w.heap.size, 0, 0, 0, false⟩) Ren.add_same, hR.new rfl ho, .new hR rfl rfl⟩
    split at h
    · cases h
      exact fin (mk none (by simp [Instr.makeMap])).out
    · rename_i hint
      split at h
      · rename_i kt et k n hu e
        cases h
        have hx := hE hint (by simp [Op.operands])
        rw [e] at hx
        refine fin (OutV.out (mk _ ?_))
        rw [show (some hint).map a.eval = some (.int k n) by simp [hx.int_inv]]
        simp [Instr.makeMap, run_under hu, asInt, run_asIntOf]
      · cases h
  case makeSlice t l c =>
    simp only [aop] at h
    have hl := hE l (by simp [Op.operands])
    have hc := hE c (by simp [Op.operands])
    split at h
    · rename_i elem ln cn hu e1 e2
      split at h
      · rename_i sz z he hb
        cases h
        simp only [Bool.and_eq_true, Nat.ble_eq] at hb
        obtain ⟨q1, kl, hkl⟩ := nat_inv e1 hl
        obtain ⟨q2, kc, hkc⟩ := nat_inv e2 hc
        exact fin (makeSlice_out hu he (q1.trans hkl) (q2.trans hkc) hb.1 hb.2 hR).out
      · cases h
    · cases h
  case slice t x lo hi mx =>
    simp only [aop] at h
    obtain ⟨h1, rfl⟩ := map_pair h
    refine fin (OutV.out (sliceOp_out h1 hR (hE x (by simp [Op.operands])) (opt_OR fun y hy => hE y ?_) (opt_OR fun y hy => hE y ?_) (opt_OR fun y hy => hE y ?_)))
    · simp [Op.operands]; exact .inr (.inl (by simpa using hy))
    · simp [Op.operands]; exact .inr (.inr (.inl (by simpa using hy)))
    · simp [Op.operands]; exact .inr (.inr (.inr (by simpa using hy)))
  case fieldAddr s x f =>
    simp only [aop] at h
    obtain ⟨h1, rfl⟩ := map_pair h
    exact fin (fieldAddr_out h1 hR (hE x (by simp [Op.operands]))).out
  case field t x f =>
    simp only [aop] at h
    obtain ⟨h1, rfl⟩ := map_pair h
    exact fin (fieldVal_out h1 hR (hE x (by simp [Op.operands]))).out
  case indexAddr t x ix =>
    simp only [aop] at h
    obtain ⟨h1, rfl⟩ := map_pair h
    exact fin (indexAddr_out h1 hR (hE x (by simp [Op.operands])) (hE ix (by simp [Op.operands]))).out
  case index t x ix =>
    simp only [aop] at h
    obtain ⟨h1, rfl⟩ := map_pair h
    exact fin (indexVal_out h1 hR (hE x (by simp [Op.operands])) (hE ix (by simp [Op.operands]))).out
  case lookup t x ix ok =>
    simp only [aop] at h
    obtain ⟨h1, rfl⟩ := map_pair h
    exact fin (lookup_out h1 hR (hE x (by simp [Op.operands])) (hE ix (by simp [Op.operands]))).out
  case mapUpdate t m k x =>
    simp only [aop] at h
    obtain ⟨h1, rfl⟩ := map_undef h
    exact fin (mapPut_out h1 hR (hE m (by simp [Op.operands])) (hE k (by simp [Op.operands])) (hE x (by simp [Op.operands]))).out
  case insert t m k x =>
    simp only [aop] at h
    obtain ⟨h1, rfl⟩ := map_undef h
    exact fin (mapPut_out h1 hR (hE m (by simp [Op.operands])) (hE k (by simp [Op.operands])) (hE x (by simp [Op.operands]))).out
  case mapEntry t m k =>
    simp only [aop] at h
    exact fin (mapEntry_out h hR (hE m (by simp [Op.operands])) (hE k (by simp [Op.operands]))).out
  case entryStore t m s x =>
    simp only [aop] at h
    obtain ⟨h1, rfl⟩ := map_undef h
    exact fin (entryStore_out h1 hR (hE m (by simp [Op.operands])) (hE s (by simp [Op.operands])) (hE x (by simp [Op.operands]))).out
  case range t x =>
    simp only [aop] at h
    exact fin (range_out h hR (hE x (by simp [Op.operands]))).out
  case next it isS =>
    simp only [aop] at h
    exact fin (next_out h hR (hE it (by simp [Op.operands]))).out
  case entry it =>
    simp only [aop] at h
    obtain ⟨h1, rfl⟩ := map_pair h
    exact fin (entry_out h1 hR (hE it (by simp [Op.operands]))).out
  case typeAssert x xt as ok =>
    simp only [aop] at h
    obtain ⟨h1, rfl⟩ := map_pair h
    exact fin (typeAssert_out h1 hR (hE x (by simp [Op.operands]))).out
  case extract t ix =>
    simp only [aop] at h
    have hx := hE t (by simp [Op.operands])
    split at h
    · rename_i vs e
      obtain ⟨h1, rfl⟩ := map_pair h
      exact fin (extract_out e h1 hR hx).out
    · cases h
  case call c =>
    obtain ⟨callee, args, argTypes⟩ := c
    have hargs : ∀ x ∈ args.toList, VR P ρ (fr.eval x) (a.eval x) := fun x hx => hE x (by simp [Op.operands, Call.operands]; exact .inr (by simpa using hx))
    have hLR : LR P ρ (args.toList.map fr.eval) (args.map a.eval).toList := by rw [Array.toList_map]; exact .map hargs
    -- the model enters a function
    have enter : ∀ (f : FuncId) (xs : List Value) (ys : List Value), enters P f = true → LR P ρ xs ys → call f xs σ = some (v, σ') → (execOp a.eval ⟨dst, .call ⟨callee, args, argTypes⟩, ty, pos, after, guard⟩).run P w = .ok (.enter f ys.toArray) w →
        Oper.wp P ⟨dst, .call ⟨callee, args, argTypes⟩, ty, pos, after, guard⟩ a w K Q := by
      intro f xs ys hen hl hc hr
      unfold Oper.wp
      rw [hr]
      refine (hcall f xs σ v σ' hc ρ w ys hG hl hR).mono fun e w' ⟨ρ', v', he, hv, hR', hE'⟩ => ?_
      subst he
      exact hK ρ' v' w' hv hR' hE'
    cases callee with
    | value f =>
      simp only [aop] at h
      have hf := hE f (by simp [Op.operands, Call.operands])
      split at h
      · rename_i g x y e
        rw [e] at hf
        obtain ⟨x', y', e2, hx, hy⟩ := hf.func_inv
        split at h
        · rename_i hen
          refine enter g _ (x'.toList ++ (args.map a.eval).toList ++ y'.toList) hen ((hx.append hLR).append hy) h ?_
          simp only [execOp, resolve, e2, Deferred.ofValue, Sem.run_bind, Sem.run_pure, Result.andThen_ok, invoke]
          rw [run_callFunc hen]
          congr 2
          apply Array.ext'
          simp
        · cases h
      · cases h
    | invoke recv name =>
      simp only [aop] at h
      have hf := hE recv (by simp [Op.operands, Call.operands])
      split at h
      · rename_i t u e
        rw [e] at hf
        obtain ⟨u', e2, hu⟩ := hf.iface_inv
        split at h
        · rename_i g r hm
          split at h
          · rename_i hen
            obtain ⟨r', h1, h2⟩ := method_sound hR 4 (P.types.size + Made.depth) t u u' name g r (by simp [Made.depth] <;> omega) hm hu
            refine enter g _ (r' :: (args.map a.eval).toList) hen (.cons h2 hLR) h ?_
            simp only [execOp, resolve, Sem.run_bind, Sem.run_pure, Result.andThen_ok, invoke, e2]
            have e3 : (#[Value.iface t u'] ++ args.map a.eval)[0]? = some (.iface t u') := by
              rw [Array.getElem?_append_left (Nat.zero_lt_one)]
              rfl
            have e4 : (#[Value.iface t u'] ++ args.map a.eval).extract 1 (#[Value.iface t u'] ++ args.map a.eval).size = args.map a.eval := by
              apply Array.ext'
              simp only [Array.toList_extract, List.extract_eq_take_drop, Array.toList_append, Array.toList_map, Array.size_append, Array.size_map]
              simp
              exact List.take_of_length_le (by simp)
            rw [e3]
            show Sem.run P (callMethod (.iface t u') name ((#[Value.iface t u'] ++ args.map a.eval).extract 1 (#[Value.iface t u'] ++ args.map a.eval).size)) w = _
            rw [e4]
            simp only [callMethod, Sem.run_bind, run_program, Result.andThen_ok, h1]
            rw [run_callFunc hen]
            congr 2
            apply Array.ext'
            simp
          · cases h
        · cases h
      · cases h
    | builtin b =>
      simp only [aop] at h
      obtain ⟨al⟩ := args
      simp only [List.map_toArray] at h hLR
      have one : ∀ {x : Value} {xs : List Operand}, xs.map fr.eval = [x] → LR P ρ (xs.map fr.eval) (xs.map a.eval) → ∃ x', xs.map a.eval = [x'] ∧ VR P ρ x x' := fun {x xs} e hl => by
        rw [e] at hl
        obtain ⟨x', r, e2, hx, hr⟩ := hl.cons_inv
        have := hr.nil_inv
        subst this
        exact ⟨x', e2, hx⟩
      have two : ∀ {x y : Value} {xs : List Operand}, xs.map fr.eval = [x, y] → LR P ρ (xs.map fr.eval) (xs.map a.eval) → ∃ x' y', xs.map a.eval = [x', y'] ∧ VR P ρ x x' ∧ VR P ρ y y' := fun {x y xs} e hl => by
        rw [e] at hl
        obtain ⟨x', r, e2, hx, hr⟩ := hl.cons_inv
        obtain ⟨y', r2, rfl, hy, hr2⟩ := hr.cons_inv
        have := hr2.nil_inv
        subst this
        exact ⟨x', y', e2, hx, hy⟩
      generalize hxs : al.map fr.eval = xs at h
      have h0 := h
      unfold builtin' at h
      split at h
      · rename_i s x
        obtain ⟨s', x', e2, hs, hx⟩ := two hxs hLR
        cases ht : argTypes[0]? with
        | none => rw [ht] at h; simp at h
        | some t =>
          rw [ht] at h
          refine fin (OutV.out (s := Builtin.append_ argTypes ty (al.toArray.map a.eval)) ?_)
          rw [List.map_toArray, e2]
          exact append_out ht h hR hs hx
      · rename_i x
        obtain ⟨x', e2, hx⟩ := one hxs hLR
        refine fin (OutV.out (s := Builtin.len_ argTypes ty (al.toArray.map a.eval)) ?_)
        rw [List.map_toArray, e2]
        exact len_out rfl h0 hR hx
      · rename_i x
        obtain ⟨x', e2, hx⟩ := one hxs hLR
        refine fin (OutV.out (s := Builtin.cap_ argTypes ty (al.toArray.map a.eval)) ?_)
        rw [List.map_toArray, e2]
        exact cap_out rfl h0 hR hx
      · rename_i d s
        obtain ⟨d', s', e2, hd, hs⟩ := two hxs hLR
        cases ht : argTypes[0]? with
        | none => rw [ht] at h; simp at h
        | some t =>
          rw [ht] at h
          simp only [Option.bind_some] at h
          refine fin (OutV.out (s := Builtin.copy_ argTypes ty (al.toArray.map a.eval)) ?_)
          rw [List.map_toArray, e2]
          split at h
          · rename_i elem base dLen dCap hu
            split at h
            · rename_i size sl hsz hsl hdc
              split at h
              · rename_i cs hf
                exact copy_out ht hu hsz hsl (Nat.le_of_ble_eq_true hdc) hf h hR hd hs
              · cases h
            · cases h
          · cases h
      · rename_i m k
        obtain ⟨m', k', e2, hm, hk⟩ := two hxs hLR
        cases ht : argTypes[0]? with
        | none => rw [ht] at h; simp at h
        | some t =>
          rw [ht] at h
          simp only [Option.bind_some] at h
          cases hd : mapDel P t m k σ with
          | none => rw [hd] at h; simp at h
          | some σ2 =>
            rw [hd] at h
            simp only [Option.map_some, Option.some.injEq, Prod.mk.injEq] at h
            obtain ⟨rfl, rfl⟩ := h
            refine fin (OutV.out (s := Builtin.delete_ argTypes ty (al.toArray.map a.eval)) ?_)
            rw [List.map_toArray, e2]
            exact mapDel_out ht hd hR hm hk
      · rename_i x
        obtain ⟨x', e2, hx⟩ := one hxs hLR
        refine fin (OutV.out (s := Builtin.clear_ argTypes ty (al.toArray.map a.eval)) ?_)
        rw [List.map_toArray, e2]
        exact clear_out rfl h0 hR hx
      · rename_i x rest
        rw [hxs] at hLR
        obtain ⟨x', r', e2, hx, hr⟩ := hLR.cons_inv
        obtain ⟨h1, rfl⟩ := map_pair h
        obtain ⟨v', h3, h4⟩ := mmAll_sound (w := w) (lss := true) rest r' x x' v h1 hx hr
        refine fin (OutV.out (s := Builtin.min_ argTypes ty (al.toArray.map a.eval)) (.same hR h4 ?_))
        rw [List.map_toArray, e2]
        exact h3
      · rename_i x rest
        rw [hxs] at hLR
        obtain ⟨x', r', e2, hx, hr⟩ := hLR.cons_inv
        obtain ⟨h1, rfl⟩ := map_pair h
        obtain ⟨v', h3, h4⟩ := mmAll_sound (w := w) (lss := false) rest r' x x' v h1 hx hr
        refine fin (OutV.out (s := Builtin.max_ argTypes ty (al.toArray.map a.eval)) (.same hR h4 ?_))
        rw [List.map_toArray, e2]
        exact h3
      · cases h
  all_goals (simp [aop] at h)
end Go.AE
end
/- Frames; a region in the order of its text. -/
section
set_option linter.all false
namespace Go.AE
variable {D : Prop} {P : Program} {ρ : Ren} {σ : AHeap} {w : World}

structure FR (P : Program) (ρ : Ren) (fr : AFr) (tmps : Array Value) : Prop where
  size : tmps.size = fr.n
  at_ : ∀ t, VR P ρ (fr.at_ t) (tmps.getD t undef)
theorem FR.mono {ρ' : Ren} {fr : AFr} {tmps : Array Value} (h : FR P ρ fr tmps) (hle : ρ.le ρ') : FR P ρ' fr tmps := ⟨h.size, fun t => (h.at_ t).mono hle⟩
theorem AFr.put_n (fr : AFr) (d : Option Tmp) (v : Value) : (fr.put d v).n = fr.n := by
  unfold AFr.put; split
  · rfl
  · split <;> rfl
theorem AFr.put_at (fr : AFr) (d : Option Tmp) (v : Value) (t : Nat) : (fr.put d v).at_ t = if d = some t ∧ t < fr.n then v else fr.at_ t := by
  unfold AFr.put
  split
  · simp
  · rename_i d
    split
    · rename_i h
      have h : d < fr.n := Nat.le_of_ble_eq_true h
      unfold AFr.at_
      simp only [Tr.get_put]
      by_cases e : t = d
      · subst e; simp [h]
      · rw [if_neg e, if_neg (by simp; intro q; exact absurd q.symm e)]
    · rename_i h
      have h : ¬ d < fr.n := fun q => by rw [show d.blt fr.n = true from Nat.ble_eq_true_of_le q] at h; cases h
      rw [if_neg (fun q => h (by have := q.1; cases this; exact q.2))]
theorem put_getD (a : Act) (d : Option Tmp) (v : Value) (t : Nat) : (a.put d v).tmps.getD t undef = if d = some t ∧ t < a.tmps.size then v else a.tmps.getD t undef := by
  cases d with
  | none => simp [Act.put]
  | some d =>
    simp only [Act.put, Array.getD_eq_getD_getElem?]
    rw [Array.getElem?_setIfInBounds]
    by_cases e : d = t
    · subst e
      by_cases h : d < a.tmps.size
      · simp [h]
      · simp [h]
    · rw [if_neg e, if_neg (by simp [e])]
theorem put_size (a : Act) (d : Option Tmp) (v : Value) : (a.put d v).tmps.size = a.tmps.size := by cases d <;> simp [Act.put]
theorem put_defers (a : Act) (d : Option Tmp) (v : Value) : (a.put d v).defers = a.defers := by cases d <;> rfl
theorem FR.put {fr : AFr} {a : Act} {v v' : Value} (h : FR P ρ fr a.tmps) (d : Option Tmp) (hv : VR P ρ v v') : FR P ρ (fr.put d v) (a.put d v').tmps := by
  refine ⟨by rw [put_size, AFr.put_n, h.size], fun t => ?_⟩
  rw [AFr.put_at, put_getD, h.size]
  split
  · exact hv
  · exact h.at_ t

/-! Operands. -/
theorem eval_sound {gs : List Nat} {fr : AFr} {a : Act} {x : Operand} (hok : opdOk gs x = true) (hG : Gl gs ρ) (ht : ∀ t, x = .tmp t → VR P ρ (fr.at_ t) (a.tmps.getD t undef)) : VR P ρ (fr.eval x) (a.eval x) := by
  cases x with
  | tmp t => exact ht t rfl
  | const v => exact .of_plain hok
  | global g =>
    obtain ⟨m, hm, hb, hs⟩ := hG g (by simpa [opdOk] using hok)
    have := VR.ptr (P := P) (o := 0) hm
    rw [hb, hs] at this
    exact this
  | func f => exact VR.func_iff .nil .nil
theorem evals_ok {gs : List Nat} {o : Oper} {fr : AFr} {a : Act} (hok : operOk gs o = true) (hG : Gl gs ρ) (hF : FR P ρ fr a.tmps) : ∀ x ∈ o.op.operands.toList, VR P ρ (fr.eval x) (a.eval x) := fun x hx =>
  eval_sound (List.all_eq_true.1 hok x hx) hG fun t _ => hF.at_ t

/-! Guards. -/
theorem yields_sound {ops : List Oper} {fr : AFr} {a : Act} {j : Nat} (ht : ∀ o t, ops[j]? = some o → o.dst = some t → VR P ρ (fr.at_ t) (a.tmps.getD t undef)) : yielded ops.toArray a.tmps j = yields ops fr j := by
  unfold yielded yields
  rw [List.getElem?_toArray]
  cases ho : ops[j]? with
  | none => rfl
  | some o =>
    simp only [Option.bind_some]
    cases hd : o.dst with
    | none => rfl
    | some d =>
      simp only [Option.bind_some]
      have hv := ht o d ho hd
      rw [Array.getD_eq_getD_getElem?] at hv
      cases hq : a.tmps[d]? with
      | none =>
        rw [hq] at hv
        simp only [Option.getD_none] at hv
        -- no such slot: the abstract one is no bool
        cases hz : fr.at_ d with
        | bool b => rw [hz] at hv; have := hv.bool_inv; simp [undef] at this
        | _ => rfl
      | some u =>
        rw [hq] at hv
        simp only [Option.getD_some] at hv
        cases hz : fr.at_ d with
        | bool b => rw [hz] at hv; rw [hv.bool_inv]
        | _ =>
          cases u with
          | bool b =>
            rw [hz] at hv
            cases hv
            all_goals (rename_i h; simp [AE.atom] at h)
          | _ => rfl
theorem wanted_sound {ops : List Oper} {fr : AFr} {a : Act} {o : Oper} (ht : ∀ g want o2 t, o.guard = some (g, want) → ops[g]? = some o2 → o2.dst = some t → VR P ρ (fr.at_ t) (a.tmps.getD t undef)) :
    Region.wanted o (yielded ops.toArray a.tmps) = wanted' ops fr o := by
  unfold Region.wanted wanted'
  cases hg : o.guard with
  | none => rfl
  | some p =>
    obtain ⟨g, want⟩ := p
    simp only
    rw [yields_sound (P := P) (ρ := ρ) (fun o2 t h1 h2 => ht g want o2 t hg h1 h2)]
    cases yields ops fr g with
    | none => rfl
    | some b => simp

/-! A region in the order of the text. -/
def Cont (D : Prop) (P : Program) (ρ : Ren) (σ : AHeap) (w : World) (a : Act) (fr' : AFr) (σ' : AHeap) (K : Act → World → Prop) : Prop :=
  ∀ ρ' a' w', FR P ρ' fr' a'.tmps → a'.defers = a.defers → Rel P ρ' σ' w' → Ext D ρ σ w ρ' σ' w' → K a' w'
theorem runOps_sound {gs : List Nat} {call : CallF} (hcall : CallS D P gs call) {ops : List Oper} {Q : Exit → Act → World → Prop} : ∀ (l : List Oper) (fr : AFr) (σ : AHeap) (fr' : AFr) (σ' : AHeap), (∀ o ∈ l, operOk gs o = true) → runOps P call ops l fr σ = some (fr', σ') →
    ∀ (ρ : Ren) (a : Act) (w : World), FR P ρ fr a.tmps → Gl gs ρ → Rel P ρ σ w → Cont D P ρ σ w a fr' σ' (Q .normal) → wpList P ops.toArray Q l a w
  | [], fr, σ, fr', σ', _, h, ρ, a, w, hF, hG, hR, hK => by
    simp only [runOps, Option.some.injEq, Prod.mk.injEq] at h
    obtain ⟨rfl, rfl⟩ := h
    exact hK ρ a w hF rfl hR (.refl _ _ _)
  | o :: rest, fr, σ, fr', σ', hok, h, ρ, a, w, hF, hG, hR, hK => by
    have hw := wanted_sound (P := P) (ρ := ρ) (ops := ops) (o := o) (fun g want o2 t _ _ _ => hF.at_ t)
    rw [runOps] at h
    unfold wpList
    rw [hw]
    split at h
    · rename_i hf
      rw [hf]
      simp only [Bool.false_eq_true, if_false]
      exact runOps_sound hcall rest _ _ _ _ (fun x hx => hok x (by simp [hx])) h ρ _ w (hF.put o.dst .undef) hG hR (fun ρ' a' w' h1 h2 h3 h4 => hK ρ' a' w' h1 (h2.trans (put_defers _ _ _)) h3 h4)
    · rename_i hf
      rw [hf]
      simp only [if_true]
      split at h
      · cases h
      · rename_i v σ2 ha
        refine .inl (aop_sound hcall ha (evals_ok (hok o (by simp)) hG hF) hG hR fun ρ' v' w' hv hR' hE => ?_)
        exact runOps_sound hcall rest _ _ _ _ (fun x hx => hok x (by simp [hx])) h ρ' _ w' ((hF.mono hE.ren).put o.dst hv) (hG.mono hE.ren) hR'
          (fun ρ2 a2 w2 h1 h2 h3 h4 => hK ρ2 a2 w2 h1 (h2.trans (put_defers _ _ _)) h3 (hE.trans h4))
end Go.AE
end
/- A region whose order is drawn. -/
section
set_option linter.all false
namespace Go.AE
variable {D : Prop} {P : Program}

/-! What waits for what. -/
theorem maskOf_bit (acc : List Nat) (i : Nat) : ∀ (es : List Edge) (m : Nat), (maskOf acc es m).testBit i = true → m.testBit i = true ∨ ∃ e ∈ es, Region.binds .any e = true ∧ (e.on = i ∨ (acc.getD e.on 0).testBit i = true)
  | [], m, h => .inl h
  | e :: es, m, h => by
    rw [maskOf] at h
    split at h
    · rename_i hb
      rcases maskOf_bit acc i es _ h with h | ⟨e', he, h⟩
      · rw [Nat.testBit_or, Nat.testBit_or, Bool.or_eq_true, Bool.or_eq_true] at h
        rcases h with (h | h) | h
        · exact .inl h
        · refine .inr ⟨e, by simp, hb, .inl ?_⟩
          rw [Nat.testBit_two_pow] at h
          simpa using h
        · exact .inr ⟨e, by simp, hb, .inr h⟩
      · exact .inr ⟨e', by simp [he], h⟩
    · rcases maskOf_bit acc i es _ h with h | ⟨e', he, h⟩
      · exact .inl h
      · exact .inr ⟨e', by simp [he], h⟩
theorem masks_keep : ∀ (l : List Oper) (acc : List Nat) (j : Nat), j < acc.length → (masks l acc).getD j 0 = acc.getD j 0
  | [], acc, j, _ => rfl
  | o :: l, acc, j, h => by
    rw [masks, masks_keep l _ j (by simp; omega)]
    simp [List.getD_eq_getElem?_getD, List.getElem?_append, h]
theorem masks_len : ∀ (l : List Oper) (acc : List Nat), (masks l acc).length = acc.length + l.length
  | [], acc => by simp [masks]
  | o :: l, acc => by rw [masks, masks_len l]; simp; omega
theorem masks_at : ∀ (l : List Oper) (acc : List Nat) (k : Nat) (o : Oper), l[k]? = some o → ∃ acc' : List Nat, (masks l acc).getD (acc.length + k) 0 = maskOf acc' o.after.toList 0 ∧ ∀ j, (acc'.getD j 0 = (masks l acc).getD j 0 ∨ acc'.getD j 0 = 0)
  | [], acc, k, o, h => by simp at h
  | a :: l, acc, 0, o, h => by
    simp at h; subst h
    refine ⟨acc, ?_, fun j => ?_⟩
    · rw [masks, masks_keep l _ _ (by simp)]
      simp [List.getD_eq_getElem?_getD]
    · by_cases hj : j < acc.length
      · left; rw [masks, masks_keep l _ _ (by simp; omega)]; simp [List.getD_eq_getElem?_getD, List.getElem?_append, hj]
      · right; simp [List.getD_eq_getElem?_getD, List.getElem?_eq_none (Nat.le_of_not_lt hj)]
  | a :: l, acc, k + 1, o, h => by
    obtain ⟨acc', h1, h2⟩ := masks_at l (acc ++ [maskOf acc a.after.toList 0]) k o (by simpa using h)
    refine ⟨acc', ?_, h2⟩
    rw [masks, ← h1]
    congr 1
    simp
    omega
theorem waitsFor_spec {ops : List Oper} {j i : Nat} (h : waitsFor ops j i = true) : ∃ b, ops[j]? = some b ∧ ∃ e ∈ b.after.toList, Region.binds .any e = true ∧ (e.on = i ∨ waitsFor ops e.on i = true) := by
  unfold waitsFor at h
  cases hb : ops[j]? with
  | none =>
    rw [List.getD_eq_getElem?_getD, List.getElem?_eq_none (by rw [masks_len]; simpa using hb)] at h
    simp at h
  | some b =>
    obtain ⟨acc', h1, h2⟩ := masks_at ops [] j b hb
    simp only [List.length_nil, Nat.zero_add] at h1
    rw [h1] at h
    rcases maskOf_bit acc' i _ _ h with h | ⟨e, he, hbd, h⟩
    · simp at h
    · refine ⟨b, rfl, e, he, hbd, ?_⟩
      rcases h with h | h
      · exact .inl h
      · right
        rcases h2 e.on with q | q
        · unfold waitsFor; rw [← q]; exact h
        · rw [q] at h; simp at h

structure DrawOk (P : Program) (fls : List Nat) (ops : List Oper) : Prop where
  back : ∀ (j : Nat) (b : Oper), ops[j]? = some b → ∀ e ∈ b.after.toList, Region.binds .any e = true → e.on < j
  guard : ∀ (j : Nat) (b : Oper) (g : Nat) (want : Bool), ops[j]? = some b → b.guard = some (g, want) → waitsFor ops j g = true
  once : ∀ (i j : Nat) (a b : Oper) (d : Tmp), ops[i]? = some a → ops[j]? = some b → i ≠ j → a.dst = some d → b.dst ≠ some d
  reads : ∀ (i j : Nat) (a b : Oper) (d : Tmp), ops[i]? = some a → ops[j]? = some b → i ≠ j → a.dst = some d → d ∈ opTmps b → waitsFor ops j i = true
  chain : ∀ (i j : Nat) (a b : Oper), ops[i]? = some a → ops[j]? = some b → i < j → acts P a = true → acts P b = true → i ∉ fls → j ∉ fls → waitsFor ops j i = true
theorem drawOk_spec {fls : List Nat} {ops : List Oper} (h : drawOk P fls ops = true) : DrawOk P fls ops := by
  have lt : ∀ {j : Nat} {b : Oper}, ops[j]? = some b → j < ops.length := fun {j b} e => (List.getElem?_eq_some_iff.1 e).1
  have row : ∀ (j : Nat) (b : Oper), ops[j]? = some b → _ := fun j b hb => by
    have h1 := List.all_eq_true.1 h j (List.mem_range.2 (lt hb))
    rw [hb] at h1
    simp only [Bool.and_eq_true] at h1
    exact h1
  have pair : ∀ (i j : Nat) (a b : Oper), ops[i]? = some a → ops[j]? = some b → i ≠ j → _ := fun i j a b ha hb hne => by
    have h1 := List.all_eq_true.1 (row j b hb).2 i (List.mem_range.2 (lt ha))
    rw [ha] at h1
    simp only [Bool.or_eq_true, Bool.and_eq_true] at h1
    exact h1.resolve_left (fun q => hne (Nat.eq_of_beq_eq_true q))
  refine ⟨fun j b hb e he hbd => ?_, fun j b g want hb hg => ?_, fun i j a b d ha hb hne hd => ?_, fun i j a b d ha hb hne hd hm => ?_, fun i j a b ha hb hlt h1 h2 h3 h4 => ?_⟩
  · have := List.all_eq_true.1 (row j b hb).1.1 e he
    rw [hbd] at this
    simp only [Bool.not_true, Bool.false_or] at this
    exact Nat.le_of_ble_eq_true this
  · have := (row j b hb).1.2
    rw [hg] at this
    exact this
  · have := (pair i j a b ha hb hne).1
    rw [hd] at this
    simp only [Bool.and_eq_true, Bool.not_eq_true'] at this
    intro e
    rw [e] at this
    simp at this
  · have := (pair i j a b ha hb hne).1
    rw [hd] at this
    simp only [Bool.and_eq_true, Bool.or_eq_true, Bool.not_eq_true'] at this
    rcases this.2 with q | q
    · rw [List.contains_iff_mem.2 hm] at q; cases q
    · exact q
  · have := (pair i j a b ha hb (Nat.ne_of_lt hlt)).2
    have e3 : fls.contains i = false := by cases q : fls.contains i with | false => rfl | true => exact absurd (List.contains_iff_mem.1 q) h3
    have e4 : fls.contains j = false := by cases q : fls.contains j with | false => rfl | true => exact absurd (List.contains_iff_mem.1 q) h4
    simp only [Bool.not_eq_true', h1, h2, e3, e4, Bool.not_false, Bool.true_and] at this
    rcases this with q | q
    · rw [show i.blt j = true from Nat.ble_eq_true_of_le hlt] at q; cases q
    · exact q

def Closed (ops : List Oper) (L : Nat → Bool) : Prop := ∀ (j : Nat) (b : Oper), ops[j]? = some b → L j = true → ∀ e ∈ b.after.toList, Region.binds .any e = true → L e.on = true
theorem waits_listed {fls : List Nat} {ops : List Oper} {L : Nat → Bool} (hd : DrawOk P fls ops) (hc : Closed ops L) : ∀ (j i : Nat), waitsFor ops j i = true → (∀ b, ops[j]? = some b → ∀ e ∈ b.after.toList, Region.binds .any e = true → L e.on = true) → L i = true := by
  intro j
  induction j using Nat.strongRecOn with
  | _ j ih =>
    intro i h hp
    obtain ⟨b, hb, e, he, hbd, h1⟩ := waitsFor_spec h
    have hl := hp b hb e he hbd
    rcases h1 with rfl | h1
    · exact hl
    · exact ih e.on (hd.back j b hb e he hbd) i h1 (fun b' hb' e' he' hbd' => hc e.on b' hb' hl e' he' hbd')
theorem waits_lt {fls : List Nat} {ops : List Oper} (hd : DrawOk P fls ops) : ∀ (j i : Nat), waitsFor ops j i = true → i < j := by
  intro j
  induction j using Nat.strongRecOn with
  | _ j ih =>
    intro i h
    obtain ⟨b, hb, e, he, hbd, h1⟩ := waitsFor_spec h
    have hlt := hd.back j b hb e he hbd
    rcases h1 with rfl | h1
    · exact hlt
    · exact Nat.lt_trans (ih e.on hlt i h1) hlt

/-! The run in the order of the text. -/
theorem runTr_of {call : CallF} {ops : List Oper} : ∀ (l : List Oper) (fr : AFr) (σ : AHeap) (r : AFr × AHeap), runOps P call ops l fr σ = some r → ∃ tr, runTr P call ops l fr σ = some (tr, r)
  | [], fr, σ, r, h => by simp only [runOps, Option.some.injEq] at h; subst h; exact ⟨[], rfl⟩
  | o :: l, fr, σ, r, h => by
    rw [runOps] at h
    rw [runTr]
    split at h
    · rename_i hw
      obtain ⟨tr, ht⟩ := runTr_of l _ _ r h
      rw [ht]
      exact ⟨_, rfl⟩
    · rename_i hw
      split at h
      · cases h
      · rename_i v σ2 ha
        obtain ⟨tr, ht⟩ := runTr_of l _ _ r h
        rw [ht]
        exact ⟨_, rfl⟩
def trF (tr : List (AFr × AHeap × Value)) (fin : AFr) (i : Nat) : AFr := match tr[i]? with | some (f, _, _) => f | none => fin
def trS (tr : List (AFr × AHeap × Value)) (fin : AHeap) (i : Nat) : AHeap := match tr[i]? with | some (_, s, _) => s | none => fin
def trV (tr : List (AFr × AHeap × Value)) (i : Nat) : Value := match tr[i]? with | some (_, _, v) => v | none => undef
structure Run (P : Program) (call : CallF) (ops l : List Oper) (fr : AFr) (σ : AHeap) (tr : List (AFr × AHeap × Value)) (fr' : AFr) (σ' : AHeap) : Prop where
  len : tr.length = l.length
  f0 : trF tr fr' 0 = fr
  s0 : trS tr σ' 0 = σ
  step : ∀ i o, l[i]? = some o → trF tr fr' (i + 1) = (trF tr fr' i).put o.dst (trV tr i) ∧
    ((wanted' ops (trF tr fr' i) o = true ∧ aop P call o (trF tr fr' i) (trS tr σ' i) = some (trV tr i, trS tr σ' (i + 1))) ∨ (wanted' ops (trF tr fr' i) o = false ∧ trV tr i = undef ∧ trS tr σ' (i + 1) = trS tr σ' i))
theorem runTr_run {call : CallF} {ops : List Oper} : ∀ (l : List Oper) (fr : AFr) (σ : AHeap) (tr : List (AFr × AHeap × Value)) (fr' : AFr) (σ' : AHeap), runTr P call ops l fr σ = some (tr, fr', σ') → Run P call ops l fr σ tr fr' σ'
  | [], fr, σ, tr, fr', σ', h => by
    simp only [runTr, Option.some.injEq, Prod.mk.injEq] at h
    obtain ⟨rfl, rfl, rfl⟩ := h
    exact ⟨rfl, rfl, rfl, fun i o h => by simp at h⟩
  | o :: l, fr, σ, tr, fr', σ', h => by
    rw [runTr] at h
    have put : ∀ {v : Value} {s : AHeap} {t : List (AFr × AHeap × Value)}, Run P call ops l (fr.put o.dst v) s t fr' σ' → ((wanted' ops fr o = true ∧ aop P call o fr σ = some (v, s)) ∨ (wanted' ops fr o = false ∧ v = undef ∧ s = σ)) → tr = (fr, σ, v) :: t → Run P call ops (o :: l) fr σ tr fr' σ' := by
      intro v s t R hs e
      subst e
      refine ⟨by simp [R.len], rfl, rfl, fun i q hq => ?_⟩
      cases i with
      | zero =>
        simp at hq; subst hq
        have e1 : trF ((fr, σ, v) :: t) fr' 1 = trF t fr' 0 := rfl
        have e2 : trS ((fr, σ, v) :: t) σ' 1 = trS t σ' 0 := rfl
        rw [e1, e2, R.f0, R.s0]
        exact ⟨rfl, hs⟩
      | succ i => exact R.step i q (by simpa using hq)
    split at h
    · rename_i hw
      split at h
      · rename_i t r ht
        cases h
        exact put (runTr_run l _ _ _ _ _ ht) (.inr ⟨hw, rfl, rfl⟩) rfl
      · cases h
    · rename_i hw
      split at h
      · cases h
      · rename_i v s ha
        split at h
        · rename_i t r ht
          cases h
          exact put (runTr_run l _ _ _ _ _ ht) (.inl ⟨hw, ha⟩) rfl
        · cases h
end Go.AE
end
/- A region whose order is drawn: every order comes to what the order of the text comes to. -/
section
set_option linter.all false
namespace Go.AE
variable {D : Prop} {P : Program}

theorem aop_pure {call : CallF} {o : Oper} {fr : AFr} {σ σ1 : AHeap} {v : Value} (hc : clsOf P o.op = .pure) (h : aop P call o fr σ = some (v, σ1)) : σ1 = σ ∧ ∀ σ2, aop P call o fr σ2 = some (v, σ2) := by
  obtain ⟨dst, op, ty, pos, after, guard⟩ := o
  cases op
  case move x => simp only [aop, Option.some.injEq, Prod.mk.injEq] at h ⊢; obtain ⟨rfl, rfl⟩ := h; simp
  case assign x => simp only [aop, Option.some.injEq, Prod.mk.injEq] at h ⊢; obtain ⟨rfl, rfl⟩ := h; simp
  case pick c x y => simp only [aop] at h ⊢; split at h <;> simp_all
  case build t ps => simp only [aop] at h ⊢; obtain ⟨h1, rfl⟩ := map_pair h; exact ⟨rfl, fun σ2 => by rw [h1]; rfl⟩
  case nilCheck x => simp only [aop] at h ⊢; split at h <;> simp_all
  case binOp op t x y yt => simp only [aop] at h ⊢; obtain ⟨h1, rfl⟩ := map_pair h; exact ⟨rfl, fun σ2 => by rw [h1]; rfl⟩
  case unOp op t x => simp only [aop] at h ⊢; obtain ⟨h1, rfl⟩ := map_pair h; exact ⟨rfl, fun σ2 => by rw [h1]; rfl⟩
  case makeInterface t x => simp only [aop] at h ⊢; split at h <;> simp_all
  case makeFunc fn x y => simp only [aop, Option.some.injEq, Prod.mk.injEq] at h ⊢; obtain ⟨rfl, rfl⟩ := h; simp
  case fieldAddr s x f => simp only [aop] at h ⊢; obtain ⟨h1, rfl⟩ := map_pair h; exact ⟨rfl, fun σ2 => by rw [h1]; rfl⟩
  case field s x f => simp only [aop] at h ⊢; obtain ⟨h1, rfl⟩ := map_pair h; exact ⟨rfl, fun σ2 => by rw [h1]; rfl⟩
  case indexAddr s x f => simp only [aop] at h ⊢; obtain ⟨h1, rfl⟩ := map_pair h; exact ⟨rfl, fun σ2 => by rw [h1]; rfl⟩
  case index s x f => simp only [aop] at h ⊢; obtain ⟨h1, rfl⟩ := map_pair h; exact ⟨rfl, fun σ2 => by rw [h1]; rfl⟩
  case typeAssert x xt as ok => simp only [aop] at h ⊢; obtain ⟨h1, rfl⟩ := map_pair h; exact ⟨rfl, fun σ2 => by rw [h1]; rfl⟩
  case extract t ix =>
    simp only [aop] at h ⊢
    split at h
    · obtain ⟨h1, rfl⟩ := map_pair h; exact ⟨rfl, fun σ2 => by rw [h1]; rfl⟩
    · cases h
  case sliceToArrayPointer arr x =>
    simp only [aop] at h ⊢
    split at h
    · split at h
      · split at h
        · split at h
          · rename_i hb
            cases h
            exact ⟨rfl, fun σ2 => by rfl⟩
          · cases h
        · cases h
      · cases h
    · cases h
  case convert s d x => simp only [clsOf] at hc; split at hc <;> cases hc
  case call c =>
    obtain ⟨callee, args, ats⟩ := c
    cases callee with
    | builtin b => simp only [clsOf] at hc; split at hc <;> cases hc
    | _ => simp [clsOf] at hc
  all_goals (simp [clsOf] at hc)
theorem conv_reads {src dst : TypeId} {x v : Value} {σ σ1 : AHeap} (hd : ∀ e, P.underlying dst ≠ some (.slice e)) (h : conv P src dst x σ = some (v, σ1)) : σ1 = σ := by
  unfold conv at h
  split at h
  · rename_i s d hs hdd
    split at h
    · exact (map_pair h).2
    · exact (map_pair h).2
    · split at h
      · cases h; rfl
      · rename_i e; exact absurd hdd (hd e)
      · cases h
    · split at h
      · rename_i e0 e; exact absurd hdd (hd e)
      · split at h
        · split at h
          · split at h
            · cases h; rfl
            · cases h
          · cases h
        · cases h
      · cases h
    · cases h
  · cases h
theorem aop_reads {call : CallF} {o : Oper} {fr : AFr} {σ σ1 : AHeap} {v : Value} (hc : clsOf P o.op = .reads) (h : aop P call o fr σ = some (v, σ1)) : σ1 = σ := by
  obtain ⟨dst, op, ty, pos, after, guard⟩ := o
  cases op
  case load t x =>
    simp only [aop] at h
    split at h
    · exact (map_pair h).2
    · cases h
  case lookup t x ix ok => simp only [aop] at h; exact (map_pair h).2
  case entry it => simp only [aop] at h; exact (map_pair h).2
  case slice t x lo hi mx => simp only [aop] at h; exact (map_pair h).2
  case convert s d x =>
    simp only [aop] at h
    simp only [clsOf] at hc
    split at hc
    · cases hc
    · rename_i hn; exact conv_reads (fun e q => hn e q) h
  case call c =>
    obtain ⟨callee, args, ats⟩ := c
    cases callee with
    | builtin b =>
      simp only [aop] at h
      simp only [clsOf] at hc
      generalize args.toList.map fr.eval = xs at h
      unfold builtin' at h
      split at hc
      all_goals try (cases hc; done)
      all_goals
        split at h
        all_goals first
          | contradiction
          | (cases h; done)
          | exact (map_pair h).2
          | (split at h <;> first | (cases h; rfl) | (cases h; done) | (split at h <;> first | (cases h; rfl) | (cases h; done)))
    | _ => simp [clsOf] at hc
  all_goals (simp [clsOf] at hc)
theorem sameV_eq : ∀ (n : Nat) (a b : Value), sameV n a b = true → a = b
  | 0, _, _, h => by simp [sameV] at h
  | n + 1, a, b, h => by
    have ih := sameV_eq n
    have ls : ∀ {x y : Array Value}, (x.size.beq y.size && (x.toList.zip y.toList).all fun (p, q) => sameV n p q) = true → x = y := fun {x y} e => by
      simp only [Bool.and_eq_true, beq_tf, decide_eq_true_eq] at e
      apply Array.ext e.1
      intro i h1 h2
      have := List.all_eq_true.1 e.2 (x[i], y[i]) (by
        rw [List.mem_iff_getElem?]
        exact ⟨i, by rw [List.getElem?_zip_eq_some]; simp [h1, h2]⟩)
      exact ih _ _ this
    unfold sameV at h
    split at h <;> first
      | (cases h; done)
      | rfl
      | (simp at h; subst h; rfl)
      | (simp at h; obtain ⟨rfl, rfl⟩ := h; rfl)
      | skip
    all_goals first
      | (rw [Bool.and_eq_true, Bool.and_eq_true] at h; obtain ⟨h1, h2, h3⟩ := h; rw [Nat.eq_of_beq_eq_true h1, ls h2, ls h3]; done)
      | (simp only [Bool.and_eq_true, beq_iff_eq, beq_tf, decide_eq_true_eq] at h; obtain ⟨rfl, h⟩ := h; rw [h]; done)
      | (rw [ls h]; done)
      | (simp only [beq_iff_eq] at h; rename_i x y; cases x; cases y; simp only at h; rw [Array.toList_inj.1 h]; done)
      | (simp only [Bool.and_eq_true, beq_iff_eq, beq_tf, decide_eq_true_eq] at h; obtain ⟨⟨rfl, rfl⟩, rfl⟩ := h; rfl; done)
      | (simp only [Bool.and_eq_true, beq_tf, decide_eq_true_eq] at h; obtain ⟨rfl, h⟩ := h; rw [ih _ _ h]; done)
end Go.AE
end
/- Every order of a drawn region. -/
section
set_option linter.all false
namespace Go.AE
variable {D : Prop} {P : Program}

/-- Where no operation acts, the heap stays. -/
theorem Run.same {call : CallF} {ops : List Oper} {fr fr' : AFr} {σ σ' : AHeap} {tr : List (AFr × AHeap × Value)} (R : Run P call ops ops fr σ tr fr' σ') : ∀ (d k : Nat), k + d ≤ ops.length → (∀ j o, k ≤ j → j < k + d → ops[j]? = some o → acts P o = false) → trS tr σ' (k + d) = trS tr σ' k
  | 0, k, _, _ => rfl
  | d + 1, k, hle, hn => by
    obtain ⟨o, ho⟩ : ∃ o, ops[k + d]? = some o := ⟨ops[k + d]'(by omega), List.getElem?_eq_getElem (by omega)⟩
    have ih := R.same d k (by omega) (fun j o h1 h2 h3 => hn j o h1 (by omega) h3)
    rw [← ih, show k + (d + 1) = k + d + 1 by omega]
    have hna := hn (k + d) o (by omega) (by omega) ho
    rcases (R.step (k + d) o ho).2 with ⟨_, ha⟩ | ⟨_, _, hs⟩
    · unfold acts at hna
      cases hc : clsOf P o.op with
      | acts => rw [hc] at hna; cases hna
      | pure => exact (aop_pure hc ha).1
      | reads => exact aop_reads hc ha
    · exact hs
theorem Run.f_n {call : CallF} {ops : List Oper} {fr fr' : AFr} {σ σ' : AHeap} {tr : List (AFr × AHeap × Value)} (R : Run P call ops ops fr σ tr fr' σ') : ∀ m, m ≤ ops.length → (trF tr fr' m).n = fr.n
  | 0, _ => by rw [R.f0]
  | m + 1, h => by
    obtain ⟨o, ho⟩ : ∃ o, ops[m]? = some o := ⟨ops[m]'(by omega), List.getElem?_eq_getElem (by omega)⟩
    rw [(R.step m o ho).1, AFr.put_n, R.f_n m (by omega)]
theorem Run.f_at {call : CallF} {ops : List Oper} {fr fr' : AFr} {σ σ' : AHeap} {tr : List (AFr × AHeap × Value)} (hd : DrawOk P [] ops) (R : Run P call ops ops fr σ tr fr' σ') (t : Nat) : ∀ m, m ≤ ops.length →
    (∀ i o, i < m → ops[i]? = some o → o.dst = some t → (trF tr fr' m).at_ t = if t < fr.n then trV tr i else fr.at_ t) ∧ ((∀ i o, i < m → ops[i]? = some o → o.dst ≠ some t) → (trF tr fr' m).at_ t = fr.at_ t)
  | 0, _ => ⟨fun i o h => by omega, fun _ => by rw [R.f0]⟩
  | m + 1, h => by
    obtain ⟨o, ho⟩ : ∃ o, ops[m]? = some o := ⟨ops[m]'(by omega), List.getElem?_eq_getElem (by omega)⟩
    obtain ⟨h1, h2⟩ := R.f_at hd t m (by omega)
    rw [(R.step m o ho).1]
    have hn := R.f_n m (by omega)
    refine ⟨fun i oi hi hoi hdi => ?_, fun hno => ?_⟩
    · rw [AFr.put_at, hn]
      by_cases e : i = m
      · subst e
        rw [ho] at hoi; cases hoi
        by_cases ht : t < fr.n
        · rw [if_pos ⟨hdi, ht⟩, if_pos ht]
        · rw [if_neg (fun q => ht q.2), if_neg ht]
          exact h2 fun j oj hj hoj hdj => hd.once i j o oj t ho hoj (by omega) hdi hdj
      · rw [if_neg (fun q => hd.once i m oi o t hoi ho e hdi q.1)]
        exact h1 i oi (by omega) hoi hdi
    · rw [AFr.put_at, if_neg (fun q => hno m o (by omega) ho q.1)]
      exact h2 fun j oj hj hoj => hno j oj (by omega) hoj
theorem unruly_mem {ops : List Oper} {u i : Nat} {a b : Oper} (hu : ops[u]? = some a) (hi : ops[i]? = some b) (ha : acts P a = true) (hb : isReads P b = true) (h1 : waitsFor ops u i = false) (h2 : waitsFor ops i u = false) : (u, i) ∈ unruly P ops := by
  unfold unruly
  rw [List.mem_flatMap]
  refine ⟨u, List.mem_range.2 (List.getElem?_eq_some_iff.1 hu).1, ?_⟩
  rw [hu]
  simp only [ha]
  rw [List.mem_filterMap]
  refine ⟨i, List.mem_range.2 (List.getElem?_eq_some_iff.1 hi).1, ?_⟩
  rw [hi]
  simp [hb, h1, h2]
theorem retells_spec {call : CallF} {o : Oper} {fr : AFr} {v : Value} {σ : AHeap} (hc : clsOf P o.op = .reads) (h : retells P call o fr v σ = true) : aop P call o fr σ = some (v, σ) := by
  unfold retells at h
  split at h
  · rename_i u s ha
    rw [ha, sameV_eq 6 u v h, aop_reads hc ha]
  · cases h
theorem retold_spec {call : CallF} {ops : List Oper} {tr : List (AFr × AHeap × Value)} {fin : AHeap} {fr' : AFr} : ∀ (ps : List (Nat × Nat)) (u i : Nat) (o : Oper), retold P call ops tr fin ps = true → (u, i) ∈ ps → ops[i]? = some o → clsOf P o.op = .reads → wanted' ops (trF tr fr' i) o = true →
    aop P call o (trF tr fr' i) (trS tr fin u) = some (trV tr i, trS tr fin u) ∧ aop P call o (trF tr fr' i) (trS tr fin (u + 1)) = some (trV tr i, trS tr fin (u + 1))
  | [], _, _, _, _, hm, _, _, _ => by simp at hm
  | (u0, i0) :: rest, u, i, o, h, hm, ho, hc, hw => by
    rw [retold] at h
    simp only [Bool.and_eq_true] at h
    rcases List.mem_cons.1 hm with e | hm
    · simp only [Prod.mk.injEq] at e
      have h1 := h.1
      rw [← e.1, ← e.2, ho] at h1
      cases hi : tr[i]? with
      | none => rw [hi] at h1; simp at h1
      | some p =>
        obtain ⟨f, s, v⟩ := p
        cases hu : tr[u]? with
        | none => rw [hi, hu] at h1; simp at h1
        | some q =>
          obtain ⟨f2, s2, v2⟩ := q
          rw [hi, hu] at h1
          have e1 : trF tr fr' i = f := by unfold trF; rw [hi]
          have e2 : trV tr i = v := by unfold trV; rw [hi]
          have e3 : trS tr fin u = s2 := by unfold trS; rw [hu]
          rw [e1] at hw
          simp only [hw, Bool.and_eq_true] at h1
          rw [e1, e2, e3]
          exact ⟨retells_spec hc h1.1, retells_spec hc h1.2⟩
    · exact retold_spec rest u i o h.2 hm ho hc hw

/-- Where the run of a region stands, some operations done. -/
structure Stands (D : Prop) (P : Program) (gs : List Nat) (ops : List Oper) (tr : List (AFr × AHeap × Value)) (fr : AFr) (σ' : AHeap) (ρ0 : Ren) (σ0 : AHeap) (w0 : World) (a0 : Act) (L : Nat → Bool) (a : Act) (w : World) : Prop where
  closed : Closed ops L
  defers : a.defers = a0.defers
  size : a.tmps.size = fr.n
  at_ : ∃ ρ k, k ≤ ops.length ∧ (∀ j o, ops[j]? = some o → acts P o = true → (L j = true ↔ j < k)) ∧ Rel P ρ (trS tr σ' k) w ∧ Ext D ρ0 σ0 w0 ρ (trS tr σ' k) w ∧ Gl gs ρ ∧
    (∀ i o t, ops[i]? = some o → o.dst = some t → L i = true → t < fr.n → VR P ρ (trV tr i) (a.tmps.getD t undef)) ∧
    (∀ t, ((∀ i o, ops[i]? = some o → o.dst = some t → L i = false) ∨ ¬ t < fr.n) → VR P ρ (fr.at_ t) (a.tmps.getD t undef))
def listedOf (listed : Array Bool) (i : Nat) : Bool := listed.getD i false

theorem count_set (n : Nat) (L L' : Nat → Bool) (i : Nat) (hi : i < n) (h0 : L i = false) (h1 : ∀ j, L' j = if j = i then true else L j) : ((List.range n).countP fun j => !L j) = ((List.range n).countP fun j => !L' j) + 1 := by
  have gen : ∀ l : List Nat, l.Nodup → (l.countP fun j => !L j) = (l.countP fun j => !L' j) + if i ∈ l then 1 else 0 := by
    intro l
    induction l with
    | nil => intro _; simp
    | cons a l ih =>
      intro hn
      rw [List.nodup_cons] at hn
      have ih := ih hn.2
      rw [List.countP_cons, List.countP_cons, ih]
      by_cases e : a = i
      · subst e
        rw [h1 a, if_pos rfl, h0, if_neg hn.1]
        simp
      · rw [h1 a, if_neg e]
        have : (i ∈ a :: l) ↔ i ∈ l := by simp [Ne.symm e]
        simp only [this]
        omega
  rw [gen _ List.nodup_range, if_pos (List.mem_range.2 hi)]

theorem draw_step {gs : List Nat} {call : CallF} (hcall : CallS D P gs call) {ops : List Oper} (hok : ∀ o ∈ ops, operOk gs o = true) (hd : DrawOk P [] ops) {fr fr' : AFr} {σ σ' : AHeap} {tr : List (AFr × AHeap × Value)} (R : Run P call ops ops fr σ tr fr' σ') (hret : retold P call ops tr σ' (unruly P ops) = true)
    {ρ0 : Ren} {w0 : World} {a0 : Act} {L L' : Nat → Bool} {a : Act} {w : World} {K : Act → World → Prop} {Q : Exit → Act → World → Prop} {i : Nat} {o : Oper}
    (J : Stands D P gs ops tr fr σ' ρ0 σ w0 a0 L a w) (ho : ops[i]? = some o) (hL : L i = false) (hpre : ∀ e ∈ o.after.toList, Region.binds .any e = true → L e.on = true) (hL' : ∀ j, L' j = if j = i then true else L j)
    (hK : ∀ a' w', Stands D P gs ops tr fr σ' ρ0 σ w0 a0 L' a' w' → K a' w') : wpOp P ops.toArray Q i K a w := by
  obtain ⟨hcl, hdf, hsz, ρ, k, hk, hact, hR, hE, hG, ht1, ht2⟩ := J
  have hpre' : ∀ b, ops[i]? = some b → ∀ e ∈ b.after.toList, Region.binds .any e = true → L e.on = true := fun b hb => by rw [ho] at hb; cases hb; exact hpre
  have hin : i < ops.length := (List.getElem?_eq_some_iff.1 ho).1
  -- what the operation sees
  have slot : ∀ t, (∀ j oj, ops[j]? = some oj → j ≠ i → oj.dst = some t → waitsFor ops i j = true) → VR P ρ ((trF tr fr' i).at_ t) (a.tmps.getD t undef) := by
    intro t hw
    obtain ⟨f1, f2⟩ := R.f_at hd t i (by omega)
    by_cases hex : ∃ j oj, ops[j]? = some oj ∧ j ≠ i ∧ oj.dst = some t
    · obtain ⟨j, oj, hj, hne, hdj⟩ := hex
      have hwj := hw j oj hj hne hdj
      have hlt := waits_lt hd i j hwj
      have hlj := waits_listed hd hcl i j hwj hpre'
      rw [f1 j oj hlt hj hdj]
      split
      · rename_i htn; exact ht1 j oj t hj hdj hlj htn
      · rename_i htn; exact ht2 t (.inr htn)
    · rw [f2 fun j oj hlt hj hdj => hex ⟨j, oj, hj, by omega, hdj⟩]
      refine ht2 t (.inl fun j oj hj hdj => ?_)
      by_cases e : j = i
      · subst e; exact hL
      · exact absurd ⟨j, oj, hj, e, hdj⟩ hex
  have hops : ∀ x ∈ o.op.operands.toList, VR P ρ ((trF tr fr' i).eval x) (a.eval x) := fun x hx =>
    eval_sound (List.all_eq_true.1 (hok o (List.mem_of_getElem? ho)) x hx) hG fun t e => slot t fun j oj hj hne hdj => hd.reads j i oj o t hj ho hne hdj (by
      subst e; unfold opTmps; rw [List.mem_filterMap]; exact ⟨_, hx, rfl⟩)
  have hwant : Region.wanted o (yielded ops.toArray a.tmps) = wanted' ops (trF tr fr' i) o := wanted_sound (P := P) (ρ := ρ) fun g want o2 t hg ho2 hdt => slot t fun j oj hj hne hdj => by
    have hgj : g = j := by
      rcases Nat.decEq g j with q | q
      · exact absurd hdj (hd.once g j o2 oj t ho2 hj q hdt)
      · exact q
    rw [← hgj]
    exact hd.guard i o g want ho hg
  -- what stands behind it
  have next : ∀ (ρ' : Ren) (k' : Nat) (v' : Value) (w' : World), k' ≤ ops.length → (∀ j q, ops[j]? = some q → acts P q = true → (L' j = true ↔ j < k')) → VR P ρ' (trV tr i) v' → ρ.le ρ' → Rel P ρ' (trS tr σ' k') w' → Ext D ρ0 σ w0 ρ' (trS tr σ' k') w' → K (a.put o.dst v') w' := by
    intro ρ' k' v' w' hk' ha' hv hle hR' hE'
    refine hK _ _ ⟨fun j b hb hj e he hbd => ?_, (put_defers _ _ _).trans hdf, by rw [put_size, hsz], ρ', k', hk', ha', hR', hE', hG.mono hle, fun j q t hq hdq hj htn => ?_, fun t htt => ?_⟩
    · rw [hL'] at hj ⊢
      split
      · rfl
      · split at hj
        · rename_i e1; subst e1; rw [ho] at hb; cases hb; exact hpre e he hbd
        · exact hcl j b hb hj e he hbd
    · rw [put_getD, hsz]
      by_cases e : j = i
      · subst e
        rw [ho] at hq; cases hq
        rw [if_pos ⟨hdq, htn⟩]; exact hv
      · rw [if_neg (fun z => hd.once j i q o t hq ho e hdq z.1)]
        rw [hL', if_neg e] at hj
        exact (ht1 j q t hq hdq hj htn).mono hle
    · rw [put_getD, hsz]
      by_cases e : o.dst = some t ∧ t < fr.n
      · exfalso
        rcases htt with z | z
        · have := z i o ho e.1; rw [hL', if_pos rfl] at this; cases this
        · exact z e.2
      · rw [if_neg e]
        refine (ht2 t ?_).mono hle
        rcases htt with z | z
        · left
          intro j q hq hdq
          have := z j q hq hdq
          rw [hL'] at this
          split at this
          · cases this
          · exact this
        · exact .inr z
  have quiet : acts P o = false → ∀ j q, ops[j]? = some q → acts P q = true → (L' j = true ↔ j < k) := fun hna j q hq ha => by
    rw [hL', if_neg (fun e => by subst e; rw [ho] at hq; cases hq; rw [hna] at ha; cases ha)]
    exact hact j q hq ha
  have before : acts P o = true → trS tr σ' i = trS tr σ' k ∧ k ≤ i := fun ha => by
    have hki : k ≤ i := by
      rcases Nat.lt_or_ge i k with q | q
      · rw [(hact i o ho ha).2 q] at hL; cases hL
      · exact q
    refine ⟨?_, hki⟩
    have := R.same (i - k) k (by omega) (fun j q h1 h2 hq => by
      cases hqa : acts P q with
      | false => rfl
      | true =>
        have hw := hd.chain j i q o hq ho (by omega) hqa ha (by simp) (by simp)
        have := (hact j q hq hqa).1 (waits_listed hd hcl i j hw hpre')
        omega)
    rwa [show k + (i - k) = i by omega] at this
  have after : acts P o = true → ∀ j q, ops[j]? = some q → acts P q = true → (L' j = true ↔ j < i + 1) := fun ha j q hq hqa => by
    rw [hL']
    by_cases e : j = i
    · subst e; simp
    · rw [if_neg e, hact j q hq hqa]
      have hki := (before ha).2
      constructor
      · intro h; omega
      · intro h
        have hji : j < i := by omega
        exact (hact j q hq hqa).1 (waits_listed hd hcl i j (hd.chain j i q o hq ho hji hqa ha (by simp) (by simp)) hpre')
  unfold wpOp
  rw [List.getElem?_toArray, ho]
  simp only
  rw [hwant]
  rcases (R.step i o ho).2 with ⟨hw, ha⟩ | ⟨hw, hv, hs⟩
  · rw [hw]
    simp only [if_true]
    left
    cases hc : clsOf P o.op with
    | acts =>
      have hac : acts P o = true := by unfold acts; rw [hc]
      obtain ⟨e1, e2⟩ := before hac
      rw [e1] at ha
      refine aop_sound hcall ha hops hG hR fun ρ' v' w' hv hR' hE' => ?_
      exact next ρ' (i + 1) v' w' (by omega) (after hac) hv hE'.ren hR' (hE.trans hE')
    | pure =>
      have hac : acts P o = false := by unfold acts; rw [hc]
      have ha2 := (aop_pure hc ha).2 (trS tr σ' k)
      refine aop_sound hcall ha2 hops hG hR fun ρ' v' w' hv hR' hE' => ?_
      exact next ρ' k v' w' hk (quiet hac) hv hE'.ren hR' (hE.trans hE')
    | reads =>
      have hac : acts P o = false := by unfold acts; rw [hc]
      have hrd : isReads P o = true := by unfold isReads; rw [hc]
      have ha2 : aop P call o (trF tr fr' i) (trS tr σ' k) = some (trV tr i, trS tr σ' k) := by
        have hsame := aop_reads hc ha
        rcases Nat.lt_or_ge i k with hik | hik
        · -- something that acts was done ahead of it
          by_cases hex : ∃ u q, i < u ∧ u < k ∧ ops[u]? = some q ∧ acts P q = true
          · -- the last such
            have : ∃ u q, i < u ∧ u < k ∧ ops[u]? = some q ∧ acts P q = true ∧ ∀ j z, u < j → j < k → ops[j]? = some z → acts P z = false := by
              obtain ⟨u, q, h1, h2, h3, h4⟩ := hex
              have key : ∀ d u q, k - u = d → i < u → u < k → ops[u]? = some q → acts P q = true → ∃ u q, i < u ∧ u < k ∧ ops[u]? = some q ∧ acts P q = true ∧ ∀ j z, u < j → j < k → ops[j]? = some z → acts P z = false := by
                intro d
                induction d using Nat.strongRecOn with
                | _ d ih =>
                  intro u q hd1 h1 h2 h3 h4
                  by_cases hl : ∃ j z, u < j ∧ j < k ∧ ops[j]? = some z ∧ acts P z = true
                  · obtain ⟨j, z, g1, g2, g3, g4⟩ := hl
                    exact ih (k - j) (by omega) j z rfl (by omega) g2 g3 g4
                  · refine ⟨u, q, h1, h2, h3, h4, fun j z g1 g2 g3 => ?_⟩
                    cases hz : acts P z with
                    | false => rfl
                    | true => exact absurd ⟨j, z, g1, g2, g3, hz⟩ hl
              exact key _ u q rfl h1 h2 h3 h4
            obtain ⟨u, q, h1, h2, h3, h4, h5⟩ := this
            have hlu : L u = true := (hact u q h3 h4).2 h2
            have w1 : waitsFor ops u i = false := by
              cases hq : waitsFor ops u i with
              | false => rfl
              | true =>
                have := waits_listed hd hcl u i hq (fun b hb e he hbd => hcl u b hb hlu e he hbd)
                rw [this] at hL; cases hL
            have w2 : waitsFor ops i u = false := by
              cases hq : waitsFor ops i u with
              | false => rfl
              | true => have := waits_lt hd i u hq; omega
            have hr := (retold_spec (fr' := fr') _ _ _ _ hret (unruly_mem h3 ho h4 hrd w1 w2) ho hc hw).2
            have hs := R.same (k - (u + 1)) (u + 1) (by omega) (fun j z g1 g2 g3 => h5 j z (by omega) (by omega) g3)
            rw [show u + 1 + (k - (u + 1)) = k by omega] at hs
            rw [hs]; exact hr
          · have hs := R.same (k - i) i (by omega) (fun j z g1 g2 g3 => by
              cases hz : acts P z with
              | false => rfl
              | true =>
                by_cases e : j = i
                · subst e; rw [ho] at g3; cases g3; rw [hac] at hz; cases hz
                · exact absurd ⟨j, z, by omega, by omega, g3, hz⟩ hex)
            rw [show i + (k - i) = k by omega] at hs
            rw [hs, ha, hsame]
        · by_cases hex : ∃ u q, k ≤ u ∧ u < i ∧ ops[u]? = some q ∧ acts P q = true
          · have : ∃ u q, k ≤ u ∧ u < i ∧ ops[u]? = some q ∧ acts P q = true ∧ ∀ j z, k ≤ j → j < u → ops[j]? = some z → acts P z = false := by
              obtain ⟨u, q, h1, h2, h3, h4⟩ := hex
              have key : ∀ u, ∀ q, k ≤ u → u < i → ops[u]? = some q → acts P q = true → ∃ u q, k ≤ u ∧ u < i ∧ ops[u]? = some q ∧ acts P q = true ∧ ∀ j z, k ≤ j → j < u → ops[j]? = some z → acts P z = false := by
                intro u
                induction u using Nat.strongRecOn with
                | _ u ih =>
                  intro q h1 h2 h3 h4
                  by_cases hl : ∃ j z, k ≤ j ∧ j < u ∧ ops[j]? = some z ∧ acts P z = true
                  · obtain ⟨j, z, g1, g2, g3, g4⟩ := hl
                    exact ih j g2 z g1 (by omega) g3 g4
                  · refine ⟨u, q, h1, h2, h3, h4, fun j z g1 g2 g3 => ?_⟩
                    cases hz : acts P z with
                    | false => rfl
                    | true => exact absurd ⟨j, z, g1, g2, g3, hz⟩ hl
              exact key u q h1 h2 h3 h4
            obtain ⟨u, q, h1, h2, h3, h4, h5⟩ := this
            have hlu : L u = false := by
              cases hq : L u with
              | false => rfl
              | true => have := (hact u q h3 h4).1 hq; omega
            have w1 : waitsFor ops u i = false := by
              cases hq : waitsFor ops u i with
              | false => rfl
              | true => have := waits_lt hd u i hq; omega
            have w2 : waitsFor ops i u = false := by
              cases hq : waitsFor ops i u with
              | false => rfl
              | true =>
                have := waits_listed hd hcl i u hq hpre'
                rw [this] at hlu; cases hlu
            have hr := (retold_spec (fr' := fr') _ _ _ _ hret (unruly_mem h3 ho h4 hrd w1 w2) ho hc hw).1
            have hs := R.same (u - k) k (by omega) (fun j z g1 g2 g3 => h5 j z g1 (by omega) g3)
            rw [show k + (u - k) = u by omega] at hs
            rw [← hs]; exact hr
          · have hs := R.same (i - k) k (by omega) (fun j z g1 g2 g3 => by
              cases hz : acts P z with
              | false => rfl
              | true => exact absurd ⟨j, z, g1, by omega, g3, hz⟩ hex)
            rw [show k + (i - k) = i by omega] at hs
            rw [← hs, ha, hsame]
      refine aop_sound hcall ha2 hops hG hR fun ρ' v' w' hv hR' hE' => ?_
      exact next ρ' k v' w' hk (quiet hac) hv hE'.ren hR' (hE.trans hE')
  · rw [hw]
    simp only [Bool.false_eq_true, if_false]
    have hv' : VR P ρ (trV tr i) undef := by rw [hv]; exact .undef
    cases hac : acts P o with
    | false => exact next ρ k undef w hk (quiet hac) hv' (Ren.le_refl _) hR hE
    | true =>
      obtain ⟨e1, e2⟩ := before hac
      exact next ρ (i + 1) undef w (by omega) (after hac) hv' (Ren.le_refl _) (by rw [hs, e1]; exact hR) (by rw [hs, e1]; exact hE)
end Go.AE
end
