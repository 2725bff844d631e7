/- How an abstract value and heap stand for the model's. -/
import Derived.Test.YtongccpmdndcgaaGreatDoorEngB
import Derived.Calls
import Derived.Below
namespace Go.AE
set_option linter.unusedVariables false
set_option linter.unusedSimpArgs false
variable {P : Program}

/-- Where an abstract block lies. -/
structure Img where
  blk : Nat
  shift : Nat
  elem : TypeId
  rows : Nat
  grown : Bool
abbrev Ren := Nat → Option Img

inductive VR (P : Program) (ρ : Ren) : Value → Value → Prop
  | atom {v : Value} (h : atom v = true) : VR P ρ v v
  | ptr {b o : Nat} {m : Img} (h : ρ b = some m) : VR P ρ (.pointer (some ⟨b, o, none⟩)) (.pointer (some ⟨m.blk, o + m.shift, none⟩))
  | slice {b o n c c' s : Nat} {m : Img} (h : ρ b = some m) (hn : n ≤ c) (hc : c ≤ c') (hx : c = c' ∨ (m.grown = true ∧ sizeOf' P m.elem = some s ∧ o + m.shift + c' * s ≤ m.rows)) :
      VR P ρ (.slice (some ⟨b, o, none⟩) n c) (.slice (some ⟨m.blk, o + m.shift, none⟩) n c')
  | tail {b o : Nat} {m : Img} {a' : Addr} (h : ρ b = some m) (hg : m.grown = true) : VR P ρ (.slice (some ⟨b, o, none⟩) 0 0) (.slice (some a') 0 0)
  | empty {a a' : Addr} {k : Nat} (h : a.spot = some k) : VR P ρ (.slice (some a) 0 0) (.slice (some a') 0 0)
  | map {b : Nat} {m : Img} (h : ρ b = some m) : VR P ρ (.map (some b)) (.map (some m.blk))
  | func {fn : Fn} {x x' y y' : Array Value} (hx : x.size = x'.size) (hxv : ∀ (i : Nat) v v', x[i]? = some v → x'[i]? = some v' → VR P ρ v v')
      (hy : y.size = y'.size) (hyv : ∀ (i : Nat) v v', y[i]? = some v → y'[i]? = some v' → VR P ρ v v') : VR P ρ (.func fn x y) (.func fn x' y')
  | iface {t : TypeId} {v v' : Value} (h : VR P ρ v v') : VR P ρ (.iface t v) (.iface t v')
  | agg {x x' : Array Value} (hx : x.size = x'.size) (hxv : ∀ (i : Nat) v v', x[i]? = some v → x'[i]? = some v' → VR P ρ v v') : VR P ρ (.agg x) (.agg x')
  | tuple {x x' : Array Value} (hx : x.size = x'.size) (hxv : ∀ (i : Nat) v v', x[i]? = some v → x'[i]? = some v' → VR P ρ v v') : VR P ρ (.tuple x) (.tuple x')

/-- Rows of values. -/
structure LR (P : Program) (ρ : Ren) (x x' : List Value) : Prop where
  len : x.length = x'.length
  at_ : ∀ (i : Nat) v v', x[i]? = some v → x'[i]? = some v' → VR P ρ v v'

theorem LR.nil {ρ : Ren} : LR P ρ [] [] := ⟨rfl, fun i v v' h => by simp at h⟩
theorem LR.cons {ρ : Ren} {v v' : Value} {x x' : List Value} (h : VR P ρ v v') (hs : LR P ρ x x') : LR P ρ (v :: x) (v' :: x') := by
  refine ⟨by simp [hs.len], fun i u u' hu hu' => ?_⟩
  cases i with
  | zero => simp at hu hu'; subst hu; subst hu'; exact h
  | succ i => simp at hu hu'; exact hs.at_ i u u' hu hu'
theorem LR.cons_inv {ρ : Ren} {v : Value} {x y : List Value} (h : LR P ρ (v :: x) y) : ∃ v' x', y = v' :: x' ∧ VR P ρ v v' ∧ LR P ρ x x' := by
  cases y with
  | nil => have := h.len; simp at this
  | cons v' x' =>
    refine ⟨v', x', rfl, h.at_ 0 v v' (by simp) (by simp), by have := h.len; simpa using this, fun i u u' hu hu' => h.at_ (i + 1) u u' (by simpa using hu) (by simpa using hu')⟩
theorem LR.nil_inv {ρ : Ren} {y : List Value} (h : LR P ρ [] y) : y = [] := by have := h.len; simp at this; exact List.eq_nil_of_length_eq_zero this.symm
theorem LR.append {ρ : Ren} {x x' y y' : List Value} (h : LR P ρ x x') (k : LR P ρ y y') : LR P ρ (x ++ y) (x' ++ y') := by
  induction x generalizing x' with
  | nil => rw [h.nil_inv]; exact k
  | cons v x ih => obtain ⟨v', r, rfl, hv, hr⟩ := h.cons_inv; exact .cons hv (ih hr)
theorem LR.get {ρ : Ren} {x x' : List Value} (h : LR P ρ x x') {i : Nat} {v : Value} (hv : x[i]? = some v) : ∃ v', x'[i]? = some v' ∧ VR P ρ v v' := by
  have hi : i < x'.length := by rw [← h.len]; exact (List.getElem?_eq_some_iff.1 hv).1
  exact ⟨x'[i], List.getElem?_eq_getElem hi, h.at_ i v _ hv (List.getElem?_eq_getElem hi)⟩
theorem LR.get' {ρ : Ren} {x x' : List Value} (h : LR P ρ x x') {i : Nat} {v' : Value} (hv : x'[i]? = some v') : ∃ v, x[i]? = some v ∧ VR P ρ v v' := by
  have hi : i < x.length := by rw [h.len]; exact (List.getElem?_eq_some_iff.1 hv).1
  exact ⟨x[i], List.getElem?_eq_getElem hi, h.at_ i _ v' (List.getElem?_eq_getElem hi) hv⟩
theorem LR.of {ρ : Ren} {x x' : List Value} (hl : x.length = x'.length) (h : ∀ (i : Nat) v, x[i]? = some v → ∃ v', x'[i]? = some v' ∧ VR P ρ v v') : LR P ρ x x' :=
  ⟨hl, fun i v v' hv hv' => by obtain ⟨u, hu, hr⟩ := h i v hv; rw [hv'] at hu; cases hu; exact hr⟩
theorem LR.take {ρ : Ren} {x x' : List Value} (h : LR P ρ x x') (n : Nat) : LR P ρ (x.take n) (x'.take n) := by
  refine ⟨by simp [h.len], fun i v v' hv hv' => ?_⟩
  rw [List.getElem?_take] at hv hv'
  split at hv <;> simp_all
  exact h.at_ i v v' hv hv'
theorem LR.drop {ρ : Ren} {x x' : List Value} (h : LR P ρ x x') (n : Nat) : LR P ρ (x.drop n) (x'.drop n) := by
  refine ⟨by simp [h.len], fun i v v' hv hv' => ?_⟩
  rw [List.getElem?_drop] at hv hv'
  exact h.at_ _ v v' hv hv'
theorem LR.map {ρ : Ren} {α : Type} {f g : α → Value} {l : List α} (h : ∀ a ∈ l, VR P ρ (f a) (g a)) : LR P ρ (l.map f) (l.map g) := by
  refine ⟨by simp, fun i v v' hv hv' => ?_⟩
  rw [List.getElem?_map] at hv hv'
  cases ha : l[i]? with
  | none => rw [ha] at hv; simp at hv
  | some a => rw [ha] at hv hv'; simp at hv hv'; subst hv; subst hv'; exact h a (List.mem_of_getElem? ha)
theorem VR.agg_iff {ρ : Ren} {x x' : Array Value} (h : LR P ρ x.toList x'.toList) : VR P ρ (.agg x) (.agg x') :=
  .agg (by have := h.len; simpa using this) (fun i v v' hv hv' => h.at_ i v v' (by simpa using hv) (by simpa using hv'))
theorem VR.tuple_iff {ρ : Ren} {x x' : Array Value} (h : LR P ρ x.toList x'.toList) : VR P ρ (.tuple x) (.tuple x') :=
  .tuple (by have := h.len; simpa using this) (fun i v v' hv hv' => h.at_ i v v' (by simpa using hv) (by simpa using hv'))
theorem VR.func_iff {ρ : Ren} {fn : Fn} {x x' y y' : Array Value} (h : LR P ρ x.toList x'.toList) (k : LR P ρ y.toList y'.toList) : VR P ρ (.func fn x y) (.func fn x' y') :=
  .func (by have := h.len; simpa using this) (fun i v v' hv hv' => h.at_ i v v' (by simpa using hv) (by simpa using hv')) (by have := k.len; simpa using this) (fun i v v' hv hv' => k.at_ i v v' (by simpa using hv) (by simpa using hv'))
theorem VR.agg_inv {ρ : Ren} {x : Array Value} {v : Value} (h : VR P ρ (.agg x) v) : ∃ x', v = .agg x' ∧ LR P ρ x.toList x'.toList := by
  cases h with
  | atom h => simp [AE.atom] at h
  | agg hx hxv => exact ⟨_, rfl, by simpa using hx, fun i v v' hv hv' => hxv i v v' (by simpa using hv) (by simpa using hv')⟩
theorem VR.tuple_inv {ρ : Ren} {x : Array Value} {v : Value} (h : VR P ρ (.tuple x) v) : ∃ x', v = .tuple x' ∧ LR P ρ x.toList x'.toList := by
  cases h with
  | atom h => simp [AE.atom] at h
  | tuple hx hxv => exact ⟨_, rfl, by simpa using hx, fun i v v' hv hv' => hxv i v v' (by simpa using hv) (by simpa using hv')⟩
theorem VR.func_inv {ρ : Ren} {fn : Fn} {x y : Array Value} {v : Value} (h : VR P ρ (.func fn x y) v) : ∃ x' y', v = .func fn x' y' ∧ LR P ρ x.toList x'.toList ∧ LR P ρ y.toList y'.toList := by
  cases h with
  | atom h => simp [AE.atom] at h
  | func hx hxv hy hyv => exact ⟨_, _, rfl, ⟨by simpa using hx, fun i v v' hv hv' => hxv i v v' (by simpa using hv) (by simpa using hv')⟩, by simpa using hy, fun i v v' hv hv' => hyv i v v' (by simpa using hv) (by simpa using hv')⟩
theorem VR.iface_inv {ρ : Ren} {t : TypeId} {x v : Value} (h : VR P ρ (.iface t x) v) : ∃ x', v = .iface t x' ∧ VR P ρ x x' := by
  cases h with
  | atom h => simp [AE.atom] at h
  | iface h => exact ⟨_, rfl, h⟩
theorem VR.ptr_inv {ρ : Ren} {a : Addr} {v : Value} (h : VR P ρ (.pointer (some a)) v) : ∃ m, ρ a.block = some m ∧ a.spot = none ∧ v = .pointer (some ⟨m.blk, a.off + m.shift, none⟩) := by
  cases h with
  | atom h => simp [AE.atom] at h
  | ptr h => exact ⟨_, h, rfl, rfl⟩
theorem VR.map_inv {ρ : Ren} {b : Nat} {v : Value} (h : VR P ρ (.map (some b)) v) : ∃ m, ρ b = some m ∧ v = .map (some m.blk) := by
  cases h with
  | atom h => simp [AE.atom] at h
  | map h => exact ⟨_, h, rfl⟩
theorem VR.atom_inv {ρ : Ren} {x v : Value} (ha : AE.atom x = true) (h : VR P ρ x v) : v = x := by
  cases h with
  | atom h => rfl
  | _ => simp [AE.atom] at ha
theorem VR.undef {ρ : Ren} : VR P ρ undef undef := .tuple rfl fun i v v' h => by simp at h
theorem VR.bool_inv {ρ : Ren} {t : Bool} {v : Value} (h : VR P ρ (.bool t) v) : v = .bool t := h.atom_inv rfl
theorem VR.int_inv {ρ : Ren} {k : IntKind} {n : Int} {v : Value} (h : VR P ρ (.int k n) v) : v = .int k n := h.atom_inv rfl
theorem VR.string_inv {ρ : Ren} {s : ByteArray} {v : Value} (h : VR P ρ (.string s) v) : v = .string s := h.atom_inv rfl
/-- A slice with an address. -/
theorem VR.slice_inv {ρ : Ren} {a : Addr} {n c : Nat} {v : Value} (h : VR P ρ (.slice (some a) n c) v) :
    (∃ m c' s, a.spot = none ∧ ρ a.block = some m ∧ n ≤ c ∧ c ≤ c' ∧ (c = c' ∨ (m.grown = true ∧ sizeOf' P m.elem = some s ∧ a.off + m.shift + c' * s ≤ m.rows)) ∧ v = .slice (some ⟨m.blk, a.off + m.shift, none⟩) n c') ∨
    (∃ m a', a.spot = none ∧ ρ a.block = some m ∧ m.grown = true ∧ n = 0 ∧ c = 0 ∧ v = .slice (some a') 0 0) ∨
    (∃ k a', a.spot = some k ∧ n = 0 ∧ c = 0 ∧ v = .slice (some a') 0 0) := by
  cases h with
  | atom h => simp [AE.atom] at h
  | @slice b o _ _ c' s m h hn hc hx => exact .inl ⟨m, c', s, rfl, h, hn, hc, hx, rfl⟩
  | tail h hg => exact .inr (.inl ⟨_, _, rfl, h, hg, rfl, rfl, rfl⟩)
  | empty h => exact .inr (.inr ⟨_, _, h, rfl, rfl, rfl⟩)

/-- One naming goes further than another. -/
def Ren.le (ρ ρ' : Ren) : Prop := ∀ b m, ρ b = some m → ρ' b = some m
theorem Ren.le_refl (ρ : Ren) : ρ.le ρ := fun _ _ h => h
theorem Ren.le_trans {ρ ρ' ρ'' : Ren} (h : ρ.le ρ') (k : ρ'.le ρ'') : ρ.le ρ'' := fun b m hb => k b m (h b m hb)
theorem VR.mono {ρ ρ' : Ren} (hle : ρ.le ρ') {v v' : Value} (h : VR P ρ v v') : VR P ρ' v v' := by
  induction h with
  | atom h => exact .atom h
  | ptr h => exact .ptr (hle _ _ h)
  | slice h hn hc hx => exact .slice (hle _ _ h) hn hc hx
  | tail h hg => exact .tail (hle _ _ h) hg
  | empty h => exact .empty h
  | map h => exact .map (hle _ _ h)
  | func hx hxv hy hyv ihx ihy => exact .func hx ihx hy ihy
  | iface h ih => exact .iface ih
  | agg hx hxv ih => exact .agg hx ih
  | tuple hx hxv ih => exact .tuple hx ih
theorem LR.mono {ρ ρ' : Ren} (hle : ρ.le ρ') {x x' : List Value} (h : LR P ρ x x') : LR P ρ' x x' := ⟨h.len, fun i v v' a b => (h.at_ i v v' a b).mono hle⟩

theorem plain_list {ρ : Ren} {n : Nat} (ih : ∀ v, plainF n v = true → VR P ρ v v) (cs : Array Value) (h : cs.toList.all (plainF n) = true) : LR P ρ cs.toList cs.toList :=
  ⟨rfl, fun i v v' hv hv' => by rw [hv] at hv'; cases hv'; exact ih v (List.all_eq_true.1 h v (List.mem_of_getElem? hv))⟩
theorem VR.of_plainF {ρ : Ren} : ∀ (n : Nat) (v : Value), plainF n v = true → VR P ρ v v
  | 0, _, h => by simp [plainF] at h
  | n + 1, v, h => by
    have ih := VR.of_plainF (ρ := ρ) n
    cases v with
    | agg cs => exact VR.agg_iff (plain_list ih cs (by simpa [plainF] using h))
    | tuple cs => exact VR.tuple_iff (plain_list ih cs (by simpa [plainF] using h))
    | func fn x y => simp only [plainF, Bool.and_eq_true] at h; exact VR.func_iff (plain_list ih x h.1) (plain_list ih y h.2)
    | iface t x => exact .iface (ih x (by simpa [plainF] using h))
    | pointer a => cases a with | none => exact .atom rfl | some a => simp [plainF] at h
    | slice a k c => cases a with | none => exact .atom rfl | some a => simp [plainF] at h
    | map r => cases r with | none => exact .atom rfl | some a => simp [plainF] at h
    | chan r => simp [plainF] at h
    | _ => exact .atom rfl
theorem VR.of_plain {ρ : Ren} {v : Value} (h : plain v = true) : VR P ρ v v := VR.of_plainF 6 v h
theorem LR.eq_of {ρ : Ren} {x x' : List Value} (h : LR P ρ x x') (he : ∀ v v', v ∈ x → VR P ρ v v' → v' = v) : x' = x := by
  apply List.ext_getElem?
  intro i
  cases hx : x[i]? with
  | none => have := List.getElem?_eq_none_iff.1 hx; exact List.getElem?_eq_none (by rw [← h.len]; exact this)
  | some v => obtain ⟨v', hv', hr⟩ := h.get hx; rw [hv', he v v' (List.mem_of_getElem? hx) hr]
theorem VR.eq_of_plainF {ρ : Ren} : ∀ (n : Nat) (v v' : Value), plainF n v = true → VR P ρ v v' → v' = v
  | 0, _, _, h, _ => by simp [plainF] at h
  | n + 1, v, v', h, hr => by
    have ih := VR.eq_of_plainF (ρ := ρ) n
    have il : ∀ (cs : Array Value), cs.toList.all (plainF n) = true → ∀ {cs' : Array Value}, LR P ρ cs.toList cs'.toList → cs' = cs := fun cs hc cs' hl =>
      Array.toList_inj.1 (hl.eq_of fun u u' hu => ih u u' (List.all_eq_true.1 hc u hu))
    cases v with
    | agg cs => obtain ⟨x', rfl, hl⟩ := hr.agg_inv; rw [il cs (by simpa [plainF] using h) hl]
    | tuple cs => obtain ⟨x', rfl, hl⟩ := hr.tuple_inv; rw [il cs (by simpa [plainF] using h) hl]
    | func fn x y => simp only [plainF, Bool.and_eq_true] at h; obtain ⟨x', y', rfl, hx, hy⟩ := hr.func_inv; rw [il x h.1 hx, il y h.2 hy]
    | iface t x => obtain ⟨x', rfl, hx⟩ := hr.iface_inv; rw [ih x x' (by simpa [plainF] using h) hx]
    | pointer a => cases a with | none => exact hr.atom_inv rfl | some a => simp [plainF] at h
    | slice a k c => cases a with | none => exact hr.atom_inv rfl | some a => simp [plainF] at h
    | map r => cases r with | none => exact hr.atom_inv rfl | some a => simp [plainF] at h
    | chan r => simp [plainF] at h
    | _ => exact hr.atom_inv rfl
theorem VR.eq_of_plain {ρ : Ren} {v v' : Value} (h : plain v = true) (hr : VR P ρ v v') : v' = v := VR.eq_of_plainF 6 v v' h hr

/-- A value has as many cells as what stands for it. -/
theorem VR.cells {ρ : Ren} {v v' : Value} (h : VR P ρ v v') : LR P ρ v.cells.toList v'.cells.toList := by
  have one : ∀ {v v' : Value}, VR P ρ v v' → LR P ρ [v] [v'] := fun h => .cons h .nil
  cases h with
  | agg hx hxv => exact ⟨by simpa [Value.cells] using hx, fun i v v' hv hv' => hxv i v v' (by simpa [Value.cells] using hv) (by simpa [Value.cells] using hv')⟩
  | @atom v h => cases v <;> first | (simp [AE.atom] at h; done) | exact one (.atom h)
  | ptr h => exact one (.ptr h)
  | slice h hn hc hx => exact one (.slice h hn hc hx)
  | tail h hg => exact one (.tail h hg)
  | empty h => exact one (.empty h)
  | map h => exact one (.map h)
  | func hx hxv hy hyv => exact one (.func hx hxv hy hyv)
  | iface h => exact one (.iface h)
  | tuple hx hxv => exact one (.tuple hx hxv)
theorem VR.single {ρ : Ren} {v v' : Value} (h : VR P ρ v v') : v'.oneCell' = single v := by
  cases h with
  | @atom v h => cases v <;> first | rfl | (simp [AE.atom] at h; done)
  | _ => rfl

/-- The world's order of an entry. -/
structure ER (P : Program) (ρ : Ren) (e e' : MapEntry) : Prop where
  key : VR P ρ e.key e'.key
  val : VR P ρ e.val e'.val
  born : e'.born = e.born
structure ELR (P : Program) (ρ : Ren) (x x' : List MapEntry) : Prop where
  len : x.length = x'.length
  at_ : ∀ (i : Nat) e e', x[i]? = some e → x'[i]? = some e' → ER P ρ e e'

def thaw (fz : Nat × Nat) (rows : Nat) : Prop := fz = (0, 0) ∨ (rows ≤ fz.1 ∧ fz.1 < fz.2)

def AObj.ro : AObj → Bool
  | .cells _ _ _ _ ro => ro
  | .map _ _ ro => ro
  | _ => false

/-- An abstract object and its block. -/
def ObjR (P : Program) (ρ : Ren) (w : World) (m : Img) : AObj → Prop
  | .cells _ c e g ro => m.elem = e ∧ m.grown = g ∧ ∃ c' fz, w.heap[m.blk]? = some (.cells c' e fz) ∧ c'.size = m.rows ∧ (ro = false → thaw fz m.rows ∧ (g = false → m.shift = 0)) ∧ ∀ i v, c.get i = some v → ∃ v', c'[i + m.shift]? = some v' ∧ VR P ρ v v'
  | .map es clock _ => m.shift = 0 ∧ ∃ es', w.heap[m.blk]? = some (.map es' clock) ∧ ELR P ρ es es'.toList
  | .strIter s pos => m.shift = 0 ∧ w.heap[m.blk]? = some (.stringIter s pos)
  | .mapIter r since seen stepped => m.shift = 0 ∧ ∃ r', w.heap[m.blk]? = some (.mapIter r' since seen.toArray stepped) ∧ VR P ρ (.map r) (.map r')

structure Rel (P : Program) (ρ : Ren) (σ : AHeap) (w : World) : Prop where
  dom : ∀ b, σ.next ≤ b → ρ b = none
  lt : ∀ b m, ρ b = some m → m.blk < w.heap.size
  obj : ∀ b o, σ.get b = some o → ∃ m, ρ b = some m ∧ ObjR P ρ w m o
  inj : ∀ b b' o o' m m', σ.get b = some o → σ.get b' = some o' → ρ b = some m → ρ b' = some m' → o.ro = false → m.blk = m'.blk → b = b'

/-- Is block k one that the abstract heap may write? -/
def Owns (ρ : Ren) (σ : AHeap) (k : Nat) : Prop := ∃ b o m, σ.get b = some o ∧ o.ro = false ∧ ρ b = some m ∧ m.blk = k

structure Ext (ρ : Ren) (σ : AHeap) (w : World) (ρ' : Ren) (σ' : AHeap) (w' : World) : Prop where
  ren : ρ.le ρ'
  next : σ.next ≤ σ'.next
  size : w.heap.size ≤ w'.heap.size
  os : w'.os = w.os
  tape : w'.tape = w.tape
  output : w'.output = w.output
  frame : ∀ k, k < w.heap.size → ¬ Owns ρ σ k → w'.heap[k]? = w.heap[k]?
  fresh : ∀ k, k < w.heap.size → Owns ρ' σ' k → Owns ρ σ k
  old : ∀ b, b < σ.next → ρ' b = ρ b
  ro : ∀ b o, σ'.get b = some o → o.ro = true → σ.get b = some o

theorem Ext.refl (ρ : Ren) (σ : AHeap) (w : World) : Ext ρ σ w ρ σ w := ⟨Ren.le_refl _, Nat.le_refl _, Nat.le_refl _, rfl, rfl, rfl, fun _ _ _ => rfl, fun _ _ h => h, fun _ _ => rfl, fun _ _ h _ => h⟩
theorem Ext.trans {ρ ρ' ρ'' : Ren} {σ σ' σ'' : AHeap} {w w' w'' : World} (h : Ext ρ σ w ρ' σ' w') (k : Ext ρ' σ' w' ρ'' σ'' w'') : Ext ρ σ w ρ'' σ'' w'' :=
  ⟨Ren.le_trans h.ren k.ren, Nat.le_trans h.next k.next, Nat.le_trans h.size k.size, k.os.trans h.os, k.tape.trans h.tape, k.output.trans h.output,
    fun i hi ho => (k.frame i (Nat.lt_of_lt_of_le hi h.size) (fun c => ho (h.fresh i hi c))).trans (h.frame i hi ho),
    fun i hi c => h.fresh i hi (k.fresh i (Nat.lt_of_lt_of_le hi h.size) c), fun b hb => (k.old b (Nat.lt_of_lt_of_le hb h.next)).trans (h.old b hb), fun b o hg hr => h.ro b o (k.ro b o hg hr) hr⟩
end Go.AE
